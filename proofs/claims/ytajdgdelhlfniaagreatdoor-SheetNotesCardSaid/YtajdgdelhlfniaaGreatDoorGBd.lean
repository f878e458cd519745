/- Plain: what the reference's Fits, Heights, Apart, Highest and Wider say is what the program says. The ghost law's bookkeeping of a region that reads, makes one block and fills it. Walks of the reference of the layer sheet: Bounds. The ghost law's bookkeeping of a region that asks the reference's Bounds of all notes. Walks of the reference of the layer sheet: all, Fits, bound. -/
import Derived.Test.YtajdgdelhlfniaaGreatDoorGPl
import Derived.Test.YtajdgdelhlfniaaGreatDoorGHigh
import Derived.Test.YtajdgdelhlfniaaGreatDoorGSl
import Derived.Test.YtajdgdelhlfniaaGreatDoorGMx
import Derived.Test.YtajdgdelhlfniaaGreatDoorGRChk
set_option linter.unusedSimpArgs false
set_option linter.unusedVariables false
namespace Go.Proofs.YtajdgdelhlfniaaGreatDoor

def refT (s : ShR) : Mat := fwM (s.pts.length + 1) (refM s s.notes 0)
def refB (s : ShR) (l : List NoteR) (wd : Int) : Bool := diagB (s.pts.length + 1) (fwM (s.pts.length + 1) (refM s l wd))
theorem refB_iff {s : ShR} (hg : Good s) {l : List NoteR} (hl : ∀ x ∈ l, NoteOK s.pts.length s.iv x) (wd : Int) : refB s l wd = true ↔ ∃ y, TruthOf (withN s l) wd y := ref_iff hg hl wd
theorem refB_wide {s : ShR} (hg : Good s) (wd : Int) : refB s s.notes wd = (boundsF s wd).2 := by
  rw [Bool.eq_iff_iff, refB_iff hg hg.notes wd, fit_iff hg wd]
  exact Iff.rfl
theorem refB_fits {s : ShR} (hg : Good s) : refB s s.notes 0 = fitsB s := by
  rw [Bool.eq_iff_iff, refB_iff hg hg.notes 0, fitsB_iff hg]
  exact Iff.rfl
theorem refB_some {s : ShR} (hg : Good s) {l : List NoteR} (hl : ∀ x ∈ l, x ∈ s.notes) (hn : l.length ≤ 12) : refB s l 0 = fitsB (withN s l) := by
  rw [Bool.eq_iff_iff, refB_iff hg (fun x hx => hg.notes x (hl x hx)) 0, fitsB_iff (hg.notes_ (fun x hx => hg.notes x (hl x hx)) hn)]
theorem emb_np (np : Nat) : emb np np = 8 := by unfold emb; rw [if_pos rfl]
theorem emb_lt' {np i : Nat} (h : i < np) : emb np i = i := by unfold emb; rw [if_neg (by omega)]
theorem refT_eq {s : ShR} (h : openE s = 0) {i k : Nat} (hi : i < s.pts.length + 1) (hk : k < s.pts.length + 1) : refT s i k = openM s (emb s.pts.length i) (emb s.pts.length k) := ref_eq h hi hk
def heightsR (t : Mat) (n k : Nat) : List (Int × Int) := (List.range k).map fun i => (- t i n, t n i)
theorem heightsR_snoc (t : Mat) (n k : Nat) : heightsR t n (k + 1) = heightsR t n k ++ [(- t k n, t n k)] := by
  unfold heightsR
  rw [List.range_succ, List.map_append]
  rfl
theorem heightsR_len (t : Mat) (n k : Nat) : (heightsR t n k).length = k := by simp [heightsR]
theorem heights_ref {s : ShR} (h : openE s = 0) : heightsR (refT s) s.pts.length s.pts.length = heightsF s := by
  unfold heightsF heightsR spansL
  rw [if_neg (by simp [h])]
  refine List.map_congr_left fun i hi => ?_
  have := List.mem_range.1 hi
  rw [refT_eq h (by omega) (by omega), refT_eq h (by omega) (by omega), emb_np, emb_lt' this]
theorem apart_ref {s : ShR} (h : openE s = 0) {p q : Nat} (hp : p < s.pts.length) (hq : q < s.pts.length) : refT s p q = openM s p q := by
  rw [refT_eq h (by omega) (by omega), emb_lt' hp, emb_lt' hq]
theorem refT_range {s : ShR} (h : openE s = 0) {i k : Nat} (hi : i < s.pts.length + 1) (hk : k < s.pts.length + 1) : -9000 ≤ refT s i k ∧ refT s i k ≤ 9000 := by
  have hp := (good_of_open h).plen
  have hM := openM_fine h
  have e : ∀ j, j < s.pts.length + 1 → emb s.pts.length j < 9 := fun j hj => by unfold emb; split <;> omega
  rw [refT_eq h hi hk]
  exact ⟨hM.ge (e i hi) (e k hk), hM.le _ _ (e i hi) (e k hk)⟩
theorem refT_diag {s : ShR} (h : openE s = 0) {i : Nat} (hi : i < s.pts.length + 1) : refT s i i = 0 := by
  have hp := (good_of_open h).plen
  rw [refT_eq h hi hi]
  exact (openM_fine h).closed.diag _ (by unfold emb; split <;> omega)
/-! ### the highest point -/
def topR (t : Mat) (p n : Nat) : Mat := fun a b => if a = p ∧ b < n then min (t a b) 0 else t a b
theorem topR_zero (t : Mat) (p : Nat) : topR t p 0 = t := by funext a b; simp [topR]
theorem topR_step (t : Mat) (p n : Nat) : updM (topR t p n) p n (min (topR t p n p n) 0) = topR t p (n + 1) := by
  funext a b
  unfold updM topR
  by_cases ha : a = p
  · subst ha
    by_cases hb : b = n
    · subst hb
      simp
    · by_cases h2 : b < n
      · simp [hb, h2, show b < n + 1 by omega]
      · simp [hb, h2, show ¬ b < n + 1 by omega]
  · simp [ha]
theorem topR_sol {N np p : Nat} (hN : N = np + 1) (hp : p < N) {t : Mat} (y : Nat → Int) : SolN N (topR t p np) y ↔ SolN N t y ∧ ∀ q, q < np → y q ≤ y p := by
  subst hN
  constructor
  · intro h
    refine ⟨fun i k hi hk => ?_, fun q hq => ?_⟩
    · have := h i k hi hk
      unfold topR at this
      split at this <;> omega
    · have := h p q hp (by omega)
      unfold topR at this
      rw [if_pos ⟨rfl, hq⟩] at this
      omega
  · rintro ⟨h, hq⟩ i k hi hk
    have h1 := h i k hi hk
    unfold topR
    split
    · rename_i hc
      have := hq k hc.2
      rw [← hc.1] at this
      omega
    · exact h1
def refTop (s : ShR) (p : Nat) : Bool := diagB (s.pts.length + 1) (fwM (s.pts.length + 1) (topR (refT s) p s.pts.length))
theorem top_ref {s : ShR} (h : openE s = 0) {p : Nat} (hp : p < s.pts.length) : refTop s p = highB (openM s) s.pts.length p := by
  have hg := good_of_open h
  have hl := hg.plen
  rw [Bool.eq_iff_iff, highB_iff (openM_fine h) hl.2 (by omega)]
  unfold refTop
  rw [fw_iff (by omega) (fun i hi => by
    unfold topR
    have := refT_diag h hi
    split <;> omega)]
  constructor
  · rintro ⟨y, hy⟩
    obtain ⟨h1, h2⟩ := (topR_sol rfl (by omega) y).1 hy
    have h3 := (refM_sol hg hg.notes 0 y).1 ((fw_sol _ _).1 h1)
    refine ⟨_, (open_sol h _).2 h3, fun q hq => ?_⟩
    unfold liftY
    rw [if_pos hq, if_pos hp]
    exact h2 q hq
  · rintro ⟨Y, hY, hq⟩
    have h1 := sol_back (s := s) hg hg.notes ((open_sol h Y).1 hY)
    refine ⟨fun i => Y (emb s.pts.length i), (topR_sol rfl (by omega) _).2 ⟨(fw_sol _ _).2 h1, fun q hq' => ?_⟩⟩
    show Y (emb s.pts.length q) ≤ Y (emb s.pts.length p)
    rw [emb_lt' hq', emb_lt' hp]
    exact hq q hq'
def highestR (s : ShR) (k : Nat) : List Int := ((List.range k).filter (refTop s)).map fun (i : Nat) => (i : Int)
theorem highestR_yes {s : ShR} {k : Nat} (h : refTop s k = true) : highestR s (k + 1) = highestR s k ++ [(k : Int)] := by
  unfold highestR
  rw [List.range_succ, List.filter_append, List.map_append]
  simp [h]
theorem highestR_no {s : ShR} {k : Nat} (h : refTop s k = false) : highestR s (k + 1) = highestR s k := by
  unfold highestR
  rw [List.range_succ, List.filter_append, List.map_append]
  simp [h]
theorem highestR_le (s : ShR) (k : Nat) : (highestR s k).length ≤ k := by
  unfold highestR
  rw [List.length_map]
  have := List.length_filter_le (refTop s) (List.range k)
  simpa using this
theorem highest_ref {s : ShR} (h : openE s = 0) : highestR s s.pts.length = highestF s := by
  unfold highestF highestR highL
  rw [if_neg (by simp [h])]
  congr 1
  exact List.filter_congr fun p hp => top_ref h (List.mem_range.1 hp)
/-! ### wider -/
structure SearchW (s : ShR) (lo hi : Int) : Prop where
  lo0 : 0 ≤ lo
  le : lo ≤ hi
  hi9 : hi ≤ 18000
  no : ∀ k, 0 ≤ k → k < lo → (boundsF s k).2 = false
  yes : (boundsF s hi).2 = true
theorem searchW_start {s : ShR} (hg : Good s) : SearchW s 0 18000 :=
  ⟨by omega, by omega, by omega, fun k _ _ => by omega, fit_mono hg (bounds_top hg) (by omega)⟩
theorem SearchW.low {s : ShR} {lo hi mid : Int} (h : SearchW s lo hi) (hm : lo ≤ mid) (hm2 : mid < hi) (hb : (boundsF s mid).2 = true) : SearchW s lo mid :=
  ⟨h.lo0, hm, by have := h.hi9; omega, h.no, hb⟩
theorem SearchW.high {s : ShR} (hg : Good s) {lo hi mid : Int} (h : SearchW s lo hi) (hm : lo ≤ mid) (hm2 : mid < hi) (hb : (boundsF s mid).2 = false) : SearchW s (mid + 1) hi := by
  refine ⟨by have := h.lo0; omega, by omega, h.hi9, fun k h0 hk => ?_, h.yes⟩
  cases hc : (boundsF s k).2 with
  | false => rfl
  | true => rw [fit_mono hg hc (by omega)] at hb; cases hb
theorem SearchW.done {s : ShR} (hg : Good s) {lo : Int} (h : SearchW s lo lo) {n : Int} (hw : IsWider s n) : n = lo := by
  refine Int.le_antisymm (wider_le hg hw h.lo0 h.yes) ?_
  refine Classical.byContradiction fun hn => ?_
  have h1 := h.no n hw.ge (by omega)
  rw [wider_good hg hw] at h1
  cases h1
end Go.Proofs.YtajdgdelhlfniaaGreatDoor
namespace Go.Proofs.YtajdgdelhlfniaaGreatDoor
open Go.RowKit

structure AlI (W : World) (val : Nat → Value) (ia il : Nat) (cs0 cs1 : Array Value) (T : TypeId) (L : Nat → Bool) (vs : Nat → Value) (X : World) : Prop where
  bel : Below W.heap.size W X
  vals : ∀ k, k ≠ ia → k ≠ il → L k = true → vs k = val k
  al : L ia = true → ∃ g, vs ia = .pointer (some ⟨g, 0, none⟩) ∧ W.heap.size ≤ g ∧ X.heap[g]? = some (.cells (if L il = true then cs1 else cs0) T)
theorem AlI.start {W : World} {val : Nat → Value} {ia il : Nat} {cs0 cs1 : Array Value} {T : TypeId} : AlI W val ia il cs0 cs1 T (fun _ => false) (fun _ => undef) W.drew :=
  ⟨(Below.refl _ _).drew, fun _ _ _ h => (by cases h), fun h => (by cases h)⟩
theorem AlI.read {W : World} {val : Nat → Value} {ia il : Nat} {cs0 cs1 : Array Value} {T : TypeId} {L : Nat → Bool} {vs : Nat → Value} {X : World} {i : Nat} {v : Value} (h : AlI W val ia il cs0 cs1 T L vs X) (hia : i ≠ ia) (hil : i ≠ il) (hv : v = val i) :
    AlI W val ia il cs0 cs1 T (updB L i) (updV vs i v) X := by
  subst hv
  refine ⟨h.bel, fun k h1 h2 h3 => ?_, fun h1 => ?_⟩
  · by_cases e : k = i
    · subst e; rw [updV_self]
    · rw [updV_other _ _ e]
      rw [updB_other _ e] at h3
      exact h.vals k h1 h2 h3
  · rw [updB_other _ (Ne.symm hia)] at h1
    rw [updV_other _ _ (Ne.symm hia), updB_other _ (Ne.symm hil)]
    exact h.al h1
theorem AlI.alloc {W : World} {val : Nat → Value} {ia il : Nat} {cs0 cs1 : Array Value} {T : TypeId} {L : Nat → Bool} {vs : Nat → Value} {X : World} (h : AlI W val ia il cs0 cs1 T L vs X) (hne : ia ≠ il) (hl : L il = false) :
    AlI W val ia il cs0 cs1 T (updB L ia) (updV vs ia (.pointer (some ⟨X.heap.size, 0, none⟩))) (X.alloc (.cells cs0 T)) := by
  refine ⟨h.bel.trans (((Below.refl _ _).alloc (Nat.le_refl _) _).mono h.bel.size), fun k h1 h2 h3 => ?_, fun _ => ⟨X.heap.size, by rw [updV_self], h.bel.size, ?_⟩⟩
  · rw [updV_other _ _ h1]
    rw [updB_other _ h1] at h3
    exact h.vals k h1 h2 h3
  · rw [updB_other _ (Ne.symm hne), hl]
    exact heap_alloc_new X _
theorem AlI.store {W : World} {val : Nat → Value} {ia il : Nat} {cs0 cs1 : Array Value} {T : TypeId} {L : Nat → Bool} {vs : Nat → Value} {X : World} {g : Nat} {v : Value} (h : AlI W val ia il cs0 cs1 T L vs X) (hne : ia ≠ il) (hg : vs ia = .pointer (some ⟨g, 0, none⟩)) (hW : W.heap.size ≤ g) (hx : X.heap[g]? = some (.cells cs0 T)) :
    AlI W val ia il cs0 cs1 T (updB L il) (updV vs il v) (X.setRow g cs1) := by
  refine ⟨h.bel.trans (setRow_below _ hW), fun k h1 h2 h3 => ?_, fun _ => ⟨g, by rw [updV_other _ _ hne]; exact hg, hW, ?_⟩⟩
  · rw [updV_other _ _ h2]
    rw [updB_other _ h2] at h3
    exact h.vals k h1 h2 h3
  · rw [updB_self, if_pos rfl]
    exact setRow_heap _ _ _ _ _ _ hx
theorem AlI.unstored {W : World} {val : Nat → Value} {ia il : Nat} {cs0 cs1 : Array Value} {T : TypeId} {L : Nat → Bool} {vs : Nat → Value} {X : World} (h : AlI W val ia il cs0 cs1 T L vs X) (ha : L ia = true) (hl : L il = false) :
    ∃ g, vs ia = .pointer (some ⟨g, 0, none⟩) ∧ W.heap.size ≤ g ∧ X.heap[g]? = some (.cells cs0 T) := by
  obtain ⟨g, h1, h2, h3⟩ := h.al ha
  rw [hl] at h3
  exact ⟨g, h1, h2, h3⟩
end Go.Proofs.YtajdgdelhlfniaaGreatDoor
namespace Go.Proofs.YtajdgdelhlfniaaGreatDoor
open Go.RowKit

theorem make96 (n : Nat) (hn : n ≤ 1000) (w : World) : (Instr.makeSlice 96 (.int .i64 ((n : Int) + 1)) (.int .i64 ((n : Int) + 1))).run Tryz.prog w = .ok (.slice (some ⟨w.heap.size, 0, none⟩) (n + 1) (n + 1)) (w.alloc (.cells (madeCells #[.slice none 0 0] (n + 1)) 43)) :=
  run_make_row' (P := Tryz.prog) 96 43 (.slice none 0 0) 24 (by kernel_rfl) (by kernel_rfl) rfl .i64 .i64 (n + 1) (by omega) (by omega) w
def lvN (s : ShR) (ix : List Int) : List NoteR := ix.map fun j => s.notes.getD j.toNat default
theorem lvN_take {s : ShR} {ix : List Int} {k : Nat} (hk : k < ix.length) : (lvN s ix).take (k + 1) = (lvN s ix).take k ++ [s.notes.getD (ix[k]?.getD 0).toNat default] := by
  unfold lvN
  rw [← List.map_take, ← List.map_take, List.take_add_one, List.map_append]
  simp [List.getElem?_eq_getElem hk]

set_option maxRecDepth 100000 in
set_option maxHeartbeats 4000000 in
theorem rbounds_any {B Bi : Nat} {w : World} {v vi : Value} {s : ShR} {ix : List Int} {wd : Int} (hs : RdSh B w v s) (hg : Good s) (hB : B ≤ w.heap.size) (hi : Rd IntAt 1 Bi w vi ix) (hBi : Bi ≤ w.heap.size) (hix : ∀ j ∈ ix, 0 ≤ j ∧ j < s.notes.length) (hw : 0 ≤ wd ∧ wd ≤ 18000) :
    Calls Tryz.prog 69 #[v, vi, .int .i64 wd] w fun e w' => ∃ g c R C, e = .returned (.tuple #[.slice (some ⟨g, 0, none⟩) (s.pts.length + 1) c, .bool (refB s (lvN s ix) wd)]) ∧ MxAt w.heap.size w' g (s.pts.length + 1) R C (fwM (s.pts.length + 1) (refM s (lvN s ix) wd)) ∧ Below w.heap.size w w' := by
  obtain ⟨vp, vn, rfl, hp, ho⟩ := id hs
  obtain ⟨Ap, cp, rfl, _⟩ := id hp
  obtain ⟨An, cn, rfl, _⟩ := id ho
  obtain ⟨Ai, ci, rfl, _⟩ := id hi
  have hpl := hg.plen
  have hok : ∀ j ∈ ix, NoteOK s.pts.length s.iv (s.notes.getD j.toNat default) := fun j hj => hg.notes _ (getD_mem (by have := hix j hj; omega) _)
  have hrg := notesM_range (np := s.pts.length) hg.iv.1 hw (l := lvN s ix) (t := startM (s.pts.length + 1)) (fun x hx => by
    obtain ⟨j, hj, rfl⟩ := List.mem_map.1 hx
    exact hok j hj) (startM_range _)
  obtain ⟨W1, hW1, r1, z1, d1⟩ := box_any w #[.int .i64 s.iv, .slice Ap s.pts.length cp, .slice An s.notes.length cn] 25
  obtain ⟨W2, hW2⟩ : ∃ W2, W2 = W1.alloc (.cells (madeCells #[.slice none 0 0] (s.pts.length + 1)) 43) := ⟨_, rfl⟩
  have P0 := Lib.hid (show MxP W1.heap.size W2 W1.heap.size (s.pts.length + 1) 0 (fun _ => 0) (fun _ => 0) (startM (s.pts.length + 1)) by rw [hW2]; exact MxP.made)
  have b2 : Below W1.heap.size W1 W2 := by rw [hW2]; exact (Below.refl _ _).alloc (Nat.le_refl _) _
  have B2 := Lib.hid b2
  have HC : Hid (∀ Z : World, Below W1.heap.size W1 Z → Z.cell? ⟨w.heap.size, 0, none⟩ = some (.int .i64 s.iv) ∧ Z.cell? ⟨w.heap.size, 2, none⟩ = some (.slice An s.notes.length cn) ∧ Below w.heap.size w Z) :=
    Lib.hid fun Z h => by
      have j1 := (h.block _ (lt_of_block r1)).trans r1
      exact ⟨cellOf j1 0 rfl, cellOf j1 2 rfl, d1.trans (h.mono d1.size)⟩
  have HN := Lib.hid (fun (Z : World) (hb : Below w.heap.size w Z) => ho.below (hb.mono hB))
  have HI := Lib.hid (fun (Z : World) (hb : Below w.heap.size w Z) => hi.below (hb.mono hBi))
  have HR1 := Lib.hid (cellOf r1 1 (v := .slice Ap s.pts.length cp) rfl)
  have HRg := Lib.hid hrg
  have HOk := Lib.hid hok
  have HIx := Lib.hid hix
  have HGd := Lib.hid hg
  have HZ1 := Lib.hid d1.size
  have hmk := make96 s.pts.length (by omega)
  have hw1 : IntKind.i64.wrap ((s.pts.length : Int) + 1) = (s.pts.length : Int) + 1 := IntWalk.i64_in _ (by omega)
  have q1 := HR1.out
  clear hs hp ho hi hok hrg r1 z1 d1 b2 hix hg
  go_enter Tryz.func69, Tryz.ntmps69
  go_upto_region 1 with (fail)
  rw [← hW1]
  clear hW1
  go_upto_region 3 with (fail)
  rw [← hW2]
  clear hW2 hmk q1
  generalize hgg : W1.heap.size = g at *
  have HGg := Lib.hid hgg
  clear hgg
  go_wp2
  go_loopw [10, 11, 12] (fun i _ _ wr => ∃ (m : Nat) (R C : Nat → Nat), m ≤ s.pts.length + 1 ∧ i = .int .i64 m ∧ MxP g wr g (s.pts.length + 1) m R C (startM (s.pts.length + 1)) ∧ Below g W1 wr) (fun i _ _ _ => s.pts.length + 1 - (intOf i).toNat)
  case atStart => exact ⟨0, _, _, Nat.zero_le _, rfl, P0.out, B2.out⟩
  case round =>
    obtain ⟨m, R, C, hm, rfl, hmp, hbr⟩ := hrel
    have HP := Lib.hid hmp
    have HB := Lib.hid hbr
    clear hmp hbr
    by_cases hml : m ≤ s.pts.length
    · go_wp2
      obtain ⟨wi, rfl⟩ : ∃ wi : World, wi = wr := ⟨_, rfl⟩
      go_loopw [11, 12] (fun j _ wr => ∃ k : Nat, k ≤ s.pts.length + 1 ∧ j = .int .i64 k ∧ RowI wi wr g m (rowS (s.pts.length + 1) m k)) (fun j _ _ => s.pts.length + 1 - (intOf j).toNat)
      case atStart => exact ⟨0, Nat.zero_le _, rfl, RowI.start HP.out (by omega)⟩
      case round =>
        obtain ⟨k, hk, rfl, hri⟩ := hrel
        by_cases hkl : k ≤ s.pts.length
        · have HRi := Lib.hid hri
          obtain ⟨A, c, c0, hown⟩ := hri.own
          have hzz := hri.grown.size
          have gl := Lib.hid HP.out.lt
          have fz0 := Lib.hid ((hri.fz m).trans (HP.out.gfz m (by omega)))
          rw [rowS_len] at c0 hown
          have HSn := Lib.hid (rowS_snoc (s.pts.length + 1) m k)
          have HLn := Lib.hid (rowS_len (s.pts.length + 1) m k)
          have HLn1 := Lib.hid (rowS_len (s.pts.length + 1) m (k + 1))
          have C0 := Lib.hid c0
          have HSt := Lib.hid (show startM (s.pts.length + 1) m k = if m = k ∨ k = s.pts.length then 0 else 9000 by unfold startM; simp)
          have hml2 : m < s.pts.length + 1 := by omega
          generalize rowS (s.pts.length + 1) m k = xs at *
          clear hri
          by_cases ex : m = k
          · have e1 : ((m : Int) == (k : Int)) = true := by simp [ex]
            have HVal := Lib.hid (show startM (s.pts.length + 1) m k = 0 by rw [HSt.out]; rw [if_pos (.inl ex)])
            obtain ⟨A2, c2', w2, hrun, hown2, hb2, _⟩ := append_int hown 0 (by rw [HLn.out]; omega) hzz
            rw [HLn.out] at hrun hown2
            have f1 := (hb2.cell (p := ⟨g, m, none⟩) gl.out).trans C0.out
            have f2 := (hb2.frozen (p := ⟨g, m, none⟩) gl.out).trans fz0.out
            have HNx := Lib.hid (show RowI wi (w2.setCell ⟨g, m, none⟩ (.slice A2 (k + 1) c2')) g m (rowS (s.pts.length + 1) m (k + 1)) by
              have h := HRi.out.step gl.out hb2 (ys := xs ++ [0]) (by rw [List.length_append, HLn.out]; exact hown2)
              rw [List.length_append, HLn.out] at h
              rw [HSn.out, HVal.out]
              exact h)
            have c0 := C0.out
            clear ex
            clear hown hown2 hb2 hzz
            go_wp2_with (at_builtin; refine wpList_append_run rfl _ _ _ rfl rfl rfl hrun ?_)
            go_roundw
            case rel => exact ⟨k + 1, by omega, by go_num, HNx.out⟩
            case measure => simp [intOf]; omega
          · have e1 : ((m : Int) == (k : Int)) = false := by simp; omega
            have Hex := Lib.hid ex
            clear ex
            by_cases ey : k = s.pts.length
            · have e2 : ((k : Int) == (s.pts.length : Int)) = true := by simp [ey]
              have HVal := Lib.hid (show startM (s.pts.length + 1) m k = 0 by rw [HSt.out]; rw [if_pos (.inr ey)])
              obtain ⟨A2, c2', w2, hrun, hown2, hb2, _⟩ := append_int hown 0 (by rw [HLn.out]; omega) hzz
              rw [HLn.out] at hrun hown2
              have f1 := (hb2.cell (p := ⟨g, m, none⟩) gl.out).trans C0.out
              have f2 := (hb2.frozen (p := ⟨g, m, none⟩) gl.out).trans fz0.out
              have HNx := Lib.hid (show RowI wi (w2.setCell ⟨g, m, none⟩ (.slice A2 (k + 1) c2')) g m (rowS (s.pts.length + 1) m (k + 1)) by
                have h := HRi.out.step gl.out hb2 (ys := xs ++ [0]) (by rw [List.length_append, HLn.out]; exact hown2)
                rw [List.length_append, HLn.out] at h
                rw [HSn.out, HVal.out]
                exact h)
              have c0 := C0.out
              clear ey
              clear hown hown2 hb2 hzz
              go_wp2_with (at_builtin; refine wpList_append_run rfl _ _ _ rfl rfl rfl hrun ?_)
              go_roundw
              case rel => exact ⟨k + 1, by omega, by go_num, HNx.out⟩
              case measure => simp [intOf]; omega
            · have e2 : ((k : Int) == (s.pts.length : Int)) = false := by simp; omega
              have HVal := Lib.hid (show startM (s.pts.length + 1) m k = 9000 by rw [HSt.out]; have := Hex.out; rw [if_neg (by omega)])
              obtain ⟨A2, c2', w2, hrun, hown2, hb2, _⟩ := append_int hown 9000 (by rw [HLn.out]; omega) hzz
              rw [HLn.out] at hrun hown2
              have f1 := (hb2.cell (p := ⟨g, m, none⟩) gl.out).trans C0.out
              have f2 := (hb2.frozen (p := ⟨g, m, none⟩) gl.out).trans fz0.out
              have HNx := Lib.hid (show RowI wi (w2.setCell ⟨g, m, none⟩ (.slice A2 (k + 1) c2')) g m (rowS (s.pts.length + 1) m (k + 1)) by
                have h := HRi.out.step gl.out hb2 (ys := xs ++ [9000]) (by rw [List.length_append, HLn.out]; exact hown2)
                rw [List.length_append, HLn.out] at h
                rw [HSn.out, HVal.out]
                exact h)
              have c0 := C0.out
              clear ey
              clear hown hown2 hb2 hzz
              go_wp2_with (at_builtin; refine wpList_append_run rfl _ _ _ rfl rfl rfl hrun ?_)
              go_roundw
              case rel => exact ⟨k + 1, by omega, by go_num, HNx.out⟩
              case measure => simp [intOf]; omega
        · have hke : k = s.pts.length + 1 := by omega
          have HE := Lib.hid (RowI.done (t := startM (s.pts.length + 1)) HP.out hri (by rw [rowS_len, hke]) (by omega) (fun i hi => by rw [hke]; exact rowS_at hi))
          have HBe := Lib.hid (HB.out.grown hri.grown (Nat.le_of_lt HP.out.lt) (fun k hk => by cases hk; exact Nat.le_refl _))
          clear hri hke
          go_wp2
          go_roundw
          case rel =>
            obtain ⟨R', C', h'⟩ := HE.out
            exact ⟨m + 1, R', C', by omega, by go_num, h', HBe.out⟩
          case measure => simp [intOf]; omega
    · have hme : m = s.pts.length + 1 := by omega
      have HM := Lib.hid (show MxAt g wr g (s.pts.length + 1) R C (startM (s.pts.length + 1)) by have := HP.out; rw [hme] at this; exact this.full)
      clear HP P0 B2
      go_wp2
      obtain ⟨wo, rfl⟩ : ∃ wo : World, wo = wr := ⟨_, rfl⟩
      clear hme hm hml
      go_loopw [13] (fun i wr => ∃ k : Nat, k ≤ ix.length ∧ i = .int .i64 k ∧ MxAt g wr g (s.pts.length + 1) R C (notesM s.pts.length s.iv wd ((lvN s ix).take k) (startM (s.pts.length + 1))) ∧ Below g W1 wr) (fun i _ => ix.length - (intOf i).toNat)
      case atStart => exact ⟨0, Nat.zero_le _, rfl, HM.out, HB.out⟩
      case round =>
        clear HB
        obtain ⟨k, hk, rfl, hmx, hbr⟩ := hrel
        have HB := Lib.hid hbr
        have HMx := Lib.hid hmx
        obtain ⟨q0, q2, hbw⟩ := HC.out _ hbr
        by_cases hlt : k < ix.length
        · obtain ⟨ai, rfl, _, hci⟩ := (HI.out wr hbw).int hlt
          have hji := HIx.out (ix[k]?.getD 0) (by rw [List.getElem?_eq_getElem hlt]; exact List.getElem_mem hlt)
          have hxo := HOk.out (ix[k]?.getD 0) (by rw [List.getElem?_eq_getElem hlt]; exact List.getElem_mem hlt)
          have htk := lvN_take (s := s) hlt
          obtain ⟨j, hj⟩ : ∃ j : Nat, ix[k]?.getD 0 = j := ⟨(ix[k]?.getD 0).toNat, by omega⟩
          rw [hj] at hci hji hxo htk
          simp only [Int.toNat_natCast] at hxo htk
          have hjl : j < s.notes.length := by omega
          obtain ⟨an, rfl, _, hat⟩ := (HN.out wr hbw).note hjl
          have hgd : s.notes[j]?.getD default = s.notes.getD j default := by rw [List.getD_eq_getElem?_getD]
          rw [hgd] at hat
          have hstep : notesM s.pts.length s.iv wd ((lvN s ix).take (k + 1)) (startM (s.pts.length + 1)) = noteM s.pts.length s.iv wd (notesM s.pts.length s.iv wd ((lvN s ix).take k) (startM (s.pts.length + 1))) (s.notes.getD j default) := by rw [htk, notesM_snoc]
          have HSt := Lib.hid hstep
          have hrk := notesM_range (np := s.pts.length) HGd.out.iv.1 hw (l := (lvN s ix).take k) (t := startM (s.pts.length + 1)) (fun x hx => by
            obtain ⟨j, hj, rfl⟩ := List.mem_map.1 (List.mem_of_mem_take hx)
            exact HOk.out j hj) (startM_range _)
          have HRk := Lib.hid hrk
          clear hgd hstep htk hj hrk
          have hkd := hxo.kind
          have hends := noteOK_ends hxo HGd.out.iv.1
          have hao := othR_lt hxo
          have hxa := hxo.a
          have HXo := Lib.hid hxo
          have hxb := hxo.b
          obtain ⟨t0, ht0⟩ : ∃ t0, t0 = notesM s.pts.length s.iv wd ((lvN s ix).take k) (startM (s.pts.length + 1)) := ⟨_, rfl⟩
          rw [← ht0] at HSt HMx
          clear HRk ht0 hmx
          generalize s.notes.getD j default = x at *
          obtain ⟨x0, x1, x2, x3, x4⟩ := x
          obtain ⟨a0, a1, a2, a3, a4⟩ := hat
          simp only at a0 a1 a2 a3 a4 hkd hends hao hxa hxb
          obtain ⟨a, hae⟩ : ∃ a : Nat, x1 = a := ⟨x1.toNat, by omega⟩
          obtain ⟨bn, hbe⟩ : ∃ bn : Nat, x2 = bn := ⟨x2.toNat, by omega⟩
          subst hae hbe
          have ha1 : a < s.pts.length + 1 := by omega
          have hb1 : bn < s.pts.length + 1 := by omega
          have D0 := Lib.hid a0
          have D1 := Lib.hid a1
          have D2 := Lib.hid a2
          have D3 := Lib.hid a3
          have D4 := Lib.hid a4
          have Q0 := Lib.hid q0
          have Q2 := Lib.hid q2
          have QI := Lib.hid hci
          clear a0 a1 a2 a3 a4 q0 q2 hci hbr hxo
          go_upto_region 16 with (fail)
          refine wp_region_ghost (AlI wr (fun jj => ([.pointer (some ⟨w.heap.size, 2, none⟩), .slice (some an) s.notes.length cn, .slice (some ai) ix.length ci, .int .i64 k, .pointer (some (ai.add k)), .int .i64 j, .pointer (some (an.add (j * 5))), .agg #[.int .i64 x0, .int .i64 a, .int .i64 bn, .int .i64 x3, .int .i64 x4], undef, undef] : List Value).getD jj undef) 8 9 #[.int .i64 0, .int .i64 0, .int .i64 0, .int .i64 0, .int .i64 0] #[.int .i64 x0, .int .i64 a, .int .i64 bn, .int .i64 x3, .int .i64 x4] 69) (by kernel_rfl) (by kernel_rfl) AlI.start ?_ ?_
          · refine ⟨?_, ?_, ?_, ?_, ?_, ?_, ?_, ?_, ?_, ?_, trivial⟩
            all_goals
              intro L vs X b hL hw hcl hI hf
            · have hb := hI.bel
              have e3 := hf.old 3 (by kernel_rfl)
              refine wp_of_run (v := .pointer (some ⟨w.heap.size, 2, none⟩)) (w' := X) (by unfold execOp; go_simp) ?_
              exact hI.read (by omega) (by omega) rfl
            · have hb := hI.bel
              have h0 : L 0 = true := done_of hw 0 (by kernel_rfl)
              have e57 : b.tmps[57]?.getD undef = .pointer (some ⟨w.heap.size, 2, none⟩) := (hf.new 0 57 rfl h0 (by simp)).trans (hI.vals 0 (by omega) (by omega) h0)
              have qQ2 := (hb.cell (cell_lt Q2.out)).trans Q2.out
              refine wp_of_run (v := .slice (some an) s.notes.length cn) (w' := X) (by unfold execOp; go_simp) ?_
              exact hI.read (by omega) (by omega) rfl
            · have hb := hI.bel
              have e1 := hf.old 1 (by kernel_rfl)
              refine wp_of_run (v := .slice (some ai) ix.length ci) (w' := X) (by unfold execOp; go_simp) ?_
              exact hI.read (by omega) (by omega) rfl
            · have hb := hI.bel
              have e13 := hf.old 13 (by kernel_rfl)
              refine wp_of_run (v := .int .i64 k) (w' := X) (by unfold execOp; go_simp) ?_
              exact hI.read (by omega) (by omega) rfl
            · have hb := hI.bel
              have h2 : L 2 = true := done_of hw 2 (by kernel_rfl)
              have e59 : b.tmps[59]?.getD undef = .slice (some ai) ix.length ci := (hf.new 2 59 rfl h2 (by simp)).trans (hI.vals 2 (by omega) (by omega) h2)
              have h3 : L 3 = true := done_of hw 3 (by kernel_rfl)
              have e60 : b.tmps[60]?.getD undef = .int .i64 k := (hf.new 3 60 rfl h3 (by simp)).trans (hI.vals 3 (by omega) (by omega) h3)
              refine wp_of_run (v := .pointer (some (ai.add k))) (w' := X) (by unfold execOp; go_simp) ?_
              exact hI.read (by omega) (by omega) rfl
            · have hb := hI.bel
              have h4 : L 4 = true := done_of hw 4 (by kernel_rfl)
              have e61 : b.tmps[61]?.getD undef = .pointer (some (ai.add k)) := (hf.new 4 61 rfl h4 (by simp)).trans (hI.vals 4 (by omega) (by omega) h4)
              have qQI := (hb.cell (cell_lt QI.out)).trans QI.out
              refine wp_of_run (v := .int .i64 j) (w' := X) (by unfold execOp; go_simp) ?_
              exact hI.read (by omega) (by omega) rfl
            · have hb := hI.bel
              have h1 : L 1 = true := done_of hw 1 (by kernel_rfl)
              have e58 : b.tmps[58]?.getD undef = .slice (some an) s.notes.length cn := (hf.new 1 58 rfl h1 (by simp)).trans (hI.vals 1 (by omega) (by omega) h1)
              have h5 : L 5 = true := done_of hw 5 (by kernel_rfl)
              have e62 : b.tmps[62]?.getD undef = .int .i64 j := (hf.new 5 62 rfl h5 (by simp)).trans (hI.vals 5 (by omega) (by omega) h5)
              refine wp_of_run (v := .pointer (some (an.add (j * 5)))) (w' := X) (by unfold execOp; go_simp) ?_
              exact hI.read (by omega) (by omega) rfl
            · have hb := hI.bel
              have h6 : L 6 = true := done_of hw 6 (by kernel_rfl)
              have e63 : b.tmps[63]?.getD undef = .pointer (some (an.add (j * 5))) := (hf.new 6 63 rfl h6 (by simp)).trans (hI.vals 6 (by omega) (by omega) h6)
              have qD0 := (hb.cell (cell_lt D0.out)).trans D0.out
              have qD1 := (hb.cell (cell_lt D1.out)).trans D1.out
              have qD2 := (hb.cell (cell_lt D2.out)).trans D2.out
              have qD3 := (hb.cell (cell_lt D3.out)).trans D3.out
              have qD4 := (hb.cell (cell_lt D4.out)).trans D4.out
              refine wp_of_run (v := .agg #[.int .i64 x0, .int .i64 a, .int .i64 bn, .int .i64 x3, .int .i64 x4]) (w' := X) (by unfold execOp; go_simp) ?_
              exact hI.read (by omega) (by omega) rfl
            · have hb := hI.bel
              have n9 : L 9 = false := not_yet hcl 9 hL rfl (by kernel_rfl)
              refine wp_of_run (v := .pointer (some ⟨X.heap.size, 0, none⟩)) (w' := X.alloc (.cells #[.int .i64 0, .int .i64 0, .int .i64 0, .int .i64 0, .int .i64 0] 69)) (by unfold execOp; go_simp) ?_
              exact hI.alloc (by omega) n9
            · have hb := hI.bel
              have h8 : L 8 = true := done_of hw 8 (by kernel_rfl)
              have e14 : b.tmps[14]?.getD undef = vs 8 := hf.new 8 14 rfl h8 (by simp)
              have h7 : L 7 = true := done_of hw 7 (by kernel_rfl)
              have e64 : b.tmps[64]?.getD undef = .agg #[.int .i64 x0, .int .i64 a, .int .i64 bn, .int .i64 x3, .int .i64 x4] := (hf.new 7 64 rfl h7 (by simp)).trans (hI.vals 7 (by omega) (by omega) h7)
              obtain ⟨g, q8, hg, hx⟩ := hI.unstored h8 hL
              rw [q8] at e14
              refine wp_store_row 69 (.tmp 14) (.tmp 64) rfl g #[.int .i64 x0, .int .i64 a, .int .i64 bn, .int .i64 x3, .int .i64 x4] (eval_tmp e14) (eval_tmp e64) 69 _ hx (by kernel_rfl) rfl (by simp [Value.oneCell']) ?_
              exact ⟨_, rfl, hI.store (by omega) q8 hg hx⟩
          · intro vs X hI
            obtain ⟨gx, e14, hgx, rx⟩ := hI.al rfl
            replace rx : X.heap[gx]? = some (.cells #[.int .i64 x0, .int .i64 a, .int .i64 bn, .int .i64 x3, .int .i64 x4] 69) := rx
            have hbX := hI.bel
            clear hI
            simp [fill, slotOf, Act.put]
            simp only [Exit.inBlock, Exit.then]
            rw [e14]
            clear e14
            generalize vs 0 = ygx0
            generalize vs 1 = ygx1
            generalize vs 2 = ygx2
            generalize vs 3 = ygx3
            generalize vs 4 = ygx4
            generalize vs 5 = ygx5
            generalize vs 6 = ygx6
            generalize vs 7 = ygx7
            generalize vs 8 = ygx8
            generalize vs 9 = ygx9
            obtain ⟨wx, rfl⟩ : ∃ wx : World, wx = X := ⟨_, rfl⟩
            have RX := Lib.hid rx
            have HbX := Lib.hid hbX
            have E2 := Lib.hid (cellOf rx 2 (v := .int .i64 bn) rfl)
            have E3 := Lib.hid (cellOf rx 3 (v := .int .i64 x3) rfl)
            have E4 := Lib.hid (cellOf rx 4 (v := .int .i64 x4) rfl)
            clear rx hbX
            go_upto_region 17 with (fail)
            refine wp_region_ghost (AlI wx (fun jj => ([.pointer (some ⟨gx, 3, none⟩), .agg #[.int .i64 x3, .int .i64 x4], .pointer (some ⟨gx, 2, none⟩), .int .i64 bn, undef, undef, .int .i64 bn] : List Value).getD jj undef) 4 5 #[.int .i64 0, .int .i64 0] #[.int .i64 x3, .int .i64 x4] 40) (by kernel_rfl) (by kernel_rfl) AlI.start ?_ ?_
            · refine ⟨?_, ?_, ?_, ?_, ?_, ?_, ?_, trivial⟩
              all_goals
                intro L vs X b hL hw hcl hI hf
              · have hb := hI.bel
                have e14 := hf.old 14 (by kernel_rfl)
                refine wp_of_run (v := .pointer (some ⟨gx, 3, none⟩)) (w' := X) (by unfold execOp; go_simp) ?_
                exact hI.read (by omega) (by omega) rfl
              · have hb := hI.bel
                have h0 : L 0 = true := done_of hw 0 (by kernel_rfl)
                have e65 : b.tmps[65]?.getD undef = .pointer (some ⟨gx, 3, none⟩) := (hf.new 0 65 rfl h0 (by simp)).trans (hI.vals 0 (by omega) (by omega) h0)
                have qE3 := (hb.cell (cell_lt E3.out)).trans E3.out
                have qE4 := (hb.cell (cell_lt E4.out)).trans E4.out
                refine wp_of_run (v := .agg #[.int .i64 x3, .int .i64 x4]) (w' := X) (by unfold execOp; go_simp) ?_
                exact hI.read (by omega) (by omega) rfl
              · have hb := hI.bel
                have e14 := hf.old 14 (by kernel_rfl)
                refine wp_of_run (v := .pointer (some ⟨gx, 2, none⟩)) (w' := X) (by unfold execOp; go_simp) ?_
                exact hI.read (by omega) (by omega) rfl
              · have hb := hI.bel
                have h2 : L 2 = true := done_of hw 2 (by kernel_rfl)
                have e67 : b.tmps[67]?.getD undef = .pointer (some ⟨gx, 2, none⟩) := (hf.new 2 67 rfl h2 (by simp)).trans (hI.vals 2 (by omega) (by omega) h2)
                have qE2 := (hb.cell (cell_lt E2.out)).trans E2.out
                refine wp_of_run (v := .int .i64 bn) (w' := X) (by unfold execOp; go_simp) ?_
                exact hI.read (by omega) (by omega) rfl
              · have hb := hI.bel
                have n5 : L 5 = false := not_yet hcl 5 hL rfl (by kernel_rfl)
                refine wp_of_run (v := .pointer (some ⟨X.heap.size, 0, none⟩)) (w' := X.alloc (.cells #[.int .i64 0, .int .i64 0] 40)) (by unfold execOp; go_simp) ?_
                exact hI.alloc (by omega) n5
              · have hb := hI.bel
                have h4 : L 4 = true := done_of hw 4 (by kernel_rfl)
                have e15 : b.tmps[15]?.getD undef = vs 4 := hf.new 4 15 rfl h4 (by simp)
                have h1 : L 1 = true := done_of hw 1 (by kernel_rfl)
                have e66 : b.tmps[66]?.getD undef = .agg #[.int .i64 x3, .int .i64 x4] := (hf.new 1 66 rfl h1 (by simp)).trans (hI.vals 1 (by omega) (by omega) h1)
                obtain ⟨g, q4, hg, hx⟩ := hI.unstored h4 hL
                rw [q4] at e15
                refine wp_store_row 40 (.tmp 15) (.tmp 66) rfl g #[.int .i64 x3, .int .i64 x4] (eval_tmp e15) (eval_tmp e66) 40 _ hx (by kernel_rfl) rfl (by simp [Value.oneCell']) ?_
                exact ⟨_, rfl, hI.store (by omega) q4 hg hx⟩
              · have hb := hI.bel
                have h3 : L 3 = true := done_of hw 3 (by kernel_rfl)
                have e68 : b.tmps[68]?.getD undef = .int .i64 bn := (hf.new 3 68 rfl h3 (by simp)).trans (hI.vals 3 (by omega) (by omega) h3)
                refine wp_of_run (v := .int .i64 bn) (w' := X) (by unfold execOp; go_simp) ?_
                exact hI.read (by omega) (by omega) rfl
            · intro vs X hI
              obtain ⟨gb, e15, hgb, rb⟩ := hI.al rfl
              replace rb : X.heap[gb]? = some (.cells #[.int .i64 x3, .int .i64 x4] 40) := rb
              have v6 := hI.vals 6 (by omega) (by omega) rfl
              have hbX := hI.bel
              clear hI
              simp [fill, slotOf, Act.put]
              simp only [Exit.inBlock, Exit.then]
              rw [e15, v6]
              simp only [List.getD_cons_succ, List.getD_cons_zero]
              clear e15 v6
              generalize vs 0 = ygb0
              generalize vs 1 = ygb1
              generalize vs 2 = ygb2
              generalize vs 3 = ygb3
              generalize vs 4 = ygb4
              generalize vs 5 = ygb5
              generalize vs 6 = ygb6
              obtain ⟨wb, rfl⟩ : ∃ wb : World, wb = X := ⟨_, rfl⟩
              have hzx := HbX.out.size
              have hxlt := lt_of_block RX.out
              have HbB := Lib.hid (HbX.out.trans (hbX.mono hzx))
              have rgx := (hbX.block _ hxlt).trans RX.out
              have k0 := cellOf rgx 0 (v := .int .i64 x0) rfl
              have HGx := Lib.hid rgx
              have HGb := Lib.hid rb
              have hgb2 : wr.heap.size ≤ gb := by omega
              have l0 := cellOf rb 0 (v := .int .i64 x3) rfl
              have l1 := cellOf rb 1 (v := .int .i64 x4) rfl
              have q0 := (HbB.out.cell (p := ⟨w.heap.size, 0, none⟩) (cell_lt Q0.out)).trans Q0.out
              have HzW := Lib.hid HB.out.size
              have hBB : g ≤ wr.heap.size := Nat.le_of_lt HMx.out.lt
              have HBB := Lib.hid (HB.out.trans (HbB.out.mono hBB))
              clear rgx hbX rb
              rcases (show x0 = 1 ∨ x0 = 2 ∨ x0 = 3 ∨ x0 = 4 by omega) with h0 | h0 | h0 | h0
              · subst h0
                simp [nlo, nhi] at hends
                have HNo := Lib.hid (show noteM s.pts.length s.iv wd t0 ⟨1, a, bn, x3, x4⟩ = updM (updM t0 (s.pts.length) a (min (t0 (s.pts.length) a) (x4 + wd))) a (s.pts.length) (min (updM t0 (s.pts.length) a (min (t0 (s.pts.length) a) (x4 + wd)) a (s.pts.length)) (wd - x3)) from rfl)
                obtain ⟨wz, rfl⟩ : ∃ wz : World, wz = wb := ⟨_, rfl⟩
                have rgx := HGx.out
                have rgb := HGb.out
                have hbz := HbB.out
                have HBz := HBB
                go_upto_region 22 with (fail)
                clear k0
                have ho : s.pts.length < s.pts.length + 1 := by omega
                have hm := HMx.out.below hbz
                have p0 := hm.top s.pts.length ho
                have p1 := hm.top a ha1
                have c0 := hm.cell s.pts.length a ho ha1
                have fz := hm.fz s.pts.length a ho ha1
                have k1 := cellOf rgx 1 (v := .int .i64 a) rfl
                have l1 := cellOf rgb 1 (v := .int .i64 x4) rfl
                have hro := HMx.out.rlt s.pts.length ho
                have hra := HMx.out.rlt a ha1
                have HS1 := Lib.hid (show ∀ Z, Qt wz Z → MxAt g (Z.setCell ⟨R (s.pts.length), a, none⟩ (.int .i64 (min (t0 (s.pts.length) a) (x4 + wd)))) g (s.pts.length + 1) R C (updM t0 (s.pts.length) a (min (t0 (s.pts.length) a) (x4 + wd))) from fun Z hq => (hm.qt hq).set ho ha1 _)
                have HB1 := Lib.hid (show ∀ Z, Qt wz Z → ∀ v, Below g W1 (Z.setCell ⟨R (s.pts.length), a, none⟩ v) from fun Z hq v => (hm.qt hq).setB ho (Nat.le_refl _) (HBz.out.trans (hq.below _)) a v)
                have HX1 := Lib.hid (show ∀ Z, Qt wz Z → ∀ v, (Z.setCell ⟨R (s.pts.length), a, none⟩ v).heap[gx]? = _ from fun Z hq v => (Below.heap_setCell _ _ _ _ (show gx ≠ R (s.pts.length) by omega)).trans (((hq.below wz.heap.size).block _ (lt_of_block rgx)).trans rgx))
                have HY1 := Lib.hid (show ∀ Z, Qt wz Z → ∀ v, (Z.setCell ⟨R (s.pts.length), a, none⟩ v).heap[gb]? = _ from fun Z hq v => (Below.heap_setCell _ _ _ _ (show gb ≠ R (s.pts.length) by omega)).trans (((hq.below wz.heap.size).block _ (lt_of_block rgb)).trans rgb))
                have s1 : IntKind.i64.wrap (x4 + wd) = x4 + wd := IntWalk.i64_in _ (by omega)
                have s2 : IntKind.i64.wrap (wd - x3) = wd - x3 := IntWalk.i64_in _ (by omega)
                clear hm
                obtain ⟨e0, he0⟩ : ∃ e0, e0 = t0 (s.pts.length) a := ⟨_, rfl⟩
                rw [← he0] at c0 HS1
                have HE0 := Lib.hid he0
                clear he0 hro hra rgx rgb
                have Hbz := Lib.hid hbz
                clear hbz
                refine region_quiet_tail (C := fun w' => ∃ n, w' = wz.drewN n) 19 (by kernel_rfl) (by kernel_rfl) ⟨1, rfl⟩ ?_
                simp only [List.take_succ_cons, List.take_zero, List.drop_succ_cons, List.drop_zero]
                repeat (first | go_big_quiet_step (fail) | quiet_step (fail))
                refine wpQuiet_nil ?_
                rintro _ ⟨n1, rfl⟩
                go_upto_region 23 with (fail)
                obtain ⟨wy, hwy⟩ : ∃ wy, wy = (wz.drewN n1).setCell ⟨R (s.pts.length), a, none⟩ (.int .i64 (min e0 (x4 + wd))) := ⟨_, rfl⟩
                have hm2 := HS1.out _ ⟨n1, rfl⟩
                have hb2 := HB1.out _ ⟨n1, rfl⟩ (.int .i64 (min e0 (x4 + wd)))
                have rx2 := HX1.out _ ⟨n1, rfl⟩ (.int .i64 (min e0 (x4 + wd)))
                have rb2 := HY1.out _ ⟨n1, rfl⟩ (.int .i64 (min e0 (x4 + wd)))
                rw [← hwy] at hm2 hb2 rx2 rb2
                rw [← hwy]
                clear hwy c0 p0 p1 fz k1 l1
                have p0 := hm2.top s.pts.length ho
                have p1 := hm2.top a ha1
                have c0 := hm2.cell a s.pts.length ha1 ho
                have fz := hm2.fz a s.pts.length ha1 ho
                have k1 := cellOf rx2 1 (v := .int .i64 a) rfl
                have l1 := cellOf rb2 0 (v := .int .i64 x3) rfl
                have HS2 := Lib.hid (show ∀ Z, Qt wy Z → MxAt g (Z.setCell ⟨R a, s.pts.length, none⟩ (.int .i64 (min (updM t0 (s.pts.length) a (min e0 (x4 + wd)) a (s.pts.length)) (wd - x3)))) g (s.pts.length + 1) R C (updM (updM t0 (s.pts.length) a (min e0 (x4 + wd))) a (s.pts.length) (min (updM t0 (s.pts.length) a (min e0 (x4 + wd)) a (s.pts.length)) (wd - x3))) from fun Z hq => (hm2.qt hq).set ha1 ho _)
                have HB2 := Lib.hid (show ∀ Z, Qt wy Z → ∀ v, Below g W1 (Z.setCell ⟨R a, s.pts.length, none⟩ v) from fun Z hq v => (hm2.qt hq).setB ha1 (Nat.le_refl _) (hb2.trans (hq.below _)) (s.pts.length) v)
                rw [HE0.out] at HS2 c0
                clear hm2 hb2 rx2 rb2 HE0
                obtain ⟨e1, he1⟩ : ∃ e1, e1 = updM t0 (s.pts.length) a (min (t0 (s.pts.length) a) (x4 + wd)) a (s.pts.length) := ⟨_, rfl⟩
                rw [← he1] at HS2 c0
                have HE1 := Lib.hid he1.symm
                clear he1
                refine region_quiet_tail (C := fun w' => ∃ n, w' = wy.drewN n) 19 (by kernel_rfl) (by kernel_rfl) ⟨1, rfl⟩ ?_
                simp only [List.take_succ_cons, List.take_zero, List.drop_succ_cons, List.drop_zero]
                repeat (first | go_big_quiet_step (fail) | quiet_step (fail))
                refine wpQuiet_nil ?_
                rintro _ ⟨n2, rfl⟩
                go_wp2
                go_roundw
                case rel =>
                  refine ⟨k + 1, by omega, by go_num, ?_, HB2.out _ ⟨n2, rfl⟩ _⟩
                  rw [HSt.out, HNo.out, HE1.out]
                  exact HS2.out _ ⟨n2, rfl⟩
                case measure => simp [intOf]; omega
              · subst h0
                simp [nlo, nhi] at hends
                have HNo := Lib.hid (show noteM s.pts.length s.iv wd t0 ⟨2, a, bn, x3, x4⟩ = updM (updM t0 (s.pts.length) a (min (t0 (s.pts.length) a) ((x4 * s.iv) + wd))) a (s.pts.length) (min (updM t0 (s.pts.length) a (min (t0 (s.pts.length) a) ((x4 * s.iv) + wd)) a (s.pts.length)) (wd - (x3 * s.iv))) from rfl)
                have m1 : IntKind.i64.wrap (x3 * s.iv) = x3 * s.iv := IntWalk.i64_in _ (by omega)
                have m2 : IntKind.i64.wrap (x4 * s.iv) = x4 * s.iv := IntWalk.i64_in _ (by omega)
                have rgb := HGb.out
                have z0 : wb.frozen? ⟨gb, 0, none⟩ = false := by simp [World.frozen?, HGb.out]
                have z1 : wb.frozen? ⟨gb, 1, none⟩ = false := by simp [World.frozen?, HGb.out]
                clear rgb
                go_upto_region 20 with (fail)
                obtain ⟨wz, hwz⟩ : ∃ wz, wz = (wb.setCell ⟨gb, 0, none⟩ (.int .i64 (x3 * s.iv))).setCell ⟨gb, 1, none⟩ (.int .i64 (x4 * s.iv)) := ⟨_, rfl⟩
                rw [← hwz]
                clear m1 m2
                generalize x3 * s.iv = lo at *
                generalize x4 * s.iv = hi at *
                have hne : gx ≠ gb := by omega
                have rgx : wz.heap[gx]? = some (.cells #[.int .i64 2, .int .i64 a, .int .i64 bn, .int .i64 x3, .int .i64 x4] 69) := by rw [hwz]; exact (Below.heap_setCell _ _ _ _ hne).trans ((Below.heap_setCell _ _ _ _ hne).trans HGx.out)
                have rgb : wz.heap[gb]? = some (.cells #[.int .i64 lo, .int .i64 hi] 40) := by rw [hwz]; exact row2 HGb.out _ _
                have hbz : Below wr.heap.size wr wz := by rw [hwz]; exact HbB.out.trans (below2 hgb2 _ _)
                have HBz := Lib.hid (show Below g W1 wz by rw [hwz]; exact HBB.out.trans (below2 (by omega) _ _))
                clear hwz k0 l0 l1 q0 hne z0 z1
                have k0 := cellOf rgx 0 (v := .int .i64 2) rfl
                go_upto_region 22 with (fail)
                clear k0
                have ho : s.pts.length < s.pts.length + 1 := by omega
                have hm := HMx.out.below hbz
                have p0 := hm.top s.pts.length ho
                have p1 := hm.top a ha1
                have c0 := hm.cell s.pts.length a ho ha1
                have fz := hm.fz s.pts.length a ho ha1
                have k1 := cellOf rgx 1 (v := .int .i64 a) rfl
                have l1 := cellOf rgb 1 (v := .int .i64 hi) rfl
                have hro := HMx.out.rlt s.pts.length ho
                have hra := HMx.out.rlt a ha1
                have HS1 := Lib.hid (show ∀ Z, Qt wz Z → MxAt g (Z.setCell ⟨R (s.pts.length), a, none⟩ (.int .i64 (min (t0 (s.pts.length) a) (hi + wd)))) g (s.pts.length + 1) R C (updM t0 (s.pts.length) a (min (t0 (s.pts.length) a) (hi + wd))) from fun Z hq => (hm.qt hq).set ho ha1 _)
                have HB1 := Lib.hid (show ∀ Z, Qt wz Z → ∀ v, Below g W1 (Z.setCell ⟨R (s.pts.length), a, none⟩ v) from fun Z hq v => (hm.qt hq).setB ho (Nat.le_refl _) (HBz.out.trans (hq.below _)) a v)
                have HX1 := Lib.hid (show ∀ Z, Qt wz Z → ∀ v, (Z.setCell ⟨R (s.pts.length), a, none⟩ v).heap[gx]? = _ from fun Z hq v => (Below.heap_setCell _ _ _ _ (show gx ≠ R (s.pts.length) by omega)).trans (((hq.below wz.heap.size).block _ (lt_of_block rgx)).trans rgx))
                have HY1 := Lib.hid (show ∀ Z, Qt wz Z → ∀ v, (Z.setCell ⟨R (s.pts.length), a, none⟩ v).heap[gb]? = _ from fun Z hq v => (Below.heap_setCell _ _ _ _ (show gb ≠ R (s.pts.length) by omega)).trans (((hq.below wz.heap.size).block _ (lt_of_block rgb)).trans rgb))
                have s1 : IntKind.i64.wrap (hi + wd) = hi + wd := IntWalk.i64_in _ (by omega)
                have s2 : IntKind.i64.wrap (wd - lo) = wd - lo := IntWalk.i64_in _ (by omega)
                clear hm
                obtain ⟨e0, he0⟩ : ∃ e0, e0 = t0 (s.pts.length) a := ⟨_, rfl⟩
                rw [← he0] at c0 HS1
                have HE0 := Lib.hid he0
                clear he0 hro hra rgx rgb
                have Hbz := Lib.hid hbz
                clear hbz
                refine region_quiet_tail (C := fun w' => ∃ n, w' = wz.drewN n) 19 (by kernel_rfl) (by kernel_rfl) ⟨1, rfl⟩ ?_
                simp only [List.take_succ_cons, List.take_zero, List.drop_succ_cons, List.drop_zero]
                repeat (first | go_big_quiet_step (fail) | quiet_step (fail))
                refine wpQuiet_nil ?_
                rintro _ ⟨n1, rfl⟩
                go_upto_region 23 with (fail)
                obtain ⟨wy, hwy⟩ : ∃ wy, wy = (wz.drewN n1).setCell ⟨R (s.pts.length), a, none⟩ (.int .i64 (min e0 (hi + wd))) := ⟨_, rfl⟩
                have hm2 := HS1.out _ ⟨n1, rfl⟩
                have hb2 := HB1.out _ ⟨n1, rfl⟩ (.int .i64 (min e0 (hi + wd)))
                have rx2 := HX1.out _ ⟨n1, rfl⟩ (.int .i64 (min e0 (hi + wd)))
                have rb2 := HY1.out _ ⟨n1, rfl⟩ (.int .i64 (min e0 (hi + wd)))
                rw [← hwy] at hm2 hb2 rx2 rb2
                rw [← hwy]
                clear hwy c0 p0 p1 fz k1 l1
                have p0 := hm2.top s.pts.length ho
                have p1 := hm2.top a ha1
                have c0 := hm2.cell a s.pts.length ha1 ho
                have fz := hm2.fz a s.pts.length ha1 ho
                have k1 := cellOf rx2 1 (v := .int .i64 a) rfl
                have l1 := cellOf rb2 0 (v := .int .i64 lo) rfl
                have HS2 := Lib.hid (show ∀ Z, Qt wy Z → MxAt g (Z.setCell ⟨R a, s.pts.length, none⟩ (.int .i64 (min (updM t0 (s.pts.length) a (min e0 (hi + wd)) a (s.pts.length)) (wd - lo)))) g (s.pts.length + 1) R C (updM (updM t0 (s.pts.length) a (min e0 (hi + wd))) a (s.pts.length) (min (updM t0 (s.pts.length) a (min e0 (hi + wd)) a (s.pts.length)) (wd - lo))) from fun Z hq => (hm2.qt hq).set ha1 ho _)
                have HB2 := Lib.hid (show ∀ Z, Qt wy Z → ∀ v, Below g W1 (Z.setCell ⟨R a, s.pts.length, none⟩ v) from fun Z hq v => (hm2.qt hq).setB ha1 (Nat.le_refl _) (hb2.trans (hq.below _)) (s.pts.length) v)
                rw [HE0.out] at HS2 c0
                clear hm2 hb2 rx2 rb2 HE0
                obtain ⟨e1, he1⟩ : ∃ e1, e1 = updM t0 (s.pts.length) a (min (t0 (s.pts.length) a) (hi + wd)) a (s.pts.length) := ⟨_, rfl⟩
                rw [← he1] at HS2 c0
                have HE1 := Lib.hid he1.symm
                clear he1
                refine region_quiet_tail (C := fun w' => ∃ n, w' = wy.drewN n) 19 (by kernel_rfl) (by kernel_rfl) ⟨1, rfl⟩ ?_
                simp only [List.take_succ_cons, List.take_zero, List.drop_succ_cons, List.drop_zero]
                repeat (first | go_big_quiet_step (fail) | quiet_step (fail))
                refine wpQuiet_nil ?_
                rintro _ ⟨n2, rfl⟩
                go_wp2
                go_roundw
                case rel =>
                  refine ⟨k + 1, by omega, by go_num, ?_, HB2.out _ ⟨n2, rfl⟩ _⟩
                  rw [HSt.out, HNo.out, HE1.out]
                  exact HS2.out _ ⟨n2, rfl⟩
                case measure => simp [intOf]; omega
              · subst h0
                simp [nlo, nhi] at hends
                have HNo := Lib.hid (show noteM s.pts.length s.iv wd t0 ⟨3, a, bn, x3, x4⟩ = updM (updM t0 (bn) a (min (t0 (bn) a) (x4 + wd))) a (bn) (min (updM t0 (bn) a (min (t0 (bn) a) (x4 + wd)) a (bn)) (wd - x3)) from rfl)
                obtain ⟨wz, rfl⟩ : ∃ wz : World, wz = wb := ⟨_, rfl⟩
                have rgx := HGx.out
                have rgb := HGb.out
                have hbz := HbB.out
                have HBz := HBB
                go_upto_region 22 with (fail)
                clear k0
                have ho : bn < s.pts.length + 1 := by omega
                have hm := HMx.out.below hbz
                have p0 := hm.top bn ho
                have p1 := hm.top a ha1
                have c0 := hm.cell bn a ho ha1
                have fz := hm.fz bn a ho ha1
                have k1 := cellOf rgx 1 (v := .int .i64 a) rfl
                have l1 := cellOf rgb 1 (v := .int .i64 x4) rfl
                have hro := HMx.out.rlt bn ho
                have hra := HMx.out.rlt a ha1
                have HS1 := Lib.hid (show ∀ Z, Qt wz Z → MxAt g (Z.setCell ⟨R (bn), a, none⟩ (.int .i64 (min (t0 (bn) a) (x4 + wd)))) g (s.pts.length + 1) R C (updM t0 (bn) a (min (t0 (bn) a) (x4 + wd))) from fun Z hq => (hm.qt hq).set ho ha1 _)
                have HB1 := Lib.hid (show ∀ Z, Qt wz Z → ∀ v, Below g W1 (Z.setCell ⟨R (bn), a, none⟩ v) from fun Z hq v => (hm.qt hq).setB ho (Nat.le_refl _) (HBz.out.trans (hq.below _)) a v)
                have HX1 := Lib.hid (show ∀ Z, Qt wz Z → ∀ v, (Z.setCell ⟨R (bn), a, none⟩ v).heap[gx]? = _ from fun Z hq v => (Below.heap_setCell _ _ _ _ (show gx ≠ R (bn) by omega)).trans (((hq.below wz.heap.size).block _ (lt_of_block rgx)).trans rgx))
                have HY1 := Lib.hid (show ∀ Z, Qt wz Z → ∀ v, (Z.setCell ⟨R (bn), a, none⟩ v).heap[gb]? = _ from fun Z hq v => (Below.heap_setCell _ _ _ _ (show gb ≠ R (bn) by omega)).trans (((hq.below wz.heap.size).block _ (lt_of_block rgb)).trans rgb))
                have s1 : IntKind.i64.wrap (x4 + wd) = x4 + wd := IntWalk.i64_in _ (by omega)
                have s2 : IntKind.i64.wrap (wd - x3) = wd - x3 := IntWalk.i64_in _ (by omega)
                clear hm
                obtain ⟨e0, he0⟩ : ∃ e0, e0 = t0 (bn) a := ⟨_, rfl⟩
                rw [← he0] at c0 HS1
                have HE0 := Lib.hid he0
                clear he0 hro hra rgx rgb
                have Hbz := Lib.hid hbz
                clear hbz
                refine region_quiet_tail (C := fun w' => ∃ n, w' = wz.drewN n) 19 (by kernel_rfl) (by kernel_rfl) ⟨1, rfl⟩ ?_
                simp only [List.take_succ_cons, List.take_zero, List.drop_succ_cons, List.drop_zero]
                repeat (first | go_big_quiet_step (fail) | quiet_step (fail))
                refine wpQuiet_nil ?_
                rintro _ ⟨n1, rfl⟩
                go_upto_region 23 with (fail)
                obtain ⟨wy, hwy⟩ : ∃ wy, wy = (wz.drewN n1).setCell ⟨R (bn), a, none⟩ (.int .i64 (min e0 (x4 + wd))) := ⟨_, rfl⟩
                have hm2 := HS1.out _ ⟨n1, rfl⟩
                have hb2 := HB1.out _ ⟨n1, rfl⟩ (.int .i64 (min e0 (x4 + wd)))
                have rx2 := HX1.out _ ⟨n1, rfl⟩ (.int .i64 (min e0 (x4 + wd)))
                have rb2 := HY1.out _ ⟨n1, rfl⟩ (.int .i64 (min e0 (x4 + wd)))
                rw [← hwy] at hm2 hb2 rx2 rb2
                rw [← hwy]
                clear hwy c0 p0 p1 fz k1 l1
                have p0 := hm2.top bn ho
                have p1 := hm2.top a ha1
                have c0 := hm2.cell a bn ha1 ho
                have fz := hm2.fz a bn ha1 ho
                have k1 := cellOf rx2 1 (v := .int .i64 a) rfl
                have l1 := cellOf rb2 0 (v := .int .i64 x3) rfl
                have HS2 := Lib.hid (show ∀ Z, Qt wy Z → MxAt g (Z.setCell ⟨R a, bn, none⟩ (.int .i64 (min (updM t0 (bn) a (min e0 (x4 + wd)) a (bn)) (wd - x3)))) g (s.pts.length + 1) R C (updM (updM t0 (bn) a (min e0 (x4 + wd))) a (bn) (min (updM t0 (bn) a (min e0 (x4 + wd)) a (bn)) (wd - x3))) from fun Z hq => (hm2.qt hq).set ha1 ho _)
                have HB2 := Lib.hid (show ∀ Z, Qt wy Z → ∀ v, Below g W1 (Z.setCell ⟨R a, bn, none⟩ v) from fun Z hq v => (hm2.qt hq).setB ha1 (Nat.le_refl _) (hb2.trans (hq.below _)) (bn) v)
                rw [HE0.out] at HS2 c0
                clear hm2 hb2 rx2 rb2 HE0
                obtain ⟨e1, he1⟩ : ∃ e1, e1 = updM t0 (bn) a (min (t0 (bn) a) (x4 + wd)) a (bn) := ⟨_, rfl⟩
                rw [← he1] at HS2 c0
                have HE1 := Lib.hid he1.symm
                clear he1
                refine region_quiet_tail (C := fun w' => ∃ n, w' = wy.drewN n) 19 (by kernel_rfl) (by kernel_rfl) ⟨1, rfl⟩ ?_
                simp only [List.take_succ_cons, List.take_zero, List.drop_succ_cons, List.drop_zero]
                repeat (first | go_big_quiet_step (fail) | quiet_step (fail))
                refine wpQuiet_nil ?_
                rintro _ ⟨n2, rfl⟩
                go_wp2
                go_roundw
                case rel =>
                  refine ⟨k + 1, by omega, by go_num, ?_, HB2.out _ ⟨n2, rfl⟩ _⟩
                  rw [HSt.out, HNo.out, HE1.out]
                  exact HS2.out _ ⟨n2, rfl⟩
                case measure => simp [intOf]; omega
              · subst h0
                simp [nlo, nhi] at hends
                have HNo := Lib.hid (show noteM s.pts.length s.iv wd t0 ⟨4, a, bn, x3, x4⟩ = updM (updM t0 (bn) a (min (t0 (bn) a) (x4 + wd))) a (bn) (min (updM t0 (bn) a (min (t0 (bn) a) (x4 + wd)) a (bn)) (wd - x3)) from rfl)
                obtain ⟨wz, rfl⟩ : ∃ wz : World, wz = wb := ⟨_, rfl⟩
                have rgx := HGx.out
                have rgb := HGb.out
                have hbz := HbB.out
                have HBz := HBB
                go_upto_region 22 with (fail)
                clear k0
                have ho : bn < s.pts.length + 1 := by omega
                have hm := HMx.out.below hbz
                have p0 := hm.top bn ho
                have p1 := hm.top a ha1
                have c0 := hm.cell bn a ho ha1
                have fz := hm.fz bn a ho ha1
                have k1 := cellOf rgx 1 (v := .int .i64 a) rfl
                have l1 := cellOf rgb 1 (v := .int .i64 x4) rfl
                have hro := HMx.out.rlt bn ho
                have hra := HMx.out.rlt a ha1
                have HS1 := Lib.hid (show ∀ Z, Qt wz Z → MxAt g (Z.setCell ⟨R (bn), a, none⟩ (.int .i64 (min (t0 (bn) a) (x4 + wd)))) g (s.pts.length + 1) R C (updM t0 (bn) a (min (t0 (bn) a) (x4 + wd))) from fun Z hq => (hm.qt hq).set ho ha1 _)
                have HB1 := Lib.hid (show ∀ Z, Qt wz Z → ∀ v, Below g W1 (Z.setCell ⟨R (bn), a, none⟩ v) from fun Z hq v => (hm.qt hq).setB ho (Nat.le_refl _) (HBz.out.trans (hq.below _)) a v)
                have HX1 := Lib.hid (show ∀ Z, Qt wz Z → ∀ v, (Z.setCell ⟨R (bn), a, none⟩ v).heap[gx]? = _ from fun Z hq v => (Below.heap_setCell _ _ _ _ (show gx ≠ R (bn) by omega)).trans (((hq.below wz.heap.size).block _ (lt_of_block rgx)).trans rgx))
                have HY1 := Lib.hid (show ∀ Z, Qt wz Z → ∀ v, (Z.setCell ⟨R (bn), a, none⟩ v).heap[gb]? = _ from fun Z hq v => (Below.heap_setCell _ _ _ _ (show gb ≠ R (bn) by omega)).trans (((hq.below wz.heap.size).block _ (lt_of_block rgb)).trans rgb))
                have s1 : IntKind.i64.wrap (x4 + wd) = x4 + wd := IntWalk.i64_in _ (by omega)
                have s2 : IntKind.i64.wrap (wd - x3) = wd - x3 := IntWalk.i64_in _ (by omega)
                clear hm
                obtain ⟨e0, he0⟩ : ∃ e0, e0 = t0 (bn) a := ⟨_, rfl⟩
                rw [← he0] at c0 HS1
                have HE0 := Lib.hid he0
                clear he0 hro hra rgx rgb
                have Hbz := Lib.hid hbz
                clear hbz
                refine region_quiet_tail (C := fun w' => ∃ n, w' = wz.drewN n) 19 (by kernel_rfl) (by kernel_rfl) ⟨1, rfl⟩ ?_
                simp only [List.take_succ_cons, List.take_zero, List.drop_succ_cons, List.drop_zero]
                repeat (first | go_big_quiet_step (fail) | quiet_step (fail))
                refine wpQuiet_nil ?_
                rintro _ ⟨n1, rfl⟩
                go_upto_region 23 with (fail)
                obtain ⟨wy, hwy⟩ : ∃ wy, wy = (wz.drewN n1).setCell ⟨R (bn), a, none⟩ (.int .i64 (min e0 (x4 + wd))) := ⟨_, rfl⟩
                have hm2 := HS1.out _ ⟨n1, rfl⟩
                have hb2 := HB1.out _ ⟨n1, rfl⟩ (.int .i64 (min e0 (x4 + wd)))
                have rx2 := HX1.out _ ⟨n1, rfl⟩ (.int .i64 (min e0 (x4 + wd)))
                have rb2 := HY1.out _ ⟨n1, rfl⟩ (.int .i64 (min e0 (x4 + wd)))
                rw [← hwy] at hm2 hb2 rx2 rb2
                rw [← hwy]
                clear hwy c0 p0 p1 fz k1 l1
                have p0 := hm2.top bn ho
                have p1 := hm2.top a ha1
                have c0 := hm2.cell a bn ha1 ho
                have fz := hm2.fz a bn ha1 ho
                have k1 := cellOf rx2 1 (v := .int .i64 a) rfl
                have l1 := cellOf rb2 0 (v := .int .i64 x3) rfl
                have HS2 := Lib.hid (show ∀ Z, Qt wy Z → MxAt g (Z.setCell ⟨R a, bn, none⟩ (.int .i64 (min (updM t0 (bn) a (min e0 (x4 + wd)) a (bn)) (wd - x3)))) g (s.pts.length + 1) R C (updM (updM t0 (bn) a (min e0 (x4 + wd))) a (bn) (min (updM t0 (bn) a (min e0 (x4 + wd)) a (bn)) (wd - x3))) from fun Z hq => (hm2.qt hq).set ha1 ho _)
                have HB2 := Lib.hid (show ∀ Z, Qt wy Z → ∀ v, Below g W1 (Z.setCell ⟨R a, bn, none⟩ v) from fun Z hq v => (hm2.qt hq).setB ha1 (Nat.le_refl _) (hb2.trans (hq.below _)) (bn) v)
                rw [HE0.out] at HS2 c0
                clear hm2 hb2 rx2 rb2 HE0
                obtain ⟨e1, he1⟩ : ∃ e1, e1 = updM t0 (bn) a (min (t0 (bn) a) (x4 + wd)) a (bn) := ⟨_, rfl⟩
                rw [← he1] at HS2 c0
                have HE1 := Lib.hid he1.symm
                clear he1
                refine region_quiet_tail (C := fun w' => ∃ n, w' = wy.drewN n) 19 (by kernel_rfl) (by kernel_rfl) ⟨1, rfl⟩ ?_
                simp only [List.take_succ_cons, List.take_zero, List.drop_succ_cons, List.drop_zero]
                repeat (first | go_big_quiet_step (fail) | quiet_step (fail))
                refine wpQuiet_nil ?_
                rintro _ ⟨n2, rfl⟩
                go_wp2
                go_roundw
                case rel =>
                  refine ⟨k + 1, by omega, by go_num, ?_, HB2.out _ ⟨n2, rfl⟩ _⟩
                  rw [HSt.out, HNo.out, HE1.out]
                  exact HS2.out _ ⟨n2, rfl⟩
                case measure => simp [intOf]; omega
        · have hke : k = ix.length := by omega
          have HMe := Lib.hid (show MxAt g wr g (s.pts.length + 1) R C (refM s (lvN s ix) wd) by
            have hl : (lvN s ix).length = ix.length := by simp [lvN]
            have h := HMx.out
            rw [hke, List.take_of_length_le (by omega)] at h
            exact h)
          have HNr := Lib.hid (narrow_any (c := s.pts.length + 1) HMe.out (by omega) (fun a b _ _ => HRg.out a b))
          have hZ := HZ1.out
          clear hmx hbr hke
          have hgr := HGg.out
          clear q0 q2
          go_wp2_with (go_at_call 96; (with_reducible refine Calls.mono HNr.out ?_); rintro e X ⟨rfl, hm, h4⟩)
          go_ret2
          refine ⟨g, _, R, C, rfl, hm.mono (by omega), hbw.trans (h4.mono (by omega))⟩
end Go.Proofs.YtajdgdelhlfniaaGreatDoor
namespace Go.Proofs.YtajdgdelhlfniaaGreatDoor
open Go.RowKit

def numL (n : Nat) : List Int := (List.range n).map fun (i : Nat) => (i : Int)
theorem numL_len (n : Nat) : (numL n).length = n := by simp [numL]
theorem numL_snoc (n : Nat) : numL (n + 1) = numL n ++ [(n : Int)] := by
  unfold numL
  rw [List.range_succ, List.map_append]
  rfl
theorem numL_mem {n : Nat} {j : Int} (h : j ∈ numL n) : 0 ≤ j ∧ j < n := by
  obtain ⟨i, hi, rfl⟩ := List.mem_map.1 h
  have := List.mem_range.1 hi
  omega
theorem lvN_all (s : ShR) : lvN s (numL s.notes.length) = s.notes := by
  unfold lvN numL
  rw [List.map_map]
  apply List.ext_getElem?
  intro i
  rw [List.getElem?_map]
  by_cases h : i < s.notes.length
  · rw [List.getElem?_range h, List.getElem?_eq_getElem h]
    simp only [Option.map_some, Function.comp, Int.toNat_natCast]
    rw [getD_at h]
  · rw [List.getElem?_eq_none (by simp; omega), List.getElem?_eq_none (by omega)]
    rfl
theorem rbounds_all {B Bi : Nat} {w : World} {v vi : Value} {s : ShR} {wd : Int} (hs : RdSh B w v s) (hg : Good s) (hB : B ≤ w.heap.size) (hi : Rd IntAt 1 Bi w vi (numL s.notes.length)) (hBi : Bi ≤ w.heap.size) (hw : 0 ≤ wd ∧ wd ≤ 18000) :
    Calls Tryz.prog 69 #[v, vi, .int .i64 wd] w fun e w' => ∃ g c R C, e = .returned (.tuple #[.slice (some ⟨g, 0, none⟩) (s.pts.length + 1) c, .bool (refB s s.notes wd)]) ∧ MxAt w.heap.size w' g (s.pts.length + 1) R C (fwM (s.pts.length + 1) (refM s s.notes wd)) ∧ Below w.heap.size w w' := by
  have h := rbounds_any hs hg hB hi hBi (fun j hj => numL_mem hj) hw
  rw [lvN_all] at h
  exact h
theorem renter70 : ∀ args w, (callFunc 70 args).run Tryz.prog w = .ok (.enter 70 args) w := enters_of Tryz.func70 (by kernel_rfl) rfl
theorem renter69 : ∀ args w, (callFunc 69 args).run Tryz.prog w = .ok (.enter 69 args) w := enters_of Tryz.func69 (by kernel_rfl) rfl
theorem reval_const (b : Act) (v : Value) : b.eval (.const v) = v := rfl
/-- what each operation has yielded: a known value, the numbers of all notes, the bounds with their answer, the bounds -/
def BnF (base n N : Nat) (T : Mat) (f : Bool) (kind : Nat → Nat) (val : Nat → Value) (k : Nat) (v : Value) (X : World) : Prop :=
  match kind k with
  | 0 => v = val k
  | 1 => ∃ A c, v = .slice A n c ∧ Rd IntAt 1 X.heap.size X (.slice A n c) (numL n)
  | 2 => ∃ g c R C, v = .tuple #[.slice (some ⟨g, 0, none⟩) N c, .bool f] ∧ MxAt base X g N R C T
  | _ => ∃ g c R C, v = .slice (some ⟨g, 0, none⟩) N c ∧ MxAt base X g N R C T
theorem BnF.keeps (base n N : Nat) (T : Mat) (f : Bool) (kind : Nat → Nat) (val : Nat → Value) : Keeps (BnF base n N T f kind val) := by
  intro k v X X' hF hb
  unfold BnF at hF ⊢
  split at hF
  · exact hF
  · obtain ⟨A, c, e, hr⟩ := hF
    exact ⟨A, c, e, (hr.below hb).mono hb.size⟩
  · obtain ⟨g, c, R, C, e, hm⟩ := hF
    exact ⟨g, c, R, C, e, hm.below hb⟩
  · obtain ⟨g, c, R, C, e, hm⟩ := hF
    exact ⟨g, c, R, C, e, hm.below hb⟩
end Go.Proofs.YtajdgdelhlfniaaGreatDoor
namespace Go.Proofs.YtajdgdelhlfniaaGreatDoor
open Go.RowKit

set_option maxRecDepth 100000 in
set_option maxHeartbeats 4000000 in
theorem rall_any {B : Nat} {w : World} {v : Value} {s : ShR} (hs : RdSh B w v s) (hB : B ≤ w.heap.size) (hn : s.notes.length ≤ 1000) :
    Calls Tryz.prog 70 #[v] w fun e w' => ∃ A c, e = .returned (.slice A s.notes.length c) ∧ Rd IntAt 1 w'.heap.size w' (.slice A s.notes.length c) (numL s.notes.length) ∧ Below w.heap.size w w' := by
  obtain ⟨vp, vn, rfl, hp, ho⟩ := id hs
  obtain ⟨Ap, cp, rfl, _⟩ := id hp
  obtain ⟨An, cn, rfl, _⟩ := id ho
  have HSR := Lib.hid (fun (X : World) (hb : Below w.heap.size w X) => hs.below (hb.mono hB))
  obtain ⟨W1, hW1, r1, z1, b1⟩ := box_any w #[.int .i64 s.iv, .slice Ap s.pts.length cp, .slice An s.notes.length cn] 25
  have HC : Hid (∀ Z : World, Below W1.heap.size W1 Z → Z.cell? ⟨w.heap.size, 0, none⟩ = some (.int .i64 s.iv) ∧ Z.cell? ⟨w.heap.size, 1, none⟩ = some (.slice Ap s.pts.length cp) ∧ Z.cell? ⟨w.heap.size, 2, none⟩ = some (.slice An s.notes.length cn) ∧ Below w.heap.size w Z) :=
    Lib.hid fun Z h => by
      have j1 := (h.block _ (lt_of_block r1)).trans r1
      exact ⟨cellOf j1 0 rfl, cellOf j1 1 rfl, cellOf j1 2 rfl, b1.trans (h.mono b1.size)⟩
  have HZ := Lib.hid (show w.heap.size ≤ W1.heap.size by omega)
  have hbx : Below W1.heap.size W1 W1 := Below.refl _ _
  obtain ⟨C0, C1, C2, hb⟩ := HC.out _ hbx
  clear hp ho r1 z1 b1
  clear HSR hs hB
  go_enter Tryz.func70, Tryz.ntmps70
  go_upto_region 1 with (fail)
  rw [← hW1]
  clear hW1
  go_wp2
  clear C0 C1 C2 hb
  go_loopw [3, 4] (fun lv i wr => ∃ (k : Nat) (A : Option Addr) (c : Nat), k ≤ s.notes.length ∧ i = .int .i64 k ∧ lv = .slice A k c ∧ Own W1.heap.size 3 wr (.slice A k c) (numL k) ∧ Below W1.heap.size W1 wr) (fun _ i _ => s.notes.length - (intOf i).toNat)
  case atStart => exact ⟨0, none, 0, Nat.zero_le _, rfl, rfl, Own.nil _ _ _, hbx⟩
  case round =>
    clear hbx
    obtain ⟨k, A, c, hk, rfl, rfl, hown, hbx⟩ := hrel
    obtain ⟨C0, C1, C2, hb⟩ := HC.out _ hbx
    clear C0 C1 hb
    by_cases hlt : k < s.notes.length
    · have HSn := Lib.hid (numL_snoc k)
      have HLn := Lib.hid (numL_len k)
      have HBx := Lib.hid hbx
      generalize numL k = l at *
      obtain ⟨A2, c2', w2, hrun, hown2, hb2, _⟩ := append_int hown (k : Int) (by rw [HLn.out]; omega) hbx.size
      rw [HLn.out] at hrun hown2
      have HOwn2 := Lib.hid hown2
      have HB2 := Lib.hid hb2
      clear hown hown2 hb2 hbx
      go_wp2_with (at_builtin; refine wpList_append_run rfl _ _ _ rfl rfl rfl hrun ?_)
      go_roundw
      case rel => exact ⟨k + 1, A2, c2', by omega, by go_num, rfl, by rw [HSn.out]; exact HOwn2.out, HBx.out.trans HB2.out⟩
      case measure => simp [intOf]; omega
    · have hke : k = s.notes.length := by omega
      have HO := Lib.hid hown
      have HBx := Lib.hid hbx
      clear hown hbx
      subst hke
      go_wp2
      go_ret
      exact ⟨A, c, rfl, by have := HO.out.rd; exact this, (HC.out _ HBx.out).2.2.2⟩

set_option maxRecDepth 100000 in
set_option maxHeartbeats 4000000 in
theorem rfits_any {B : Nat} {w : World} {v : Value} {s : ShR} (hs : RdSh B w v s) (hn : Named s) (hB : B ≤ w.heap.size) :
    Calls Tryz.prog 22 #[v] w fun e w' => e = .returned (.tuple #[.bool (fitsB s), .int .i64 (errOf s)]) ∧ Below w.heap.size w w' := by
  obtain ⟨vp, vn, rfl, hp, ho⟩ := id hs
  obtain ⟨Ap, cp, rfl, _⟩ := id hp
  obtain ⟨An, cn, rfl, _⟩ := id ho
  have HSR := Lib.hid (fun (X : World) (hb : Below w.heap.size w X) => hs.below (hb.mono hB))
  obtain ⟨W1, hW1, r1, z1, b1⟩ := box_any w #[.int .i64 s.iv, .slice Ap s.pts.length cp, .slice An s.notes.length cn] 25
  have HC : Hid (∀ Z : World, Below W1.heap.size W1 Z → Z.cell? ⟨w.heap.size, 0, none⟩ = some (.int .i64 s.iv) ∧ Z.cell? ⟨w.heap.size, 1, none⟩ = some (.slice Ap s.pts.length cp) ∧ Z.cell? ⟨w.heap.size, 2, none⟩ = some (.slice An s.notes.length cn) ∧ Below w.heap.size w Z) :=
    Lib.hid fun Z h => by
      have j1 := (h.block _ (lt_of_block r1)).trans r1
      exact ⟨cellOf j1 0 rfl, cellOf j1 1 rfl, cellOf j1 2 rfl, b1.trans (h.mono b1.size)⟩
  have HZ := Lib.hid (show w.heap.size ≤ W1.heap.size by omega)
  have hbx : Below W1.heap.size W1 W1 := Below.refl _ _
  obtain ⟨C0, C1, C2, hb⟩ := HC.out _ hbx
  clear hp ho r1 z1 b1
  have HCk := Lib.hid (fun (X : World) (hb : Below w.heap.size w X) => rcheck_any (HSR.out X hb) hn (Nat.le_trans hB hb.size))
  unfold checkV at HCk
  have heo : errOf s = (check s).2.2 := rfl
  rw [← heo] at HCk
  clear heo
  generalize (check s).1 = a1 at HCk
  generalize (check s).2.1 = a2 at HCk
  by_cases he : errOf s = 0
  · have hg := good_of_valid he
    have HF := Lib.hid (refB_fits hg)
    have HAl := Lib.hid (fun (X : World) (hb : Below w.heap.size w X) => rall_any (HSR.out X hb) (Nat.le_trans hB hb.size) (by have := hg.nlen; omega))
    have HBd := Lib.hid (fun (X : World) (hb : Below w.heap.size w X) (vi : Value) (hi : Rd IntAt 1 X.heap.size X vi (numL s.notes.length)) => rbounds_all (wd := 0) (HSR.out X hb) hg (Nat.le_trans hB hb.size) hi (Nat.le_refl _) (by omega))
    rw [he] at HCk ⊢
    clear he hg hs
    generalize refB s s.notes 0 = f at *
    go_enter Tryz.func22, Tryz.ntmps22
    go_upto_region 1 with (fail)
    rw [← hW1]
    clear hW1
    go_upto_region 4 with (go_at_call 17; (with_reducible refine Calls.mono (HCk.out _ hb) ?_); rintro e X ⟨rfl, h4⟩; replace hbx := hbx.trans (h4.mono hbx.size); clear C0 C1 C2 hb h4; obtain ⟨C0, C1, C2, hb⟩ := HC.out _ hbx)
    obtain ⟨wv, rfl⟩ : ∃ wv : World, wv = X := ⟨_, rfl⟩
    have HWr := Lib.hid hb
    have QC0 := Lib.hid C0
    have QC1 := Lib.hid C1
    have QC2 := Lib.hid C2
    have hF := BnF.keeps w.heap.size s.notes.length (s.pts.length + 1) (fwM (s.pts.length + 1) (refM s s.notes 0)) f (fun kk => ([0, 0, 1, 2, 2, 3, 0, 3, 0] : List Nat).getD kk 0) (fun jj => ([.agg #[.int .i64 s.iv, .slice Ap s.pts.length cp, .slice An s.notes.length cn], .agg #[.int .i64 s.iv, .slice Ap s.pts.length cp, .slice An s.notes.length cn], undef, undef, undef, undef, .bool f, undef, .bool f] : List Value).getD jj undef)
    refine wp_region_ghost (BlI wv (BnF w.heap.size s.notes.length (s.pts.length + 1) (fwM (s.pts.length + 1) (refM s s.notes 0)) f (fun kk => ([0, 0, 1, 2, 2, 3, 0, 3, 0] : List Nat).getD kk 0) (fun jj => ([.agg #[.int .i64 s.iv, .slice Ap s.pts.length cp, .slice An s.notes.length cn], .agg #[.int .i64 s.iv, .slice Ap s.pts.length cp, .slice An s.notes.length cn], undef, undef, undef, undef, .bool f, undef, .bool f] : List Value).getD jj undef))) (by kernel_rfl) (by kernel_rfl) BlI.start ?_ ?_
    · refine ⟨?_, ?_, ?_, ?_, ?_, ?_, ?_, ?_, ?_, trivial⟩
      all_goals
        intro L vs X b hL hw hcl hI hf
      · have hb := hI.bel
        have e1 := hf.old 1 (by kernel_rfl)
        have qQC0 := (hb.cell (cell_lt QC0.out)).trans QC0.out
        have qQC1 := (hb.cell (cell_lt QC1.out)).trans QC1.out
        have qQC2 := (hb.cell (cell_lt QC2.out)).trans QC2.out
        refine wp_of_run (v := .agg #[.int .i64 s.iv, .slice Ap s.pts.length cp, .slice An s.notes.length cn]) (w' := X) (by unfold execOp; go_simp) ?_
        exact hI.read hF rfl
      · have hb := hI.bel
        have e1 := hf.old 1 (by kernel_rfl)
        have qQC0 := (hb.cell (cell_lt QC0.out)).trans QC0.out
        have qQC1 := (hb.cell (cell_lt QC1.out)).trans QC1.out
        have qQC2 := (hb.cell (cell_lt QC2.out)).trans QC2.out
        refine wp_of_run (v := .agg #[.int .i64 s.iv, .slice Ap s.pts.length cp, .slice An s.notes.length cn]) (w' := X) (by unfold execOp; go_simp) ?_
        exact hI.read hF rfl
      · have hb := hI.bel
        have h1 : L 1 = true := done_of hw 1 (by kernel_rfl)
        have e20 : b.tmps[20]?.getD undef = .agg #[.int .i64 s.iv, .slice Ap s.pts.length cp, .slice An s.notes.length cn] := (hf.new 1 20 rfl h1 (by simp)).trans (hI.fs 1 h1)
        refine wp_of_call (f := 70) (args := #[.agg #[.int .i64 s.iv, .slice Ap s.pts.length cp, .slice An s.notes.length cn]]) (run_call_clo (.func 70) _ _ rfl (c := #[]) rfl renter70 (by simp [eval_tmp e20])) ?_
        refine (HAl.out X (HWr.out.trans (hb.mono HWr.out.size))).mono ?_
        rintro e wz ⟨A, c, rfl, hr, hbz⟩
        exact ⟨_, rfl, hI.step hF hbz ⟨A, c, rfl, hr⟩⟩
      · have hb := hI.bel
        have h0 : L 0 = true := done_of hw 0 (by kernel_rfl)
        have e19 : b.tmps[19]?.getD undef = .agg #[.int .i64 s.iv, .slice Ap s.pts.length cp, .slice An s.notes.length cn] := (hf.new 0 19 rfl h0 (by simp)).trans (hI.fs 0 h0)
        have h2 : L 2 = true := done_of hw 2 (by kernel_rfl)
        obtain ⟨A2, c2, q2, r2⟩ := hI.fs 2 h2
        have e21 : b.tmps[21]?.getD undef = .slice A2 s.notes.length c2 := (hf.new 2 21 rfl h2 (by simp)).trans q2
        refine wp_of_call (f := 69) (args := #[.agg #[.int .i64 s.iv, .slice Ap s.pts.length cp, .slice An s.notes.length cn], .slice A2 s.notes.length c2, .int .i64 0]) (run_call_clo (.func 69) _ _ rfl (c := #[]) rfl renter69 (by simp [eval_tmp e19, eval_tmp e21, reval_const])) ?_
        refine (HBd.out X (HWr.out.trans (hb.mono HWr.out.size)) _ r2).mono ?_
        rintro e wz ⟨g, cg, R, C, rfl, hm, hbz⟩
        exact ⟨_, rfl, hI.step hF hbz ⟨g, cg, R, C, rfl, hm.mono (Nat.le_trans HWr.out.size hb.size)⟩⟩
      · have hb := hI.bel
        have h3 : L 3 = true := done_of hw 3 (by kernel_rfl)
        obtain ⟨g3, cg3, R3, C3, q3, r3⟩ := hI.fs 3 h3
        have e22 : b.tmps[22]?.getD undef = .tuple #[.slice (some ⟨g3, 0, none⟩) (s.pts.length + 1) cg3, .bool f] := (hf.new 3 22 rfl h3 (by simp)).trans q3
        refine wp_of_run (v := .tuple #[.slice (some ⟨g3, 0, none⟩) (s.pts.length + 1) cg3, .bool f]) (w' := X) (by unfold execOp; go_simp) ?_
        exact hI.read hF ⟨g3, cg3, R3, C3, rfl, r3⟩
      · have hb := hI.bel
        have h4 : L 4 = true := done_of hw 4 (by kernel_rfl)
        obtain ⟨g4, cg4, R4, C4, q4, r4⟩ := hI.fs 4 h4
        have e18 : b.tmps[18]?.getD undef = .tuple #[.slice (some ⟨g4, 0, none⟩) (s.pts.length + 1) cg4, .bool f] := (hf.new 4 18 rfl h4 (by simp)).trans q4
        refine wp_of_run (v := .slice (some ⟨g4, 0, none⟩) (s.pts.length + 1) cg4) (w' := X) (by unfold execOp; go_simp) ?_
        exact hI.read hF ⟨g4, cg4, R4, C4, rfl, r4⟩
      · have hb := hI.bel
        have h4 : L 4 = true := done_of hw 4 (by kernel_rfl)
        obtain ⟨g4, cg4, R4, C4, q4, r4⟩ := hI.fs 4 h4
        have e18 : b.tmps[18]?.getD undef = .tuple #[.slice (some ⟨g4, 0, none⟩) (s.pts.length + 1) cg4, .bool f] := (hf.new 4 18 rfl h4 (by simp)).trans q4
        refine wp_of_run (v := .bool f) (w' := X) (by unfold execOp; go_simp) ?_
        exact hI.read hF rfl
      · have hb := hI.bel
        have h5 : L 5 = true := done_of hw 5 (by kernel_rfl)
        obtain ⟨g5, cg5, R5, C5, q5, r5⟩ := hI.fs 5 h5
        have e23 : b.tmps[23]?.getD undef = .slice (some ⟨g5, 0, none⟩) (s.pts.length + 1) cg5 := (hf.new 5 23 rfl h5 (by simp)).trans q5
        refine wp_of_run (v := .slice (some ⟨g5, 0, none⟩) (s.pts.length + 1) cg5) (w' := X) (by unfold execOp; go_simp) ?_
        exact hI.read hF ⟨g5, cg5, R5, C5, rfl, r5⟩
      · have hb := hI.bel
        have h6 : L 6 = true := done_of hw 6 (by kernel_rfl)
        have e24 : b.tmps[24]?.getD undef = .bool f := (hf.new 6 24 rfl h6 (by simp)).trans (hI.fs 6 h6)
        refine wp_of_run (v := .bool f) (w' := X) (by unfold execOp; go_simp) ?_
        exact hI.read hF rfl
    · intro vs X hI
      obtain ⟨g, cg, R, C, e7, hm⟩ := hI.fs 7 rfl
      have e8 : vs 8 = .bool f := hI.fs 8 rfl
      have hbX := hI.bel
      clear hI hF
      simp [fill, slotOf, Act.put]
      simp only [Exit.inBlock, Exit.then]
      rw [e7, e8]
      clear e7 e8
      generalize vs 0 = yy0 at *
      generalize vs 1 = yy1 at *
      generalize vs 2 = yy2 at *
      generalize vs 3 = yy3 at *
      generalize vs 4 = yy4 at *
      generalize vs 5 = yy5 at *
      generalize vs 6 = yy6 at *
      generalize vs 7 = yy7 at *
      generalize vs 8 = yy8 at *
      have HMx := Lib.hid hm
      replace hbx := hbx.trans (hbX.mono hbx.size)
      clear hm C0 C1 C2 hb hbX QC0 QC1 QC2 HWr
      obtain ⟨C0, C1, C2, hb⟩ := HC.out _ hbx
      go_wp2
      go_ret2
      exact ⟨by rw [← HF.out]; rfl, hb⟩
  · have HF := Lib.hid (show fitsB s = false by unfold fitsB; rw [openE_err he]; exact decide_eq_false he)
    have hne : (errOf s != 0) = true := by simp [he]
    generalize errOf s = er at *
    clear he hs
    go_enter Tryz.func22, Tryz.ntmps22
    go_upto_region 1 with (fail)
    rw [← hW1]
    clear hW1
    go_wp2_with (go_at_call 17; (with_reducible refine Calls.mono (HCk.out _ hb) ?_); rintro e X ⟨rfl, h4⟩; replace hbx := hbx.trans (h4.mono hbx.size); clear C0 C1 C2 hb h4; obtain ⟨C0, C1, C2, hb⟩ := HC.out _ hbx)
    go_ret2
    exact ⟨by rw [HF.out]; rfl, hb⟩

set_option maxRecDepth 100000 in
set_option maxHeartbeats 4000000 in
theorem rbound_ok {B : Nat} {w : World} {v : Value} {s : ShR} (h0 : openE s = 0) (hs : RdSh B w v s) (hn : Named s) (hB : B ≤ w.heap.size) :
    Calls Tryz.prog 71 #[v] w fun e w' => ∃ g c R C, e = .returned (.tuple #[.slice (some ⟨g, 0, none⟩) (s.pts.length + 1) c, .int .i64 0]) ∧ MxAt w.heap.size w' g (s.pts.length + 1) R C (refT s) ∧ Below w.heap.size w w' := by
  have hg := good_of_open h0
  have he := errOf_good hg
  obtain ⟨vp, vn, rfl, hp, ho⟩ := id hs
  obtain ⟨Ap, cp, rfl, _⟩ := id hp
  obtain ⟨An, cn, rfl, _⟩ := id ho
  have HSR := Lib.hid (fun (X : World) (hb : Below w.heap.size w X) => hs.below (hb.mono hB))
  obtain ⟨W1, hW1, r1, z1, b1⟩ := box_any w #[.int .i64 s.iv, .slice Ap s.pts.length cp, .slice An s.notes.length cn] 25
  have HC : Hid (∀ Z : World, Below W1.heap.size W1 Z → Z.cell? ⟨w.heap.size, 0, none⟩ = some (.int .i64 s.iv) ∧ Z.cell? ⟨w.heap.size, 1, none⟩ = some (.slice Ap s.pts.length cp) ∧ Z.cell? ⟨w.heap.size, 2, none⟩ = some (.slice An s.notes.length cn) ∧ Below w.heap.size w Z) :=
    Lib.hid fun Z h => by
      have j1 := (h.block _ (lt_of_block r1)).trans r1
      exact ⟨cellOf j1 0 rfl, cellOf j1 1 rfl, cellOf j1 2 rfl, b1.trans (h.mono b1.size)⟩
  have HZ := Lib.hid (show w.heap.size ≤ W1.heap.size by omega)
  have hbx : Below W1.heap.size W1 W1 := Below.refl _ _
  obtain ⟨C0, C1, C2, hb⟩ := HC.out _ hbx
  clear hp ho r1 z1 b1
  have HCk := Lib.hid (fun (X : World) (hb : Below w.heap.size w X) => rcheck_any (HSR.out X hb) hn (Nat.le_trans hB hb.size))
  unfold checkV at HCk
  have heo : errOf s = (check s).2.2 := rfl
  rw [← heo] at HCk
  clear heo
  generalize (check s).1 = a1 at HCk
  generalize (check s).2.1 = a2 at HCk
  have hF : refB s s.notes 0 = true := by rw [refB_fits hg]; exact decide_eq_true h0
  have HAl := Lib.hid (fun (X : World) (hb : Below w.heap.size w X) => rall_any (HSR.out X hb) (Nat.le_trans hB hb.size) (by have := hg.nlen; omega))
  have HBd := Lib.hid (fun (X : World) (hb : Below w.heap.size w X) (vi : Value) (hi : Rd IntAt 1 X.heap.size X vi (numL s.notes.length)) => rbounds_all (wd := 0) (HSR.out X hb) hg (Nat.le_trans hB hb.size) hi (Nat.le_refl _) (by omega))
  rw [he] at HCk
  rw [hF] at HBd
  clear he hg hs h0 hF
  go_enter Tryz.func71, Tryz.ntmps71
  go_upto_region 1 with (fail)
  rw [← hW1]
  clear hW1
  go_upto_region 4 with (go_at_call 17; (with_reducible refine Calls.mono (HCk.out _ hb) ?_); rintro e X ⟨rfl, h4⟩; replace hbx := hbx.trans (h4.mono hbx.size); clear C0 C1 C2 hb h4; obtain ⟨C0, C1, C2, hb⟩ := HC.out _ hbx)
  obtain ⟨wv, rfl⟩ : ∃ wv : World, wv = X := ⟨_, rfl⟩
  have HWr := Lib.hid hb
  have QC0 := Lib.hid C0
  have QC1 := Lib.hid C1
  have QC2 := Lib.hid C2
  have hF := BnF.keeps w.heap.size s.notes.length (s.pts.length + 1) (fwM (s.pts.length + 1) (refM s s.notes 0)) true (fun kk => ([0, 0, 1, 2, 2, 3, 0, 3, 0] : List Nat).getD kk 0) (fun jj => ([.agg #[.int .i64 s.iv, .slice Ap s.pts.length cp, .slice An s.notes.length cn], .agg #[.int .i64 s.iv, .slice Ap s.pts.length cp, .slice An s.notes.length cn], undef, undef, undef, undef, .bool true, undef, .bool true] : List Value).getD jj undef)
  refine wp_region_ghost (BlI wv (BnF w.heap.size s.notes.length (s.pts.length + 1) (fwM (s.pts.length + 1) (refM s s.notes 0)) true (fun kk => ([0, 0, 1, 2, 2, 3, 0, 3, 0] : List Nat).getD kk 0) (fun jj => ([.agg #[.int .i64 s.iv, .slice Ap s.pts.length cp, .slice An s.notes.length cn], .agg #[.int .i64 s.iv, .slice Ap s.pts.length cp, .slice An s.notes.length cn], undef, undef, undef, undef, .bool true, undef, .bool true] : List Value).getD jj undef))) (by kernel_rfl) (by kernel_rfl) BlI.start ?_ ?_
  · refine ⟨?_, ?_, ?_, ?_, ?_, ?_, ?_, ?_, ?_, trivial⟩
    all_goals
      intro L vs X b hL hw hcl hI hf
    · have hb := hI.bel
      have e1 := hf.old 1 (by kernel_rfl)
      have qQC0 := (hb.cell (cell_lt QC0.out)).trans QC0.out
      have qQC1 := (hb.cell (cell_lt QC1.out)).trans QC1.out
      have qQC2 := (hb.cell (cell_lt QC2.out)).trans QC2.out
      refine wp_of_run (v := .agg #[.int .i64 s.iv, .slice Ap s.pts.length cp, .slice An s.notes.length cn]) (w' := X) (by unfold execOp; go_simp) ?_
      exact hI.read hF rfl
    · have hb := hI.bel
      have e1 := hf.old 1 (by kernel_rfl)
      have qQC0 := (hb.cell (cell_lt QC0.out)).trans QC0.out
      have qQC1 := (hb.cell (cell_lt QC1.out)).trans QC1.out
      have qQC2 := (hb.cell (cell_lt QC2.out)).trans QC2.out
      refine wp_of_run (v := .agg #[.int .i64 s.iv, .slice Ap s.pts.length cp, .slice An s.notes.length cn]) (w' := X) (by unfold execOp; go_simp) ?_
      exact hI.read hF rfl
    · have hb := hI.bel
      have h1 : L 1 = true := done_of hw 1 (by kernel_rfl)
      have e20 : b.tmps[20]?.getD undef = .agg #[.int .i64 s.iv, .slice Ap s.pts.length cp, .slice An s.notes.length cn] := (hf.new 1 20 rfl h1 (by simp)).trans (hI.fs 1 h1)
      refine wp_of_call (f := 70) (args := #[.agg #[.int .i64 s.iv, .slice Ap s.pts.length cp, .slice An s.notes.length cn]]) (run_call_clo (.func 70) _ _ rfl (c := #[]) rfl renter70 (by simp [eval_tmp e20])) ?_
      refine (HAl.out X (HWr.out.trans (hb.mono HWr.out.size))).mono ?_
      rintro e wz ⟨A, c, rfl, hr, hbz⟩
      exact ⟨_, rfl, hI.step hF hbz ⟨A, c, rfl, hr⟩⟩
    · have hb := hI.bel
      have h0 : L 0 = true := done_of hw 0 (by kernel_rfl)
      have e19 : b.tmps[19]?.getD undef = .agg #[.int .i64 s.iv, .slice Ap s.pts.length cp, .slice An s.notes.length cn] := (hf.new 0 19 rfl h0 (by simp)).trans (hI.fs 0 h0)
      have h2 : L 2 = true := done_of hw 2 (by kernel_rfl)
      obtain ⟨A2, c2, q2, r2⟩ := hI.fs 2 h2
      have e21 : b.tmps[21]?.getD undef = .slice A2 s.notes.length c2 := (hf.new 2 21 rfl h2 (by simp)).trans q2
      refine wp_of_call (f := 69) (args := #[.agg #[.int .i64 s.iv, .slice Ap s.pts.length cp, .slice An s.notes.length cn], .slice A2 s.notes.length c2, .int .i64 0]) (run_call_clo (.func 69) _ _ rfl (c := #[]) rfl renter69 (by simp [eval_tmp e19, eval_tmp e21, reval_const])) ?_
      refine (HBd.out X (HWr.out.trans (hb.mono HWr.out.size)) _ r2).mono ?_
      rintro e wz ⟨g, cg, R, C, rfl, hm, hbz⟩
      exact ⟨_, rfl, hI.step hF hbz ⟨g, cg, R, C, rfl, hm.mono (Nat.le_trans HWr.out.size hb.size)⟩⟩
    · have hb := hI.bel
      have h3 : L 3 = true := done_of hw 3 (by kernel_rfl)
      obtain ⟨g3, cg3, R3, C3, q3, r3⟩ := hI.fs 3 h3
      have e22 : b.tmps[22]?.getD undef = .tuple #[.slice (some ⟨g3, 0, none⟩) (s.pts.length + 1) cg3, .bool true] := (hf.new 3 22 rfl h3 (by simp)).trans q3
      refine wp_of_run (v := .tuple #[.slice (some ⟨g3, 0, none⟩) (s.pts.length + 1) cg3, .bool true]) (w' := X) (by unfold execOp; go_simp) ?_
      exact hI.read hF ⟨g3, cg3, R3, C3, rfl, r3⟩
    · have hb := hI.bel
      have h4 : L 4 = true := done_of hw 4 (by kernel_rfl)
      obtain ⟨g4, cg4, R4, C4, q4, r4⟩ := hI.fs 4 h4
      have e18 : b.tmps[18]?.getD undef = .tuple #[.slice (some ⟨g4, 0, none⟩) (s.pts.length + 1) cg4, .bool true] := (hf.new 4 18 rfl h4 (by simp)).trans q4
      refine wp_of_run (v := .slice (some ⟨g4, 0, none⟩) (s.pts.length + 1) cg4) (w' := X) (by unfold execOp; go_simp) ?_
      exact hI.read hF ⟨g4, cg4, R4, C4, rfl, r4⟩
    · have hb := hI.bel
      have h4 : L 4 = true := done_of hw 4 (by kernel_rfl)
      obtain ⟨g4, cg4, R4, C4, q4, r4⟩ := hI.fs 4 h4
      have e18 : b.tmps[18]?.getD undef = .tuple #[.slice (some ⟨g4, 0, none⟩) (s.pts.length + 1) cg4, .bool true] := (hf.new 4 18 rfl h4 (by simp)).trans q4
      refine wp_of_run (v := .bool true) (w' := X) (by unfold execOp; go_simp) ?_
      exact hI.read hF rfl
    · have hb := hI.bel
      have h5 : L 5 = true := done_of hw 5 (by kernel_rfl)
      obtain ⟨g5, cg5, R5, C5, q5, r5⟩ := hI.fs 5 h5
      have e23 : b.tmps[23]?.getD undef = .slice (some ⟨g5, 0, none⟩) (s.pts.length + 1) cg5 := (hf.new 5 23 rfl h5 (by simp)).trans q5
      refine wp_of_run (v := .slice (some ⟨g5, 0, none⟩) (s.pts.length + 1) cg5) (w' := X) (by unfold execOp; go_simp) ?_
      exact hI.read hF ⟨g5, cg5, R5, C5, rfl, r5⟩
    · have hb := hI.bel
      have h6 : L 6 = true := done_of hw 6 (by kernel_rfl)
      have e24 : b.tmps[24]?.getD undef = .bool true := (hf.new 6 24 rfl h6 (by simp)).trans (hI.fs 6 h6)
      refine wp_of_run (v := .bool true) (w' := X) (by unfold execOp; go_simp) ?_
      exact hI.read hF rfl
  · intro vs X hI
    obtain ⟨g, cg, R, C, e7, hm⟩ := hI.fs 7 rfl
    have e8 : vs 8 = .bool true := hI.fs 8 rfl
    have hbX := hI.bel
    clear hI hF
    simp [fill, slotOf, Act.put]
    simp only [Exit.inBlock, Exit.then]
    rw [e7, e8]
    clear e7 e8
    generalize vs 0 = yy0 at *
    generalize vs 1 = yy1 at *
    generalize vs 2 = yy2 at *
    generalize vs 3 = yy3 at *
    generalize vs 4 = yy4 at *
    generalize vs 5 = yy5 at *
    generalize vs 6 = yy6 at *
    generalize vs 7 = yy7 at *
    generalize vs 8 = yy8 at *
    have HMx := Lib.hid hm
    replace hbx := hbx.trans (hbX.mono hbx.size)
    clear hm C0 C1 C2 hb hbX QC0 QC1 QC2 HWr
    obtain ⟨C0, C1, C2, hb⟩ := HC.out _ hbx
    go_wp2
    go_ret2
    exact ⟨g, cg, R, C, rfl, HMx.out, hb⟩

set_option maxRecDepth 100000 in
set_option maxHeartbeats 4000000 in
theorem rbound_err {B : Nat} {w : World} {v : Value} {s : ShR} (h0 : openE s ≠ 0) (hs : RdSh B w v s) (hn : Named s) (hB : B ≤ w.heap.size) :
    Calls Tryz.prog 71 #[v] w fun e w' => e = .returned (.tuple #[.slice none 0 0, .int .i64 (openE s)]) ∧ Below w.heap.size w w' := by
  obtain ⟨vp, vn, rfl, hp, ho⟩ := id hs
  obtain ⟨Ap, cp, rfl, _⟩ := id hp
  obtain ⟨An, cn, rfl, _⟩ := id ho
  have HSR := Lib.hid (fun (X : World) (hb : Below w.heap.size w X) => hs.below (hb.mono hB))
  obtain ⟨W1, hW1, r1, z1, b1⟩ := box_any w #[.int .i64 s.iv, .slice Ap s.pts.length cp, .slice An s.notes.length cn] 25
  have HC : Hid (∀ Z : World, Below W1.heap.size W1 Z → Z.cell? ⟨w.heap.size, 0, none⟩ = some (.int .i64 s.iv) ∧ Z.cell? ⟨w.heap.size, 1, none⟩ = some (.slice Ap s.pts.length cp) ∧ Z.cell? ⟨w.heap.size, 2, none⟩ = some (.slice An s.notes.length cn) ∧ Below w.heap.size w Z) :=
    Lib.hid fun Z h => by
      have j1 := (h.block _ (lt_of_block r1)).trans r1
      exact ⟨cellOf j1 0 rfl, cellOf j1 1 rfl, cellOf j1 2 rfl, b1.trans (h.mono b1.size)⟩
  have HZ := Lib.hid (show w.heap.size ≤ W1.heap.size by omega)
  have hbx : Below W1.heap.size W1 W1 := Below.refl _ _
  obtain ⟨C0, C1, C2, hb⟩ := HC.out _ hbx
  clear hp ho r1 z1 b1
  have HCk := Lib.hid (fun (X : World) (hb : Below w.heap.size w X) => rcheck_any (HSR.out X hb) hn (Nat.le_trans hB hb.size))
  unfold checkV at HCk
  have heo : errOf s = (check s).2.2 := rfl
  rw [← heo] at HCk
  clear heo
  generalize (check s).1 = a1 at HCk
  generalize (check s).2.1 = a2 at HCk
  by_cases he : errOf s = 0
  · have hg := good_of_valid he
    have hF : refB s s.notes 0 = false := by rw [refB_fits hg]; exact decide_eq_false h0
    have h9 : openE s = 9 := by
      rcases openE_two hg with ⟨h, _⟩ | ⟨h, _⟩
      · exact absurd h h0
      · exact h
    have HAl := Lib.hid (fun (X : World) (hb : Below w.heap.size w X) => rall_any (HSR.out X hb) (Nat.le_trans hB hb.size) (by have := hg.nlen; omega))
    have HBd := Lib.hid (fun (X : World) (hb : Below w.heap.size w X) (vi : Value) (hi : Rd IntAt 1 X.heap.size X vi (numL s.notes.length)) => rbounds_all (wd := 0) (HSR.out X hb) hg (Nat.le_trans hB hb.size) hi (Nat.le_refl _) (by omega))
    rw [he] at HCk
    rw [hF] at HBd
    rw [h9]
    clear he hg hs h0 hF h9
    go_enter Tryz.func71, Tryz.ntmps71
    go_upto_region 1 with (fail)
    rw [← hW1]
    clear hW1
    go_upto_region 4 with (go_at_call 17; (with_reducible refine Calls.mono (HCk.out _ hb) ?_); rintro e X ⟨rfl, h4⟩; replace hbx := hbx.trans (h4.mono hbx.size); clear C0 C1 C2 hb h4; obtain ⟨C0, C1, C2, hb⟩ := HC.out _ hbx)
    obtain ⟨wv, rfl⟩ : ∃ wv : World, wv = X := ⟨_, rfl⟩
    have HWr := Lib.hid hb
    have QC0 := Lib.hid C0
    have QC1 := Lib.hid C1
    have QC2 := Lib.hid C2
    have hF := BnF.keeps w.heap.size s.notes.length (s.pts.length + 1) (fwM (s.pts.length + 1) (refM s s.notes 0)) false (fun kk => ([0, 0, 1, 2, 2, 3, 0, 3, 0] : List Nat).getD kk 0) (fun jj => ([.agg #[.int .i64 s.iv, .slice Ap s.pts.length cp, .slice An s.notes.length cn], .agg #[.int .i64 s.iv, .slice Ap s.pts.length cp, .slice An s.notes.length cn], undef, undef, undef, undef, .bool false, undef, .bool false] : List Value).getD jj undef)
    refine wp_region_ghost (BlI wv (BnF w.heap.size s.notes.length (s.pts.length + 1) (fwM (s.pts.length + 1) (refM s s.notes 0)) false (fun kk => ([0, 0, 1, 2, 2, 3, 0, 3, 0] : List Nat).getD kk 0) (fun jj => ([.agg #[.int .i64 s.iv, .slice Ap s.pts.length cp, .slice An s.notes.length cn], .agg #[.int .i64 s.iv, .slice Ap s.pts.length cp, .slice An s.notes.length cn], undef, undef, undef, undef, .bool false, undef, .bool false] : List Value).getD jj undef))) (by kernel_rfl) (by kernel_rfl) BlI.start ?_ ?_
    · refine ⟨?_, ?_, ?_, ?_, ?_, ?_, ?_, ?_, ?_, trivial⟩
      all_goals
        intro L vs X b hL hw hcl hI hf
      · have hb := hI.bel
        have e1 := hf.old 1 (by kernel_rfl)
        have qQC0 := (hb.cell (cell_lt QC0.out)).trans QC0.out
        have qQC1 := (hb.cell (cell_lt QC1.out)).trans QC1.out
        have qQC2 := (hb.cell (cell_lt QC2.out)).trans QC2.out
        refine wp_of_run (v := .agg #[.int .i64 s.iv, .slice Ap s.pts.length cp, .slice An s.notes.length cn]) (w' := X) (by unfold execOp; go_simp) ?_
        exact hI.read hF rfl
      · have hb := hI.bel
        have e1 := hf.old 1 (by kernel_rfl)
        have qQC0 := (hb.cell (cell_lt QC0.out)).trans QC0.out
        have qQC1 := (hb.cell (cell_lt QC1.out)).trans QC1.out
        have qQC2 := (hb.cell (cell_lt QC2.out)).trans QC2.out
        refine wp_of_run (v := .agg #[.int .i64 s.iv, .slice Ap s.pts.length cp, .slice An s.notes.length cn]) (w' := X) (by unfold execOp; go_simp) ?_
        exact hI.read hF rfl
      · have hb := hI.bel
        have h1 : L 1 = true := done_of hw 1 (by kernel_rfl)
        have e20 : b.tmps[20]?.getD undef = .agg #[.int .i64 s.iv, .slice Ap s.pts.length cp, .slice An s.notes.length cn] := (hf.new 1 20 rfl h1 (by simp)).trans (hI.fs 1 h1)
        refine wp_of_call (f := 70) (args := #[.agg #[.int .i64 s.iv, .slice Ap s.pts.length cp, .slice An s.notes.length cn]]) (run_call_clo (.func 70) _ _ rfl (c := #[]) rfl renter70 (by simp [eval_tmp e20])) ?_
        refine (HAl.out X (HWr.out.trans (hb.mono HWr.out.size))).mono ?_
        rintro e wz ⟨A, c, rfl, hr, hbz⟩
        exact ⟨_, rfl, hI.step hF hbz ⟨A, c, rfl, hr⟩⟩
      · have hb := hI.bel
        have h0 : L 0 = true := done_of hw 0 (by kernel_rfl)
        have e19 : b.tmps[19]?.getD undef = .agg #[.int .i64 s.iv, .slice Ap s.pts.length cp, .slice An s.notes.length cn] := (hf.new 0 19 rfl h0 (by simp)).trans (hI.fs 0 h0)
        have h2 : L 2 = true := done_of hw 2 (by kernel_rfl)
        obtain ⟨A2, c2, q2, r2⟩ := hI.fs 2 h2
        have e21 : b.tmps[21]?.getD undef = .slice A2 s.notes.length c2 := (hf.new 2 21 rfl h2 (by simp)).trans q2
        refine wp_of_call (f := 69) (args := #[.agg #[.int .i64 s.iv, .slice Ap s.pts.length cp, .slice An s.notes.length cn], .slice A2 s.notes.length c2, .int .i64 0]) (run_call_clo (.func 69) _ _ rfl (c := #[]) rfl renter69 (by simp [eval_tmp e19, eval_tmp e21, reval_const])) ?_
        refine (HBd.out X (HWr.out.trans (hb.mono HWr.out.size)) _ r2).mono ?_
        rintro e wz ⟨g, cg, R, C, rfl, hm, hbz⟩
        exact ⟨_, rfl, hI.step hF hbz ⟨g, cg, R, C, rfl, hm.mono (Nat.le_trans HWr.out.size hb.size)⟩⟩
      · have hb := hI.bel
        have h3 : L 3 = true := done_of hw 3 (by kernel_rfl)
        obtain ⟨g3, cg3, R3, C3, q3, r3⟩ := hI.fs 3 h3
        have e22 : b.tmps[22]?.getD undef = .tuple #[.slice (some ⟨g3, 0, none⟩) (s.pts.length + 1) cg3, .bool false] := (hf.new 3 22 rfl h3 (by simp)).trans q3
        refine wp_of_run (v := .tuple #[.slice (some ⟨g3, 0, none⟩) (s.pts.length + 1) cg3, .bool false]) (w' := X) (by unfold execOp; go_simp) ?_
        exact hI.read hF ⟨g3, cg3, R3, C3, rfl, r3⟩
      · have hb := hI.bel
        have h4 : L 4 = true := done_of hw 4 (by kernel_rfl)
        obtain ⟨g4, cg4, R4, C4, q4, r4⟩ := hI.fs 4 h4
        have e18 : b.tmps[18]?.getD undef = .tuple #[.slice (some ⟨g4, 0, none⟩) (s.pts.length + 1) cg4, .bool false] := (hf.new 4 18 rfl h4 (by simp)).trans q4
        refine wp_of_run (v := .slice (some ⟨g4, 0, none⟩) (s.pts.length + 1) cg4) (w' := X) (by unfold execOp; go_simp) ?_
        exact hI.read hF ⟨g4, cg4, R4, C4, rfl, r4⟩
      · have hb := hI.bel
        have h4 : L 4 = true := done_of hw 4 (by kernel_rfl)
        obtain ⟨g4, cg4, R4, C4, q4, r4⟩ := hI.fs 4 h4
        have e18 : b.tmps[18]?.getD undef = .tuple #[.slice (some ⟨g4, 0, none⟩) (s.pts.length + 1) cg4, .bool false] := (hf.new 4 18 rfl h4 (by simp)).trans q4
        refine wp_of_run (v := .bool false) (w' := X) (by unfold execOp; go_simp) ?_
        exact hI.read hF rfl
      · have hb := hI.bel
        have h5 : L 5 = true := done_of hw 5 (by kernel_rfl)
        obtain ⟨g5, cg5, R5, C5, q5, r5⟩ := hI.fs 5 h5
        have e23 : b.tmps[23]?.getD undef = .slice (some ⟨g5, 0, none⟩) (s.pts.length + 1) cg5 := (hf.new 5 23 rfl h5 (by simp)).trans q5
        refine wp_of_run (v := .slice (some ⟨g5, 0, none⟩) (s.pts.length + 1) cg5) (w' := X) (by unfold execOp; go_simp) ?_
        exact hI.read hF ⟨g5, cg5, R5, C5, rfl, r5⟩
      · have hb := hI.bel
        have h6 : L 6 = true := done_of hw 6 (by kernel_rfl)
        have e24 : b.tmps[24]?.getD undef = .bool false := (hf.new 6 24 rfl h6 (by simp)).trans (hI.fs 6 h6)
        refine wp_of_run (v := .bool false) (w' := X) (by unfold execOp; go_simp) ?_
        exact hI.read hF rfl
    · intro vs X hI
      obtain ⟨g, cg, R, C, e7, hm⟩ := hI.fs 7 rfl
      have e8 : vs 8 = .bool false := hI.fs 8 rfl
      have hbX := hI.bel
      clear hI hF
      simp [fill, slotOf, Act.put]
      simp only [Exit.inBlock, Exit.then]
      rw [e7, e8]
      clear e7 e8
      generalize vs 0 = yy0 at *
      generalize vs 1 = yy1 at *
      generalize vs 2 = yy2 at *
      generalize vs 3 = yy3 at *
      generalize vs 4 = yy4 at *
      generalize vs 5 = yy5 at *
      generalize vs 6 = yy6 at *
      generalize vs 7 = yy7 at *
      generalize vs 8 = yy8 at *
      have HMx := Lib.hid hm
      replace hbx := hbx.trans (hbX.mono hbx.size)
      clear hm C0 C1 C2 hb hbX QC0 QC1 QC2 HWr
      obtain ⟨C0, C1, C2, hb⟩ := HC.out _ hbx
      go_wp2
      go_ret2
      exact ⟨rfl, hb⟩
  · have hE := openE_err he
    rw [hE]
    have hne : (errOf s != 0) = true := by simp [he]
    generalize errOf s = er at *
    clear he hs hE h0
    go_enter Tryz.func71, Tryz.ntmps71
    go_upto_region 1 with (fail)
    rw [← hW1]
    clear hW1
    go_wp2_with (go_at_call 17; (with_reducible refine Calls.mono (HCk.out _ hb) ?_); rintro e X ⟨rfl, h4⟩; replace hbx := hbx.trans (h4.mono hbx.size); clear C0 C1 C2 hb h4; obtain ⟨C0, C1, C2, hb⟩ := HC.out _ hbx)
    go_ret2
    exact ⟨rfl, hb⟩
end Go.Proofs.YtajdgdelhlfniaaGreatDoor
