/- Rows of numbers: a slice of slices, each in a block of its own. Walks of the reference of the layer sheet: narrow. The reference's bounds under way: rows that are laid one after the other. A slice of slices of numbers that a call makes: its rows, each in a block of its own. -/
import Derived.Test.YtajdgdelhlfniaaGreatDoorGPl
import Derived.Test.YtajdgdelhlfniaaGreatDoorGBind
import Derived.Test.YtajdgdelhlfniaaGreatDoorGMat
import Derived.Test.YtajdgdelhlfniaaGreatDoorAppend
import Derived.Test.YtajdgdelhlfniaaGreatDoorGSrchA
import Derived.Deep.OwnRows
import Derived.Test.YtajdgdelhlfniaaGreatDoorHlp
import Derived.Test.YtajdgdelhlfniaaGreatDoorGWi
import Derived.Test.YtajdgdelhlfniaaGreatDoorGRdd
set_option linter.unusedSimpArgs false
set_option linter.unusedVariables false
namespace Go.Proofs.YtajdgdelhlfniaaGreatDoor
open Go.RowKit

/-- N rows of N numbers each, in blocks from base on; the slice's cells in block g, row i in block R i -/
structure MxAt (base : Nat) (w : World) (g N : Nat) (R C : Nat → Nat) (t : Mat) : Prop where
  ge : base ≤ g
  lt : g < w.heap.size
  rge : ∀ i, i < N → base ≤ R i
  rlt : ∀ i, i < N → R i < w.heap.size
  rne : ∀ i, i < N → R i ≠ g
  inj : ∀ i j, i < N → j < N → R i = R j → i = j
  cap : ∀ i, i < N → N ≤ C i
  capM : ∀ i, i < N → C i ≤ 9223372036854775807
  top : ∀ i, i < N → w.cell? ⟨g, i, none⟩ = some (.slice (some ⟨R i, 0, none⟩) N (C i))
  cell : ∀ i k, i < N → k < N → w.cell? ⟨R i, k, none⟩ = some (.int .i64 (t i k))
  fz : ∀ i k, i < N → k < N → w.frozen? ⟨R i, k, none⟩ = false
theorem MxAt.below {base : Nat} {w w' : World} {g N : Nat} {R C : Nat → Nat} {t : Mat} (h : MxAt base w g N R C t) (hb : Below w.heap.size w w') : MxAt base w' g N R C t :=
  ⟨h.ge, Nat.lt_of_lt_of_le h.lt hb.size, h.rge, fun i hi => Nat.lt_of_lt_of_le (h.rlt i hi) hb.size, h.rne, h.inj, h.cap, h.capM, fun i hi => (hb.cell (p := ⟨g, i, none⟩) h.lt).trans (h.top i hi),
   fun i k hi hk => (hb.cell (p := ⟨R i, k, none⟩) (h.rlt i hi)).trans (h.cell i k hi hk), fun i k hi hk => (hb.frozen (p := ⟨R i, k, none⟩) (h.rlt i hi)).trans (h.fz i k hi hk)⟩
theorem MxAt.qt {base : Nat} {w w' : World} {g N : Nat} {R C : Nat → Nat} {t : Mat} (h : MxAt base w g N R C t) (hb : Qt w w') : MxAt base w' g N R C t := h.below (hb.below _)
theorem MxAt.mono {base base' : Nat} {w : World} {g N : Nat} {R C : Nat → Nat} {t : Mat} (h : MxAt base w g N R C t) (hb : base' ≤ base) : MxAt base' w g N R C t :=
  ⟨Nat.le_trans hb h.ge, h.lt, fun i hi => Nat.le_trans hb (h.rge i hi), h.rlt, h.rne, h.inj, h.cap, h.capM, h.top, h.cell, h.fz⟩
theorem MxAt.congr {base : Nat} {w : World} {g N : Nat} {R C : Nat → Nat} {t t' : Mat} (h : MxAt base w g N R C t) (e : ∀ i k, i < N → k < N → t i k = t' i k) : MxAt base w g N R C t' :=
  ⟨h.ge, h.lt, h.rge, h.rlt, h.rne, h.inj, h.cap, h.capM, h.top, fun i k hi hk => by rw [← e i k hi hk]; exact h.cell i k hi hk, h.fz⟩
/-- a number stored -/
theorem MxAt.set {base : Nat} {w : World} {g N : Nat} {R C : Nat → Nat} {t : Mat} (h : MxAt base w g N R C t) {i n : Nat} (hi : i < N) (_hn : n < N) (v : Int) : MxAt base (w.setCell ⟨R i, n, none⟩ (.int .i64 v)) g N R C (updM t i n v) := by
  refine ⟨h.ge, by simpa [World.setCell] using h.lt, h.rge, fun j hj => by simpa [World.setCell] using h.rlt j hj, h.rne, h.inj, h.cap, h.capM, fun j hj => ?_, fun j k hj hk => ?_, fun j k hj hk => ?_⟩
  · exact (World.cell?_setCell_other _ _ _ _ (fun e => h.rne i hi (congrArg Addr.block e))).trans (h.top j hj)
  · unfold updM
    by_cases e : j = i ∧ k = n
    · rw [if_pos e]
      obtain ⟨rfl, rfl⟩ := e
      exact World.cell?_setCell_same' _ _ _ (by rw [h.cell j k hj hk]; rfl)
    · rw [if_neg e]
      refine (World.cell?_setCell_other _ _ _ _ (fun e' => e ?_)).trans (h.cell j k hj hk)
      have e1 : R i = R j := congrArg Addr.block e'
      have e2 : n = k := congrArg Addr.off e'
      exact ⟨(h.inj i j hi hj e1).symm, e2.symm⟩
  · rw [World.frozen?_setCell]
    exact h.fz j k hj hk
theorem MxAt.setB {base : Nat} {w : World} {g N : Nat} {R C : Nat → Nat} {t : Mat} (h : MxAt base w g N R C t) {i : Nat} (hi : i < N) {B : Nat} (hB : B ≤ base) {w0 : World} (hb : Below B w0 w) (n : Nat) (v : Value) : Below B w0 (w.setCell ⟨R i, n, none⟩ v) :=
  hb.setCell (Nat.le_trans hB (h.rge i hi)) v
end Go.Proofs.YtajdgdelhlfniaaGreatDoor
namespace Go.Proofs.YtajdgdelhlfniaaGreatDoor
open Go.RowKit

set_option maxRecDepth 100000 in
set_option maxHeartbeats 4000000 in
theorem narrow_any {base : Nat} {w : World} {g N c : Nat} {R C : Nat → Nat} {t : Mat} (h : MxAt base w g N R C t) (hN : N ≤ 9) (hr : ∀ a b, a < N → b < N → -18000 ≤ t a b ∧ t a b ≤ 18000) :
    Calls Tryz.prog 96 #[.slice (some ⟨g, 0, none⟩) N c] w fun e w' => e = .returned (.bool (diagB N (fwM N t))) ∧ MxAt base w' g N R C (fwM N t) ∧ Below base w w' := by
  have HM := Lib.hid h
  have HR := Lib.hid (fun k i n (hk : k < N) (hi : i < N) (hn : n ≤ N) => fw_range hN hk hi hn hr)
  clear h hr
  go_enter Tryz.func96, Tryz.ntmps96
  go_wp2
  go_loopw [3, 4, 5] (fun k _ _ wr => ∃ n : Nat, n ≤ N ∧ k = .int .i64 n ∧ MxAt base wr g N R C (fwK N t n) ∧ Below base w wr) (fun k _ _ _ => N - (intOf k).toNat)
  case atStart => exact ⟨0, Nat.zero_le _, rfl, HM.out, Below.refl _ _⟩
  case round =>
    obtain ⟨k, hk, rfl, hm, hb⟩ := hrel
    have HK := Lib.hid hm
    have HB := Lib.hid hb
    clear hm hb
    by_cases hkl : k < N
    · go_wp2
      obtain ⟨wo, rfl⟩ : ∃ wo : World, wo = wr := ⟨_, rfl⟩
      go_loopw [4, 5] (fun i _ wr => ∃ n : Nat, n ≤ N ∧ i = .int .i64 n ∧ MxAt base wr g N R C (fwI N k (fwK N t k) n) ∧ Below base w wr) (fun i _ _ => N - (intOf i).toNat)
      case atStart => exact ⟨0, Nat.zero_le _, rfl, HK.out, HB.out⟩
      case round =>
        obtain ⟨i, hi, rfl, hm, hb⟩ := hrel
        have HI := Lib.hid hm
        have HBi := Lib.hid hb
        clear hm hb
        by_cases hil : i < N
        · go_wp2
          obtain ⟨wi, rfl⟩ : ∃ wi : World, wi = wr := ⟨_, rfl⟩
          go_loopw [5] (fun n wr => ∃ m : Nat, m ≤ N ∧ n = .int .i64 m ∧ MxAt base wr g N R C (fwN k i (fwI N k (fwK N t k) i) m) ∧ Below base w wr) (fun n _ => N - (intOf n).toNat)
          case atStart => exact ⟨0, Nat.zero_le _, rfl, HI.out, HBi.out⟩
          case round =>
            obtain ⟨n, hn, rfl, hm, hb⟩ := hrel
            by_cases hnl : n < N
            · have q := HR.out k i n hkl hil hn
              have q1 := q i k hil hkl
              have q2 := q k n hkl hnl
              have HS := Lib.hid (show ∀ Z, Qt wr Z → MxAt base (Z.setCell ⟨R i, n, none⟩ _) g N R C (fwN k i (fwI N k (fwK N t k) i) (n + 1)) from fun Z hq => (hm.qt hq).set hil hnl _)
              have HBn := Lib.hid (show ∀ Z, Qt wr Z → ∀ v, Below base w (Z.setCell ⟨R i, n, none⟩ v) from fun Z hq v => (hm.qt hq).setB hil (Nat.le_refl _) (hb.trans (hq.below _)) n v)
              have p0 := hm.top i hil
              have p1 := hm.top k hkl
              have c0 := hm.cell i n hil hnl
              have c1 := hm.cell i k hil hkl
              have c2 := hm.cell k n hkl hnl
              have fz := hm.fz i n hil hnl
              clear hm hb q
              generalize fwN k i (fwI N k (fwK N t k) i) n i k = x1 at *
              generalize fwN k i (fwI N k (fwK N t k) i) n k n = x2 at *
              generalize fwN k i (fwI N k (fwK N t k) i) n i n = x0 at *
              have s1 : IntKind.i64.wrap (x1 + x2) = x1 + x2 := IntWalk.i64_in _ (by omega)
              go_wp2
              refine region_quiet_tail (C := fun w' => ∃ n, w' = wr.drewN n) 28 (by kernel_rfl) (by kernel_rfl) ⟨1, rfl⟩ ?_
              simp only [List.take_succ_cons, List.take_zero, List.drop_succ_cons, List.drop_zero]
              repeat (first | go_big_quiet_step (fail) | quiet_step (fail))
              refine wpQuiet_nil ?_
              rintro _ ⟨n1, rfl⟩
              go_wp2
              go_roundw
              case rel => exact ⟨n + 1, by omega, by go_num, HS.out _ ⟨n1, rfl⟩, HBn.out _ ⟨n1, rfl⟩ _⟩
              case measure => simp [intOf]; omega
            · have hn9 : n = N := by omega
              have HM2 := Lib.hid (show MxAt base wr g N R C (fwI N k (fwK N t k) (i + 1)) by rw [hn9] at hm; exact hm)
              have HG2 := Lib.hid hb
              clear hm hb
              go_wp2
              go_roundw
              case rel => exact ⟨i + 1, by omega, by go_num, HM2.out, HG2.out⟩
              case measure => simp [intOf]; omega
        · have hi9 : i = N := by omega
          have HM2 := Lib.hid (show MxAt base wr g N R C (fwK N t (k + 1)) by have := HI.out; rw [hi9] at this; exact this)
          go_wp2
          go_roundw
          case rel => exact ⟨k + 1, by omega, by go_num, HM2.out, HBi.out⟩
          case measure => simp [intOf]; omega
    · have hk9 : k = N := by omega
      have HM2 := Lib.hid (show MxAt base wr g N R C (fwM N t) by have := HK.out; rw [hk9] at this; exact this)
      clear HK
      go_wp2
      obtain ⟨wo, rfl⟩ : ∃ wo : World, wo = wr := ⟨_, rfl⟩
      go_loopw [6] (fun i wr => ∃ n : Nat, n ≤ N ∧ i = .int .i64 n ∧ (∀ j, j < n → 0 ≤ fwM N t j j) ∧ Qt wo wr) (fun i _ => N - (intOf i).toNat)
      case atStart => exact ⟨0, Nat.zero_le _, rfl, fun j hj => by omega, Qt.refl _⟩
      case round =>
        obtain ⟨i, hi, rfl, hall, hq⟩ := hrel
        have HQ := Lib.hid hq
        have HAl := Lib.hid hall
        clear hall
        by_cases hil : i < N
        · have p0 := (HM2.out.qt hq).top i hil
          have c0 := (HM2.out.qt hq).cell i i hil hil
          clear hq
          by_cases hx : fwM N t i i < 0
          · have Hx := Lib.hid (show diagB N (fwM N t) = false by
              cases hd : diagB N (fwM N t) with
              | false => rfl
              | true => have := diagB_iff.1 hd i hil; omega)
            generalize fwM N t i i = x at *
            go_wp2
            go_ret
            exact ⟨ret_bool Hx.out.symm, HM2.out.qt HQ.out, HB.out.trans (HQ.out.below _)⟩
          · have Hx := Lib.hid (show 0 ≤ fwM N t i i by omega)
            generalize hX : fwM N t i i = x at *
            have HX := Lib.hid hX
            clear hX
            go_wp2
            go_roundw
            case rel => exact ⟨i + 1, by omega, by go_num, fun j hj => by
              by_cases e : j = i
              · subst e; rw [HX.out]; exact Hx.out
              · exact HAl.out j (by omega), HQ.out⟩
            case measure => simp [intOf]; omega
        · have hi9 : i = N := by omega
          subst hi9
          clear hq
          have Hx := Lib.hid (diagB_iff.2 HAl.out)
          go_wp2
          go_ret
          exact ⟨ret_bool Hx.out.symm, HM2.out.qt HQ.out, HB.out.trans (HQ.out.below _)⟩
end Go.Proofs.YtajdgdelhlfniaaGreatDoor
namespace Go.Proofs.YtajdgdelhlfniaaGreatDoor
open Go.RowKit

/-- the first m of N rows are laid, the others are nil -/
structure MxP (base : Nat) (w : World) (g N m : Nat) (R C : Nat → Nat) (t : Mat) : Prop where
  ge : base ≤ g
  lt : g < w.heap.size
  rge : ∀ i, i < m → base ≤ R i
  rlt : ∀ i, i < m → R i < w.heap.size
  rne : ∀ i, i < m → R i ≠ g
  inj : ∀ i j, i < m → j < m → R i = R j → i = j
  cap : ∀ i, i < m → N ≤ C i
  capM : ∀ i, i < m → C i ≤ 9223372036854775807
  top : ∀ i, i < m → w.cell? ⟨g, i, none⟩ = some (.slice (some ⟨R i, 0, none⟩) N (C i))
  cell : ∀ i k, i < m → k < N → w.cell? ⟨R i, k, none⟩ = some (.int .i64 (t i k))
  fz : ∀ i k, i < m → k < N → w.frozen? ⟨R i, k, none⟩ = false
  nil : ∀ i, m ≤ i → i < N → w.cell? ⟨g, i, none⟩ = some (.slice none 0 0)
  gfz : ∀ i, i < N → w.frozen? ⟨g, i, none⟩ = false
theorem MxP.full {base : Nat} {w : World} {g N : Nat} {R C : Nat → Nat} {t : Mat} (h : MxP base w g N N R C t) : MxAt base w g N R C t :=
  ⟨h.ge, h.lt, h.rge, h.rlt, h.rne, h.inj, h.cap, h.capM, h.top, h.cell, h.fz⟩
theorem MxP.made {w : World} {N : Nat} {t : Mat} : MxP w.heap.size (w.alloc (.cells (madeCells #[.slice none 0 0] N) 43)) w.heap.size N 0 (fun _ => 0) (fun _ => 0) t := by
  have h := World.rowIs_made w (.slice none 0 0) N 43
  refine ⟨Nat.le_refl _, by simp, fun i hi => by omega, fun i hi => by omega, fun i hi => by omega, fun i j hi => by omega, fun i hi => by omega, fun i hi => by omega, fun i hi => by omega, fun i k hi => by omega, fun i k hi => by omega, fun i _ hi => h.cell hi, fun i hi => h.frozen i⟩
/-- row m under way -/
structure RowI (wi wr : World) (g m : Nat) (xs : List Int) : Prop where
  grown : wi.grownBy wr (some g)
  oth : ∀ i, i ≠ m → wr.cell? ⟨g, i, none⟩ = wi.cell? ⟨g, i, none⟩
  fz : ∀ i, wr.frozen? ⟨g, i, none⟩ = wi.frozen? ⟨g, i, none⟩
  own : ∃ A c, wr.cell? ⟨g, m, none⟩ = some (.slice A xs.length c) ∧ Own wi.heap.size 3 wr (.slice A xs.length c) xs
theorem RowI.start {base : Nat} {w : World} {g N m : Nat} {R C : Nat → Nat} {t : Mat} (h : MxP base w g N m R C t) (hm : m < N) : RowI w w g m [] :=
  ⟨World.grownBy.refl _ _, fun _ _ => rfl, fun _ => rfl, none, 0, h.nil m (Nat.le_refl _) hm, Own.nil _ _ _⟩
theorem RowI.step {wi wr w' : World} {g m : Nat} {xs ys : List Int} {A : Option Addr} {c : Nat} (h : RowI wi wr g m xs) (hg : g < wi.heap.size) (hb : Below wi.heap.size wr w') (ho : Own wi.heap.size 3 w' (.slice A ys.length c) ys) :
    RowI wi (w'.setCell ⟨g, m, none⟩ (.slice A ys.length c)) g m ys := by
  have hz := h.grown.size
  refine ⟨⟨hb.os.trans h.grown.os, hb.tape.trans h.grown.tape, hb.output.trans h.grown.output, ?_, fun k hk hne => ?_⟩, fun i hi => ?_, fun i => ?_, A, c, ?_, ho.other hg _⟩
  · have := hb.size
    simpa [World.setCell] using Nat.le_trans hz this
  · refine (Below.heap_setCell _ _ _ _ (fun e => hne (congrArg some e))).trans ((hb.block k hk).trans (h.grown.block k hk hne))
  · exact (World.cell?_setCell_other _ _ _ _ (fun e => hi (congrArg Addr.off e).symm)).trans ((hb.cell (p := ⟨g, i, none⟩) hg).trans (h.oth i hi))
  · rw [World.frozen?_setCell]
    exact (hb.frozen (p := ⟨g, i, none⟩) hg).trans (h.fz i)
  · obtain ⟨A0, c0, h0, _⟩ := h.own
    have h1 := (hb.cell (p := ⟨g, m, none⟩) hg).trans h0
    exact World.cell?_setCell_same' _ _ _ (by rw [h1]; rfl)
theorem RowI.done {base : Nat} {wi wr : World} {g N m : Nat} {R C : Nat → Nat} {t : Mat} {xs : List Int} (hp : MxP base wi g N m R C t) (h : RowI wi wr g m xs) (hn : xs.length = N) (hm : m < N) (hx : ∀ k, k < N → xs[k]?.getD 0 = t m k) :
    ∃ R' C', MxP base wr g N (m + 1) R' C' t := by
  obtain ⟨A, c, h0, ho⟩ := h.own
  have hr := ho.rd
  rcases id ho with ⟨_, ⟨_, h00⟩ | ⟨r, cap, cur, e, hbb, hh, hnc, hcm, _⟩⟩
  · omega
  injection e with e1 e2 e3
  subst e1 e3
  unfold maxLen at hcm
  have hz := h.grown.size
  have hglt : g < wr.heap.size := Nat.lt_of_lt_of_le hp.lt hz
  have hrlt : r < wr.heap.size := lt_of_block hh
  have hblk : ∀ i, i < m → wr.heap[R i]? = wi.heap[R i]? := fun i hi => h.grown.block _ (hp.rlt i hi) (fun e => hp.rne i hi (by simpa using e))
  have hrm : ∀ i, i < m → R i ≠ r := fun i hi e => by have := hp.rlt i hi; omega
  have hgr : r ≠ g := fun e => by have := hp.lt; omega
  have hval : ∀ i, i < m + 1 → i = m ∨ i < m := fun i hi => by omega
  refine ⟨fun i => if i = m then r else R i, fun i => if i = m then c else C i, ⟨hp.ge, hglt, fun i hi => ?_, fun i hi => ?_, fun i hi => ?_, fun i j hi hj => ?_, fun i hi => ?_, fun i hi => ?_, fun i hi => ?_, fun i k hi hk => ?_, fun i k hi hk => ?_, fun i hi hiN => ?_, fun i hi => ?_⟩⟩
  · show base ≤ if i = m then r else R i
    split
    · have := hp.ge; have := hp.lt; omega
    · exact hp.rge i (by omega)
  · show (if i = m then r else R i) < _
    split
    · exact hrlt
    · exact Nat.lt_of_lt_of_le (hp.rlt i (by omega)) hz
  · show (if i = m then r else R i) ≠ g
    split
    · exact hgr
    · exact hp.rne i (by omega)
  · show (if i = m then r else R i) = (if j = m then r else R j) → i = j
    split <;> split
    · omega
    · exact fun e => absurd e.symm (hrm j (by omega))
    · exact fun e => absurd e (hrm i (by omega))
    · exact hp.inj i j (by omega) (by omega)
  · show N ≤ if i = m then c else C i
    split
    · omega
    · exact hp.cap i (by omega)
  · show (if i = m then c else C i) ≤ _
    split
    · omega
    · exact hp.capM i (by omega)
  · show _ = some (Value.slice (some ⟨if i = m then r else R i, 0, none⟩) N (if i = m then c else C i))
    by_cases e : i = m
    · subst e; rw [if_pos rfl, if_pos rfl, h0, hn]
    · rw [if_neg e, if_neg e, h.oth i e]; exact hp.top i (by omega)
  · show wr.cell? ⟨if i = m then r else R i, k, none⟩ = _
    by_cases e : i = m
    · subst e
      rw [if_pos rfl, ← hx k hk]
      obtain ⟨ad, ead, _, hc⟩ := hr.int (i := k) (by omega)
      injection ead with ead
      subst ead
      have hadd : (⟨r, 0, none⟩ : Addr).add k = ⟨r, k, none⟩ := by unfold Addr.add; split <;> simp_all
      rw [hadd] at hc
      exact hc
    · rw [if_neg e]
      exact (World.cell?_of_block (w := wi) (a := ⟨R i, k, none⟩) (hblk i (by omega))).trans (hp.cell i k (by omega) hk)
  · show wr.frozen? ⟨if i = m then r else R i, k, none⟩ = _
    by_cases e : i = m
    · subst e
      rw [if_pos rfl]
      exact World.ownsRow.frozenAt ho k
    · rw [if_neg e]
      exact (World.frozen?_of_block (w := wi) (a := ⟨R i, k, none⟩) (hblk i (by omega))).trans (hp.fz i k (by omega) hk)
  · exact (h.oth i (by omega)).trans (hp.nil i (by omega) hiN)
  · exact (h.fz i).trans (hp.gfz i hi)
/-- the first k numbers of row m at the start -/
def rowS (N m k : Nat) : List Int := (List.range k).map (startM N m)
theorem rowS_len (N m k : Nat) : (rowS N m k).length = k := by simp [rowS]
theorem rowS_snoc (N m k : Nat) : rowS N m (k + 1) = rowS N m k ++ [startM N m k] := by
  unfold rowS
  rw [List.range_succ, List.map_append]
  rfl
theorem rowS_at {N m k i : Nat} (h : i < k) : (rowS N m k)[i]?.getD 0 = startM N m i := by
  unfold rowS
  rw [List.getElem?_map, List.getElem?_range h]
  rfl
end Go.Proofs.YtajdgdelhlfniaaGreatDoor
namespace Go.Proofs.YtajdgdelhlfniaaGreatDoor
open Go.RowKit

theorem addr_at (g i : Nat) : (⟨g, 0, none⟩ : Addr).add i = ⟨g, i, none⟩ := by unfold Addr.add; split <;> simp_all
/-- the head of a slice -/
structure SlH where
  a : Option Addr
  n : Nat
  c : Nat
def SlH.val (x : SlH) : Value := .slice x.a x.n x.c
def SlAt (w : World) (a : Addr) (x : SlH) : Prop := w.cell? a = some x.val
instance : AtKeep SlAt := ⟨fun _ _ a _ h k => (h a rfl).trans k, fun _ _ _ h => ⟨_, h⟩⟩
instance : Enc SlH SlAt 1 := ⟨fun x => [x.val], fun _ => rfl, fun _ _ _ _ h => h 0 _ rfl⟩
theorem Rd.slh {B i : Nat} {w : World} {A : Option Addr} {n cap : Nat} {xs : List SlH} (h : Rd SlAt 1 B w (.slice A n cap) xs) {x : SlH} (hi : xs[i]? = some x) :
    ∃ ad, A = some ad ∧ ad.block < B ∧ w.cell? (ad.add i) = some x.val := by
  obtain ⟨A', cap', e, h1, h2, h3⟩ := h
  obtain ⟨ad, e2, hb, ha⟩ := h3 i x hi
  injection e with e e' e''
  subst e
  exact ⟨ad, e2, hb, by rw [Nat.mul_one] at ha; exact ha⟩
/-- a row more -/
theorem append_slh {base : Nat} {w : World} {v : Value} {xs : List SlH} (h : Own base 43 w v xs) (x : SlH) (hn : xs.length ≤ 100000) (hbase : base ≤ w.heap.size) :
    ∃ A c w', (Builtin.append_ #[96, 96] 96 #[v, .slice (some ⟨w.heap.size, 0, none⟩) 1 1]).run Tryz.prog (w.alloc (.cells #[x.val] 43)) = .ok (.slice A (xs.length + 1) c) w' ∧ Own base 43 w' (.slice A (xs.length + 1) c) (xs ++ [x]) ∧
      Below base w w' ∧ base ≤ w'.heap.size ∧ xs.length + 1 ≤ c ∧ c ≤ 9223372036854775807 ∧ w.heap.size < w'.heap.size ∧
      (∀ (b : Nat) (o : Obj), w.heap[b]? = some o → (∀ c f, o ≠ .cells c 43 f) → w'.heap[b]? = some o) :=
  append_full (bytes := 24) (by kernel_rfl) (by kernel_rfl) (by omega) (by omega) (by intro x u hu; simp [Enc.enc] at hu; subst hu; rfl) h x hn hbase rfl

/-- the rows of a slice of slices -/
structure RowsO (base : Nat) (w : World) (hs : List SlH) (xss : List (List Int)) : Prop where
  len : hs.length = xss.length
  row : ∀ (i : Nat) (x : SlH) (xs : List Int), hs[i]? = some x → xss[i]? = some xs → Own base 3 w x.val xs
  ne : ∀ (i j : Nat) (x y : SlH), hs[i]? = some x → hs[j]? = some y → i ≠ j → ∀ g, x.val.ownBlock = some g → y.val.ownBlock ≠ some g
theorem RowsO.nil (base : Nat) (w : World) : RowsO base w [] [] := ⟨rfl, fun i x xs h => by simp at h, fun i j x y h => by simp at h⟩
theorem RowsO.keep {base : Nat} {w w' : World} {hs : List SlH} {xss : List (List Int)} (h : RowsO base w hs xss) (hk : ∀ (b : Nat) (cs : Array Value) (f : Nat × Nat), base ≤ b → w.heap[b]? = some (.cells cs 3 f) → w'.heap[b]? = some (.cells cs 3 f)) : RowsO base w' hs xss :=
  ⟨h.len, fun i x xs h1 h2 => (h.row i x xs h1 h2).keepD hk, h.ne⟩
theorem RowsO.below {base : Nat} {w w' : World} {hs : List SlH} {xss : List (List Int)} (h : RowsO base w hs xss) (hb : Below w.heap.size w w') : RowsO base w' hs xss :=
  h.keep fun b cs f _ hh => (hb.block b (lt_of_block hh)).trans hh
theorem RowsO.mono {base base' : Nat} {w : World} {hs : List SlH} {xss : List (List Int)} (h : RowsO base w hs xss) (hb : base' ≤ base) : RowsO base' w hs xss :=
  ⟨h.len, fun i x xs h1 h2 => (h.row i x xs h1 h2).mono hb, h.ne⟩
theorem RowsO.lt {base : Nat} {w : World} {hs : List SlH} {xss : List (List Int)} (h : RowsO base w hs xss) {i : Nat} {x : SlH} (hi : hs[i]? = some x) {g : Nat} (hg : x.val.ownBlock = some g) : base ≤ g ∧ g < w.heap.size := by
  have hl : i < xss.length := by rw [← h.len]; exact (List.getElem?_eq_some_iff.1 hi).1
  exact World.ownsRow.lt (h.row i x _ hi (List.getElem?_eq_getElem hl)) g hg
/-- one more, that has just been made -/
theorem RowsO.snoc {base B : Nat} {w w' : World} {hs : List SlH} {xss : List (List Int)} {x : SlH} {xs : List Int} (h : RowsO base w hs xss) (hk : ∀ (b : Nat) (cs : Array Value) (f : Nat × Nat), base ≤ b → w.heap[b]? = some (.cells cs 3 f) → w'.heap[b]? = some (.cells cs 3 f))
    (hB : base ≤ B) (hW : w.heap.size ≤ B) (hx : Own B 3 w' x.val xs) : RowsO base w' (hs ++ [x]) (xss ++ [xs]) := by
  have h' := h.keep hk
  have hfar : ∀ (i : Nat) (y : SlH), hs[i]? = some y → ∀ g, y.val.ownBlock = some g → x.val.ownBlock ≠ some g := fun i y hi g hg hg2 => by
    have h1 := (h.lt hi hg).2
    have h2 := (World.ownsRow.lt hx g hg2).1
    omega
  refine ⟨by simp [h.len], fun i y ys h1 h2 => ?_, fun i j y z h1 h2 hne g hg => ?_⟩
  · by_cases hi : i < hs.length
    · rw [List.getElem?_append_left hi] at h1
      rw [List.getElem?_append_left (by rw [← h.len]; exact hi)] at h2
      exact h'.row i y ys h1 h2
    · have hi2 := (List.getElem?_eq_some_iff.1 h1).1
      simp at hi2
      have e : i = hs.length := by omega
      subst e
      rw [List.getElem?_append_right (Nat.le_refl _)] at h1
      rw [h.len, List.getElem?_append_right (Nat.le_refl _)] at h2
      simp at h1 h2
      subst h1 h2
      exact hx.mono hB
  · have hi2 := (List.getElem?_eq_some_iff.1 h1).1
    have hj2 := (List.getElem?_eq_some_iff.1 h2).1
    simp at hi2 hj2
    by_cases hi : i < hs.length
    · rw [List.getElem?_append_left hi] at h1
      by_cases hj : j < hs.length
      · rw [List.getElem?_append_left hj] at h2
        exact h.ne i j y z h1 h2 hne g hg
      · have e : j = hs.length := by omega
        subst e
        rw [List.getElem?_append_right (Nat.le_refl _)] at h2
        simp at h2
        subst h2
        exact hfar i y h1 g hg
    · have e : i = hs.length := by omega
      subst e
      rw [List.getElem?_append_right (Nat.le_refl _)] at h1
      simp at h1
      subst h1
      rw [List.getElem?_append_left (by omega)] at h2
      intro h3
      exact hfar j z h2 g h3 hg
def rowL (t : Mat) (N i : Nat) : List Int := (List.range N).map (t i)
theorem rowL_len (t : Mat) (N i : Nat) : (rowL t N i).length = N := by simp [rowL]
theorem rowL_at {t : Mat} {N i k : Nat} (h : k < N) : (rowL t N i)[k]?.getD 0 = t i k := by
  unfold rowL
  rw [List.getElem?_map, List.getElem?_range h]
  rfl
def rowsL (t : Mat) (N k : Nat) : List (List Int) := (List.range k).map (rowL t N)
theorem rowsL_len (t : Mat) (N k : Nat) : (rowsL t N k).length = k := by simp [rowsL]
theorem rowsL_snoc (t : Mat) (N k : Nat) : rowsL t N (k + 1) = rowsL t N k ++ [rowL t N k] := by
  unfold rowsL
  rw [List.range_succ, List.map_append]
  rfl
theorem rowsL_at {t : Mat} {N k i : Nat} (h : i < k) : (rowsL t N k)[i]? = some (rowL t N i) := by
  unfold rowsL
  rw [List.getElem?_map, List.getElem?_range h]
  rfl
theorem own_block {base : Nat} {w : World} {x : SlH} {xs : List Int} (h : Own base 3 w x.val xs) (hn : 0 < xs.length) : ∃ r c cs, x = ⟨some ⟨r, 0, none⟩, xs.length, c⟩ ∧ base ≤ r ∧ (xs.length ≤ c ∧ c ≤ 9223372036854775807) ∧ w.heap[r]? = some (.cells cs 3) ∧ ∀ k, k < xs.length → w.cell? ⟨r, k, none⟩ = some (.int .i64 (xs[k]?.getD 0)) := by
  have hr := h.rd
  rcases id h with ⟨_, ⟨_, h00⟩ | ⟨r, cap, cur, e, hbb, hh, hnc, hcm, _⟩⟩
  · omega
  unfold maxLen at hcm
  obtain ⟨xa, xn, xc⟩ := x
  injection e with e1 e2 e3
  subst e1 e2 e3
  refine ⟨r, xc, cur, rfl, hbb, ⟨hnc, hcm⟩, hh, fun k hk => ?_⟩
  obtain ⟨ad, ead, _, hc⟩ := hr.int (i := k) hk
  injection ead with ead
  subst ead
  have hadd : (⟨r, 0, none⟩ : Addr).add k = ⟨r, k, none⟩ := by unfold Addr.add; split <;> simp_all
  rw [hadd] at hc
  exact hc
/-- N rows of N numbers -/
theorem RowsO.mx {base N c : Nat} {w : World} {A : Option Addr} {hs : List SlH} {t : Mat} (h : RowsO base w hs (rowsL t N N)) (ho : Own base 43 w (.slice A N c) hs) (hN : 0 < N) : ∃ g R C, A = some ⟨g, 0, none⟩ ∧ MxAt base w g N R C t := by
  have hl : hs.length = N := by rw [h.len, rowsL_len]
  have hrd := ho.rd
  rcases id ho with ⟨_, ⟨_, h00⟩ | ⟨g, cap, cur, e, hbb, hh, hnc, _⟩⟩
  · omega
  injection e with e1 e2 e3
  subst e1 e3
  have hx : ∀ i, ∃ r c', i < N → hs[i]? = some ⟨some ⟨r, 0, none⟩, N, c'⟩ ∧ base ≤ r ∧ (N ≤ c' ∧ c' ≤ 9223372036854775807) ∧ (∃ cs, w.heap[r]? = some (.cells cs 3)) ∧ (∀ k, k < N → w.cell? ⟨r, k, none⟩ = some (.int .i64 (t i k))) ∧ ∀ k, w.frozen? ⟨r, k, none⟩ = false := fun i => by
    by_cases hi : i < N
    · have hi2 : i < hs.length := by omega
      have hrow := h.row i _ _ (List.getElem?_eq_getElem hi2) (rowsL_at hi)
      obtain ⟨r, c', cs, ex, h1, h2, h3, h4⟩ := own_block hrow (by rw [rowL_len]; exact hN)
      rw [rowL_len] at ex h2 h4
      rw [ex] at hrow
      exact ⟨r, c', fun _ => ⟨by rw [List.getElem?_eq_getElem hi2, ex], h1, h2, ⟨cs, h3⟩, fun k hk => by rw [h4 k hk, rowL_at hk], fun k => World.ownsRow.frozenAt (show w.ownsRow base 3 1 (.slice (some ⟨r, 0, none⟩) N c') N _ by have h := hrow; unfold Own at h; rw [rowL_len] at h; exact h) k⟩⟩
    · exact ⟨0, 0, fun h => absurd h hi⟩
  have hR := Classical.choose_spec (Classical.axiomOfChoice hx)
  generalize Classical.choose (Classical.axiomOfChoice hx) = R at hR
  have hC := Classical.choose_spec (Classical.axiomOfChoice hR)
  generalize Classical.choose (Classical.axiomOfChoice hR) = C at hC
  refine ⟨g, R, C, rfl, hbb, lt_of_block hh, fun i hi => (hC i hi).2.1, fun i hi => ?_, fun i hi e => ?_, fun i j hi hj e => ?_, fun i hi => (hC i hi).2.2.1.1, fun i hi => (hC i hi).2.2.1.2, fun i hi => ?_, fun i k hi hk => (hC i hi).2.2.2.2.1 k hk, fun i k hi hk => (hC i hi).2.2.2.2.2 k⟩
  · obtain ⟨cs, hcs⟩ := (hC i hi).2.2.2.1
    exact lt_of_block hcs
  · obtain ⟨cs, hcs⟩ := (hC i hi).2.2.2.1
    rw [e, hh] at hcs
    cases hcs
  · refine Classical.byContradiction fun hne => ?_
    exact h.ne i j _ _ (hC i hi).1 (hC j hj).1 hne (R i) rfl (by rw [e]; rfl)
  · obtain ⟨ad, ead, _, hc⟩ := hrd.slh (hC i hi).1
    injection ead with ead
    subst ead
    rw [addr_at] at hc
    exact hc
theorem RowsO.read {base B c i n : Nat} {w : World} {A : Option Addr} {hs : List SlH} {xss : List (List Int)} (h : RowsO base w hs xss) (ho : Rd SlAt 1 B w (.slice A n c) hs) {xs : List Int} (hi : xss[i]? = some xs) :
    ∃ ad x, A = some ad ∧ ad.block < B ∧ w.cell? (ad.add i) = some (SlH.val x) ∧ x.n = xs.length ∧ Rd IntAt 1 w.heap.size w x.val xs := by
  have hl : i < hs.length := by rw [h.len]; exact (List.getElem?_eq_some_iff.1 hi).1
  have hr := (h.row i _ _ (List.getElem?_eq_getElem hl) hi).rd
  obtain ⟨ad, e, hb, hc⟩ := ho.slh (List.getElem?_eq_getElem hl)
  refine ⟨ad, hs[i], e, hb, hc, ?_, hr⟩
  obtain ⟨A', c', e', _⟩ := hr
  exact (Value.slice.inj e').2.1
end Go.Proofs.YtajdgdelhlfniaaGreatDoor
