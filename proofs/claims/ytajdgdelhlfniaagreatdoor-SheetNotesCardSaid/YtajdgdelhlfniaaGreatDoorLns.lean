/- The lines of a string: strings.Lines and its iterator. -/
import Derived.Test.YtajdgdelhlfniaaGreatDoorGIter
import Derived.Test.YtajdgdelhlfniaaGreatDoorGTk7
import Derived.Test.YtajdgdelhlfniaaGreatDoorGWith
import Derived.Lib.IndexLaws
import Derived.WalkKit
import Derived.Deep.Quiet
set_option linter.unusedSimpArgs false
set_option linter.unusedVariables false
namespace Go.Proofs.YtajdgdelhlfniaaGreatDoor
open Go.RowKit Go.Shelf
attribute [local go_sem] Oper.semAt_some

def nlOf (s : ByteArray) : Int := Lib.indexByte s.data.toList 10
/-- the first line, and what is behind it -/
def lineOf (s : ByteArray) : ByteArray := if 0 ≤ nlOf s then s.extract 0 ((nlOf s).toNat + 1) else s
def nextOf (s : ByteArray) : ByteArray := if 0 ≤ nlOf s then s.extract ((nlOf s).toNat + 1) s.size else ByteArray.empty
def restOf : Nat → ByteArray → ByteArray
  | 0, s => s
  | k + 1, s => restOf k (nextOf s)
def linesN : Nat → ByteArray → List ByteArray
  | 0, _ => []
  | f + 1, s => if s.size = 0 then [] else lineOf s :: linesN f (nextOf s)
def linesOf (t : ByteArray) : List ByteArray := linesN t.size t
theorem nlOf_lt {s : ByteArray} (h : 0 ≤ nlOf s) : ∃ n : Nat, nlOf s = n ∧ n < s.size := by
  obtain ⟨n, hn⟩ := Int.eq_ofNat_of_zero_le h
  refine ⟨n, hn, ?_⟩
  have h1 := (Lib.indexByte_some hn).1
  have h2 := (List.getElem?_eq_some_iff.1 h1).1
  simpa using h2
theorem nextOf_size {s : ByteArray} (h : 0 < s.size) : (nextOf s).size < s.size := by
  unfold nextOf
  split
  · rename_i h0
    obtain ⟨n, hn, hlt⟩ := nlOf_lt h0
    rw [ByteArray.size_extract, hn]
    omega
  · simpa using h
theorem restOf_succ (k : Nat) (s : ByteArray) : restOf (k + 1) s = nextOf (restOf k s) := by
  induction k generalizing s with
  | zero => rfl
  | succ k ih => rw [restOf, ih, restOf]
theorem linesN_spec (f : Nat) (s : ByteArray) (h : s.size ≤ f) : (∀ k, k < (linesN f s).length → 0 < (restOf k s).size ∧ (linesN f s)[k]? = some (lineOf (restOf k s))) ∧ (restOf (linesN f s).length s).size = 0 := by
  induction f generalizing s with
  | zero => exact ⟨fun k hk => by simp [linesN] at hk, by simpa [linesN, restOf] using h⟩
  | succ f ih =>
    unfold linesN
    by_cases h0 : s.size = 0
    · rw [if_pos h0]
      exact ⟨fun k hk => by simp at hk, h0⟩
    · rw [if_neg h0]
      obtain ⟨h1, h2⟩ := ih (nextOf s) (by have := nextOf_size (s := s) (by omega); omega)
      refine ⟨fun k hk => ?_, h2⟩
      cases k with
      | zero => exact ⟨by show 0 < s.size; omega, rfl⟩
      | succ k => exact h1 k (by simpa using hk)
theorem restOf_small {k : Nat} {s : ByteArray} {n : Nat} (h : s.size ≤ n) : (restOf k s).size ≤ n := by
  induction k generalizing s with
  | zero => exact h
  | succ k ih =>
    refine ih ?_
    unfold nextOf
    split
    · rw [ByteArray.size_extract]; omega
    · simp
theorem lineOf_small {s : ByteArray} : (lineOf s).size ≤ s.size := by
  unfold lineOf
  split
  · rw [ByteArray.size_extract]; omega
  · exact Nat.le_refl _
theorem linesOf_small {t x : ByteArray} (h : x ∈ linesOf t) : x.size ≤ t.size := by
  obtain ⟨k, hk, rfl⟩ := List.getElem_of_mem h
  obtain ⟨h1, _⟩ := linesN_spec t.size t (Nat.le_refl _)
  have := (h1 k hk).2
  unfold linesOf at hk ⊢
  rw [List.getElem?_eq_getElem hk, Option.some.injEq] at this
  rw [this]
  exact Nat.le_trans lineOf_small (restOf_small (Nat.le_refl _))
theorem linesN_len (f : Nat) (s : ByteArray) : (linesN f s).length ≤ f := by
  induction f generalizing s with
  | zero => simp [linesN]
  | succ f ih =>
    unfold linesN
    split
    · simp
    · have := ih (nextOf s)
      simp
      omega

/-- what the iterator does between two rounds: its box alone -/
structure LnS (bx : Nat) (w w' : World) : Prop where
  os : w'.os = w.os
  tape : w'.tape = w.tape
  output : w'.output = w.output
  size : w.heap.size ≤ w'.heap.size
  block : ∀ k, k < w.heap.size → k ≠ bx → w'.heap[k]? = w.heap[k]?
  m0 : ∃ s f, w.heap[bx]? = some (.cells #[.string s] 9 f)
/-- what it asks of a round -/
def LnK (bx : Nat) (w w' : World) : Prop := ∀ cs f, w.heap[bx]? = some (.cells cs 9 f) → w'.heap[bx]? = some (.cells cs 9 f)
theorem LnS.set_ {bx : Nat} {w w1 : World} {s : ByteArray} (hb : Below w.heap.size w w1) (h : w.heap[bx]? = some (.cells #[.string s] 9)) (v : Value) : LnS bx w (w1.setCell ⟨bx, 0, none⟩ v) :=
  ⟨hb.os, hb.tape, hb.output, by rw [World.size_setCell]; exact hb.size, fun k hk hne => (Below.heap_setCell _ _ _ _ hne).trans (hb.block k hk), s, _, h⟩
theorem box_set {bx : Nat} {w w1 : World} {s : ByteArray} (hb : Below w.heap.size w w1) (h : w.heap[bx]? = some (.cells #[.string s] 9)) (s' : ByteArray) : (w1.setCell ⟨bx, 0, none⟩ (.string s')).heap[bx]? = some (.cells #[.string s'] 9) :=
  (row3 ((hb.block _ (lt_of_block h)).trans h) 0 _).trans (by simp)
def sizeAt (bx : Nat) (w : World) : Nat := match w.cell? ⟨bx, 0, none⟩ with | some (.string s) => s.size | _ => 0
theorem sizeAt_eq {bx : Nat} {w : World} {s : ByteArray} (h : w.heap[bx]? = some (.cells #[.string s] 9)) : sizeAt bx w = s.size := by
  unfold sizeAt
  rw [cellOf h 0 (v := .string s) rfl]

set_option maxHeartbeats 1000000 in
theorem lines_iter (t : ByteArray) (ht : t.size ≤ 1000000) (bx : Nat) : ∀ (l : Nat) (Y : Nat → World → Prop) (ZP : List PanicEntry → World → Prop) (W : World),
    (∀ k A B, Y k A → LnS bx A B → Y k B) →
    (∀ k A, k < (linesOf t).length → Y k A → YieldAt Fence.wide 0 Tryz.prog l #[.string ((linesOf t)[k]?.getD ByteArray.empty)] A fun e B => (e = .returned (.bool true) ∧ Y (k + 1) B ∧ LnK bx A B) ∨ (∃ c, e = .panicked c ∧ ZP c B)) →
    Y 0 W → W.heap[bx]? = some (.cells #[.string t] 9) → CallsIn Fence.wide 0 Tryz.prog 108 (#[.func (.yield l) #[] #[]] ++ #[.pointer (some ⟨bx, 0, none⟩)]) W fun e B => (∃ v, e = .returned v ∧ Y (linesOf t).length B) ∨ (∃ c, e = .panicked c ∧ ZP c B) := by
  intro L Y ZP W hS hR h0 hbx
  refine callsIn_wide.2 ?_
  show Calls Tryz.prog 108 #[.func (.yield L) #[] #[], .pointer (some ⟨bx, 0, none⟩)] W _
  obtain ⟨hsp, hend⟩ := linesN_spec t.size t (Nat.le_refl _)
  rw [show linesN t.size t = linesOf t from rfl] at hsp hend
  have HSp := Lib.hid hsp
  have HEn := Lib.hid hend
  have HS := Lib.hid hS
  have HR := Lib.hid hR
  have H0 := Lib.hid h0
  have HB := Lib.hid hbx
  clear hsp hend hS hR h0 hbx
  go_enter Tryz.func108, Tryz.ntmps108
  go_wp2
  go_loopw [4] (fun _ wr => ∃ k : Nat, k ≤ (linesOf t).length ∧ Y k wr ∧ wr.heap[bx]? = some (.cells #[.string (restOf k t)] 9)) (fun _ wr => sizeAt bx wr)
  case atStart => exact ⟨0, Nat.zero_le _, H0.out, HB.out⟩
  case round =>
    clear H0 HB
    obtain ⟨k, hk, hY, hB⟩ := hrel
    have hsz := restOf_small (k := k) ht
    have hsa := sizeAt_eq hB
    have hfr : wr.frozen? ⟨bx, 0, none⟩ = false := by simp [World.frozen?, hB]
    have hc := cellOf hB 0 (v := .string (restOf k t)) rfl
    by_cases hlt : k < (linesOf t).length
    · obtain ⟨hpos, hline⟩ := HSp.out k hlt
      have hnx := restOf_succ k t
      have hdn := nextOf_size hpos
      have HIB := Lib.hid (Tryz.strings_IndexByte (restOf k t) 10 wr)
      rw [show Lib.indexByte (restOf k t).data.toList (10 : Int).toNat.toUInt8 = nlOf (restOf k t) from rfl] at HIB
      have HRd := Lib.hid (fun A => HR.out k A hlt)
      have hel : (linesOf t)[k]?.getD ByteArray.empty = lineOf (restOf k t) := by rw [hline]; rfl
      rw [hel] at HRd
      have HY := Lib.hid hY
      have HB := Lib.hid hB
      have HNx := Lib.hid hnx
      have HDn := Lib.hid hdn
      have HSa := Lib.hid hsa
      have Hpos := Lib.hid hpos
      clear hline hel hY hB hnx hdn hsa
      have hposb : decide (0 < (restOf k t).size) = true := decide_eq_true hpos
      generalize hr : restOf k t = r at *
      have hlen : ((r.size : Int) > 0) := by omega
      by_cases hn : 0 ≤ nlOf r
      · obtain ⟨n, hne, hnlt⟩ := nlOf_lt hn
        have HLo := Lib.hid (show lineOf r = r.extract 0 (n + 1) by unfold lineOf; rw [if_pos hn, hne]; rfl)
        have HNo := Lib.hid (show nextOf r = r.extract (n + 1) r.size by unfold nextOf; rw [if_pos hn, hne]; rfl)
        rw [hne] at HIB
        have hwn : IntKind.i64.wrap ((n : Int) + 1) = ((n + 1 : Nat) : Int) := IntWalk.i64_in _ (by omega)
        have hw0 : IntKind.i64.wrap (n : Int) = n := IntWalk.i64_in _ (by omega)
        have hn1 : n + 1 ≤ r.size := hnlt
        clear hn hne hr hnlt
        go_upto_region 4 with (go_at_call 109; refine HIB.out.mono ?_; rintro e w3 ⟨rfl, hw3⟩; subst w3)
        have C1 := Aft.cell hc
        refine region_quiet_tail (C := fun w' => ∃ x : Aft wr, w' = x.1) 9 (by kernel_rfl) (by kernel_rfl) ⟨⟨wr.drew, (Below.refl _ _).drew⟩, rfl⟩ ?_
        simp only [List.take_succ_cons, List.take_zero, List.drop_succ_cons, List.drop_zero]
        repeat (first | go_big_quiet_step (fail) | quiet_step (fail))
        refine wpQuiet_nil ?_
        rintro wx ⟨⟨_, hbx⟩, rfl⟩
        have kx := (hbx.block _ (lt_of_block HB.out)).trans HB.out
        have cx := cellOf kx 0 (v := .string r) rfl
        have fx : wx.frozen? ⟨bx, 0, none⟩ = false := by simp [World.frozen?, kx]
        have HKx := Lib.hid kx
        have HBx := Lib.hid hbx
        clear C1 hc hfr hbx kx
        go_upto_region 6 with (fail)
        obtain ⟨wq, hwq⟩ : ∃ wq, wq = wx.setCell ⟨bx, 0, none⟩ (.string (r.extract (n + 1) r.size)) := ⟨_, rfl⟩
        rw [← hwq]
        have HQ := Lib.hid (show wq.heap[bx]? = some (.cells #[.string (restOf (k + 1) t)] 9) by rw [HNx.out, HNo.out, hwq]; exact box_set HBx.out HB.out _)
        have HYq := Lib.hid (HS.out k wr wq HY.out (by rw [hwq]; exact LnS.set_ HBx.out HB.out _))
        rw [HLo.out] at HRd
        have HYl := Lib.hid (HRd.out _ HYq.out)
        clear hwq cx fx HKx HBx
        obtain ⟨fn, tmps, assign, body, hy, hRR⟩ := HYl.out
        have HRR := Lib.hid hRR
        clear hRR
        refine (wpIn_wide (n := 0)).1 ?_
        gi_wp2
        refine ⟨rfl, HRR.out.mono ?_⟩
        rintro e W' (⟨rfl, hY', hK⟩ | ⟨c, rfl, hZ⟩)
        · gi_wp2
          go_wp2
          go_roundw
          case rel => exact ⟨k + 1, by omega, hY', hK _ _ HQ.out⟩
          case measure => rw [sizeAt_eq (hK _ _ HQ.out), HSa.out, HNx.out]; exact HDn.out
        · exact ⟨rfl, .inr ⟨c, rfl, hZ⟩⟩
      · have HLo := Lib.hid (show lineOf r = r by unfold lineOf; rw [if_neg hn])
        have HNo := Lib.hid (show nextOf r = ⟨#[]⟩ by unfold nextOf; rw [if_neg hn]; rfl)
        have hnb : decide (nlOf r ≥ 0) = false := decide_eq_false hn
        have hnb2 : decide (0 ≤ nlOf r) = false := decide_eq_false hn
        generalize nlOf r = m at *
        clear hr
        go_upto_region 6 with (go_at_call 109; refine HIB.out.mono ?_; rintro e w3 ⟨rfl, hw3⟩; subst w3)
        obtain ⟨wq, hwq⟩ : ∃ wq, wq = wr.setCell ⟨bx, 0, none⟩ (.string ⟨#[]⟩) := ⟨_, rfl⟩
        rw [← hwq]
        have HQ := Lib.hid (show wq.heap[bx]? = some (.cells #[.string (restOf (k + 1) t)] 9) by rw [HNx.out, HNo.out, hwq]; exact box_set (Below.refl _ _) HB.out _)
        have HYq := Lib.hid (HS.out k wr wq HY.out (by rw [hwq]; exact LnS.set_ (Below.refl _ _) HB.out _))
        rw [HLo.out] at HRd
        have HYl := Lib.hid (HRd.out _ HYq.out)
        clear hwq hc hfr
        obtain ⟨fn, tmps, assign, body, hy, hRR⟩ := HYl.out
        have HRR := Lib.hid hRR
        clear hRR
        refine (wpIn_wide (n := 0)).1 ?_
        gi_wp2
        refine ⟨rfl, HRR.out.mono ?_⟩
        rintro e W' (⟨rfl, hY', hK⟩ | ⟨c, rfl, hZ⟩)
        · gi_wp2
          go_wp2
          go_roundw
          case rel => exact ⟨k + 1, by omega, hY', hK _ _ HQ.out⟩
          case measure => rw [sizeAt_eq (hK _ _ HQ.out), HSa.out, HNx.out]; exact HDn.out
        · exact ⟨rfl, .inr ⟨c, rfl, hZ⟩⟩
    · obtain rfl : k = (linesOf t).length := by omega
      have he := HEn.out
      have heb : decide (0 < (restOf (linesOf t).length t).size) = false := decide_eq_false (by omega)
      have HY := Lib.hid hY
      clear hY hB hsa hsz hlt hk
      generalize restOf (linesOf t).length t = r at *
      go_wp2
      go_end0
      exact .inl ⟨_, rfl, HY.out⟩
/-- strings.Lines -/
theorem lines_any (t : ByteArray) (w : World) :
    Calls Tryz.prog 81 #[.string t] w fun e w' => e = .returned (.func (.func 108) #[] #[.pointer (some ⟨w.heap.size, 0, none⟩)]) ∧ w' = w.alloc (.cells #[.string t] 9) := by
  go_enter Tryz.func81, Tryz.ntmps81
  go_wp2
  go_ret
  exact ⟨rfl, rfl⟩
end Go.Proofs.YtajdgdelhlfniaaGreatDoor
