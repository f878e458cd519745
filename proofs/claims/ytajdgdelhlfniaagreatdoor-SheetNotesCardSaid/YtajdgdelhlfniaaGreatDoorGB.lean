/- Helpers of the laws of the layer sheet: bits. Helpers of the laws of the layer sheet: ascending. Helpers of the laws of the layer sheet: valid, turn. Helpers of the laws of the layer sheet: Truth. -/
import Derived.Test.YtajdgdelhlfniaaGreatDoorAppend
import Derived.Test.YtajdgdelhlfniaaGreatDoorGIter
import Derived.Test.YtajdgdelhlfniaaGreatDoorGPure
import Derived.Test.YtajdgdelhlfniaaGreatDoorGRChk
set_option linter.unusedSimpArgs false
set_option linter.unusedVariables false
namespace Go.Proofs.YtajdgdelhlfniaaGreatDoor
open Go.RowKit

def bitsL (x : Int) : Nat → List Int
  | 0 => []
  | k + 1 => if x / 2 ^ k % 2 = 1 then bitsL x k ++ [(k : Int)] else bitsL x k
theorem bitsL_le (x : Int) (k : Nat) : (bitsL x k).length ≤ k := by
  induction k with
  | zero => exact Nat.le_refl _
  | succ k ih =>
    unfold bitsL
    split
    · simp; omega
    · omega
set_option maxRecDepth 100000 in
set_option maxHeartbeats 1000000 in
theorem bits_any (x : Int) (hx0 : 0 ≤ x) (hx1 : x ≤ 65535) (n : Nat) (hn : n ≤ 16) (w : World) :
    Calls Tryz.prog 51 #[.int .u16 x, .int .i64 n] w fun e w' => ∃ A c, e = .returned (.slice A (bitsL x n).length c) ∧ Own w.heap.size 3 w' (.slice A (bitsL x n).length c) (bitsL x n) ∧ Below w.heap.size w w' := by
  go_enter Tryz.func51, Tryz.ntmps51
  go_wp2
  go_loopw [5, 6] (fun lv i wr => ∃ (k len : Nat) (A : Option Addr) (c : Nat), k ≤ n ∧ i = .int .i64 k ∧ len = (bitsL x k).length ∧ lv = .slice A len c ∧ Own w.heap.size 3 wr (.slice A len c) (bitsL x k) ∧ Below w.heap.size w wr) (fun _ i _ => n - (intOf i).toNat)
  case atStart => exact ⟨0, 0, none, 0, Nat.zero_le _, rfl, rfl, rfl, Own.nil _ _ _, Below.refl _ _⟩
  case round =>
    obtain ⟨k, len, A, c, hk, rfl, hlen, rfl, hown, hbr⟩ := hrel
    by_cases hlt : k < n
    · have Hlen := Lib.hid hlen
      have hle := bitsL_le x k
      rw [← hlen] at hle
      have hy0 : 0 ≤ x / 2 ^ k := Int.ediv_nonneg hx0 (by exact_mod_cast Nat.zero_le _)
      have htm : (x / 2 ^ k).tmod 2 = x / 2 ^ k % 2 := Int.tmod_eq_emod_of_nonneg hy0
      have Hst := Lib.hid (show bitsL x (k + 1) = if (x / 2 ^ k).tmod 2 = 1 then bitsL x k ++ [(k : Int)] else bitsL x k by rw [htm]; rfl)
      clear hlen hy0 htm
      obtain ⟨A2, c2', w2, hrun, hown3, hb3, _⟩ := append_int hown (k : Int) (by rw [← Hlen.out]; omega) hbr.size
      rw [← Hlen.out] at hrun hown3
      have Hown := Lib.hid hown
      have Hbr := Lib.hid hbr
      have Hown3 := Lib.hid hown3
      have Hb3 := Lib.hid (hbr.trans hb3)
      clear hown hbr hown3 hb3
      cases h2 : ((x / 2 ^ k).tmod 2 == 1) with
      | true =>
        have H1 := Lib.hid (show (x / 2 ^ k).tmod 2 = 1 by simpa using h2)
        go_wp2_with (at_builtin; refine wpList_append_run rfl _ _ _ rfl rfl rfl hrun ?_)
        exact ⟨⟨k + 1, len + 1, A2, c2', by omega, by go_num, by rw [Hst.out, if_pos H1.out, List.length_append, ← Hlen.out]; rfl, rfl, by rw [Hst.out, if_pos H1.out]; exact Hown3.out, Hb3.out⟩, by simp [intOf]; omega⟩
      | false =>
        have H1 := Lib.hid (show ¬ (x / 2 ^ k).tmod 2 = 1 by simpa using h2)
        go_wp2
        exact ⟨⟨k + 1, len, A, c, by omega, by go_num, by rw [Hst.out, if_neg H1.out]; exact Hlen.out, rfl, by rw [Hst.out, if_neg H1.out]; exact Hown.out, Hbr.out⟩, by simp [intOf]; omega⟩
    · have hkn : k = n := by omega
      subst hkn
      have Hown := Lib.hid hown
      have Hbr := Lib.hid hbr
      have Hlen := Lib.hid hlen
      clear hown hbr hlen
      go_wp2
      go_ret
      exact ⟨A, c, by rw [← Hlen.out]; rfl, by rw [← Hlen.out]; exact Hown.out, Hbr.out⟩
end Go.Proofs.YtajdgdelhlfniaaGreatDoor
namespace Go.Proofs.YtajdgdelhlfniaaGreatDoor
open Go.RowKit

def okI (l : List Int) (m : Int) (i : Nat) : Bool := !(decide (l.getD i 0 < 0) || decide (m ≤ l.getD i 0) || (decide (0 < i) && decide (l.getD i 0 ≤ l.getD (i - 1) 0)))
def ascB (l : List Int) (m : Int) : Bool := (List.range l.length).all (okI l m)
theorem ascB_no {l : List Int} {m : Int} {k : Nat} (hk : k < l.length) (h : okI l m k = false) : ascB l m = false := by
  unfold ascB
  rw [List.all_eq_false]
  exact ⟨k, List.mem_range.2 hk, by simp [h]⟩
theorem ascB_yes {l : List Int} {m : Int} (h : ∀ k, k < l.length → okI l m k = true) : ascB l m = true := by
  unfold ascB
  rw [List.all_eq_true]
  exact fun k hk => h k (List.mem_range.1 hk)
theorem int_cell {B i : Nat} {w : World} {A : Option Addr} {n c : Nat} {l : List Int} (h : Rd IntAt 1 B w (.slice A n c) l) (hi : i < l.length) : ∃ ad, A = some ad ∧ w.cell? (ad.add i) = some (.int .i64 (l.getD i 0)) := by
  obtain ⟨A', c', e, _, _, h3⟩ := h
  cases e
  obtain ⟨ad, e, _, hc⟩ := h3 i _ (List.getElem?_eq_getElem hi)
  refine ⟨ad, e, ?_⟩
  rw [Nat.mul_one] at hc
  rw [List.getD_eq_getElem?_getD, List.getElem?_eq_getElem hi]
  exact hc
set_option maxRecDepth 100000 in
set_option maxHeartbeats 1000000 in
theorem ascending_any {B : Nat} {w : World} {v : Value} {l : List Int} (m : Int) (hv : Rd IntAt 1 B w v l) :
    Calls Tryz.prog 53 #[v, .int .i64 m] w fun e w' => e = .returned (.bool (ascB l m)) ∧ Qt w w' := by
  obtain ⟨A, c, rfl, hlc, hc, _⟩ := id hv
  go_enter Tryz.func53, Tryz.ntmps53
  go_wp2
  go_loopw [5] (fun i wr => ∃ k : Nat, k ≤ l.length ∧ i = .int .i64 k ∧ Qt w wr ∧ ∀ j, j < k → okI l m j = true) (fun i _ => l.length - (intOf i).toNat)
  case atStart => exact ⟨0, Nat.zero_le _, rfl, Qt.refl _, fun _ h => by omega⟩
  case round =>
    obtain ⟨k, hk, rfl, hq, hno⟩ := hrel
    have HQ := Lib.hid hq
    have HR := Lib.hid (hv.qt hq)
    clear hq
    have Hno := Lib.hid hno
    clear hno
    by_cases hlt : k < l.length
    · obtain ⟨ad, rfl, h0⟩ := int_cell HR.out hlt
      have hok : okI l m k = !(decide (l.getD k 0 < 0) || decide (m ≤ l.getD k 0) || (decide (0 < k) && decide (l.getD k 0 ≤ l.getD (k - 1) 0))) := rfl
      have hprev : 0 < k → wr.cell? (ad.add (k - 1)) = some (.int .i64 (l.getD (k - 1) 0)) := fun h => by
        obtain ⟨ad', e, h1⟩ := int_cell HR.out (i := k - 1) (by omega)
        cases e
        exact h1
      have Hok := Lib.hid hok
      have HP := Lib.hid hprev
      have Hlt := Lib.hid hlt
      have Hl2 := Lib.hid (ascB_no (m := m) hlt)
      clear hok hprev
      generalize l.getD k 0 = x at *
      generalize l.getD (k - 1) 0 = y at *
      obtain ⟨b1, d1⟩ : ∃ b, decide (x < 0) = b := ⟨_, rfl⟩
      obtain ⟨b2, d2⟩ : ∃ b, decide (m ≤ x) = b := ⟨_, rfl⟩
      obtain ⟨b3, d3⟩ : ∃ b, decide (0 < k) = b := ⟨_, rfl⟩
      obtain ⟨b4, d4⟩ : ∃ b, decide (x ≤ y) = b := ⟨_, rfl⟩
      have e3 := d3
      have Hres : Hid (okI l m k = !(b1 || b2 || (b3 && b4))) := Lib.hid (by rw [Hok.out, d1, d2, e3, d4])
      have h1 : b3 = true → wr.cell? (ad.add (k - 1)) = some (.int .i64 y) := fun h => HP.out (by rw [h] at e3; simpa using e3)
      have H1 := Lib.hid h1
      have hkk : b3 = true → 0 < k := fun h => by rw [h] at e3; simpa using e3
      have HKK := Lib.hid hkk
      clear e3 h1 hkk
      cases b1 <;> cases b2 <;> cases b3 <;> cases b4
      all_goals
        try have h1 := H1.out rfl
        try have hk0 := HKK.out rfl
        go_wp2
        go_quiet (fail)
      all_goals first
        | (have HN : Hid (okI l m k = true) := Lib.hid Hres.out
           go_wp2
           go_roundw
           case rel => exact ⟨k + 1, by omega, by go_num, HQ.out.drewN _, fun j hj => by
             by_cases h : j < k
             · exact Hno.out j h
             · obtain rfl : j = k := by omega
               exact HN.out⟩
           case measure => simp [intOf]; omega)
        | (have HF := Lib.hid (Hl2.out Hres.out)
           go_wp2
           go_ret
           exact ⟨by rw [HF.out]; rfl, HQ.out.drewN _⟩)
    · have hkn : k = l.length := by omega
      have hr := Lib.hid (ascB_yes (l := l) (m := m) fun j hj => Hno.out j (by omega))
      go_wp2
      go_ret
      exact ⟨by rw [hr.out]; rfl, HQ.out⟩
end Go.Proofs.YtajdgdelhlfniaaGreatDoor
namespace Go.Proofs.YtajdgdelhlfniaaGreatDoor
open Go.RowKit

theorem valid_any {B : Nat} {w : World} {v : Value} {s : ShR} (hs : RdSh B w v s) (hn : Named s) (hB : B ≤ w.heap.size) :
    Calls Tryz.prog 44 #[v] w fun e w' => e = .returned (.bool (decide (errOf s = 0))) ∧ Below w.heap.size w w' := by
  have HR : ∀ X, Below w.heap.size w X → Calls Tryz.prog 17 #[v] X fun e w' => e = .returned (checkV s) ∧ Below X.heap.size X w' := fun X hb => rcheck_any (hs.below (hb.mono hB)) hn (Nat.le_trans hB hb.size)
  obtain ⟨vp, vn, rfl, _, _⟩ := hs
  unfold checkV at HR
  obtain ⟨x, hx⟩ : ∃ x, errOf s = x := ⟨_, rfl⟩
  rw [show (check s).2.2 = x from hx] at HR
  rw [hx]
  clear hx
  generalize (check s).1 = a at HR
  generalize (check s).2.1 = b at HR
  generalize s.iv = iv at HR
  obtain ⟨W, hW, c0, c1, c2, hz, hb, hrow⟩ := sheet_box w iv vp vn
  have hR := Lib.hid HR
  have e : ((x : Int) == 0) = decide (x = 0) := by by_cases h : x = 0 <;> simp [h]
  have E := Lib.hid e
  clear HR hn hrow hz e
  go_enter Tryz.func44, Tryz.ntmps44
  go_upto_region 1 with (fail)
  rw [← hW]
  clear hW
  go_wp2_with (go_at_call 17; with_reducible refine Calls.mono (hR.out _ hb) ?_; rintro e X ⟨rfl, h4⟩; replace hb := hb.trans (h4.mono hb.size); clear c0 c1 c2)
  go_ret
  exact ⟨by rw [← E.out]; rfl, hb⟩

def U16At (w : World) (a : Addr) (x : Int) : Prop := w.cell? a = some (.int .u16 x)
instance : AtKeep U16At := ⟨fun _ _ a _ h k => (h a rfl).trans k, fun _ _ _ h => ⟨_, h⟩⟩
def turnF (l : List Int) (n : Nat) : Int := l.getD (n % l.length) 0
theorem turn_any {B : Nat} {w : World} {v : Value} {l : List Int} (n : Nat) (hv : Rd U16At 1 B w v l) (hn : n ≤ 9223372036854775807) (hl : ∀ x ∈ l, 0 ≤ x ∧ x ≤ 65535) :
    Calls Tryz.prog 54 #[v, .int .i64 n] w fun e w' => e = .returned (.int .i64 (turnF l n)) ∧ w' = w := by
  obtain ⟨A, c, rfl, h1, h2, h3⟩ := hv
  cases l with
  | nil =>
    go_enter Tryz.func54, Tryz.ntmps54
    go_wp2
    go_ret
    exact ⟨rfl, rfl⟩
  | cons y r =>
    have hp : 0 < (y :: r).length := by simp
    have hm : n % (y :: r).length < (y :: r).length := Nat.mod_lt _ hp
    obtain ⟨ad, rfl, _, hc⟩ := h3 _ _ (List.getElem?_eq_getElem hm)
    have hx := hl _ (List.getElem_mem hm)
    have hT : turnF (y :: r) n = (y :: r)[n % (y :: r).length] := by unfold turnF; rw [List.getD_eq_getElem?_getD, List.getElem?_eq_getElem hm]; rfl
    rw [hT]
    rw [Nat.mul_one] at hc
    replace hc : w.cell? (ad.add (n % (y :: r).length)) = some (.int .u16 (y :: r)[n % (y :: r).length]) := hc
    clear hT h3 hl
    generalize (y :: r)[n % (y :: r).length] = z at *
    generalize (y :: r).length = len at *
    go_enter Tryz.func54, Tryz.ntmps54
    go_wp2
    go_ret
    exact ⟨rfl, rfl⟩
end Go.Proofs.YtajdgdelhlfniaaGreatDoor
namespace Go.Proofs.YtajdgdelhlfniaaGreatDoor
open Go.RowKit

theorem turnF_bounds {l : List Int} (hl : ∀ x ∈ l, 0 ≤ x ∧ x ≤ 65535) (n : Nat) : 0 ≤ turnF l n ∧ turnF l n ≤ 65535 := by
  unfold turnF
  rw [List.getD_eq_getElem?_getD]
  cases h : l[n % l.length]? with
  | none => simp
  | some x => exact hl x (List.mem_of_getElem? h)
def truthL (l : List Int) (k : Nat) : List Int := (List.range k).map fun i => turnF l i % 9001
theorem truthL_succ (l : List Int) (k : Nat) : truthL l (k + 1) = truthL l k ++ [turnF l k % 9001] := by simp [truthL, List.range_succ]
theorem truthL_len (l : List Int) (k : Nat) : (truthL l k).length = k := by simp [truthL]
set_option maxRecDepth 100000 in
set_option maxHeartbeats 1000000 in
theorem truth_any {B : Nat} {w : World} {v vx : Value} {s : ShR} {l : List Int} (hs : RdSh B w v s) (hx : Rd U16At 1 B w vx l) (hl : ∀ x ∈ l, 0 ≤ x ∧ x ≤ 65535) (hB : B ≤ w.heap.size) (hpl : s.pts.length ≤ 1000) :
    Calls Tryz.prog 45 #[v, vx] w fun e w' => ∃ A c, e = .returned (.slice A s.pts.length c) ∧ Own w.heap.size 3 w' (.slice A s.pts.length c) (truthL l s.pts.length) ∧ Below w.heap.size w w' := by
  obtain ⟨vp, vn, rfl, hp, _⟩ := hs
  obtain ⟨Ap, cp, rfl, _, _, _⟩ := id hp
  obtain ⟨W, hW, c0, c1, c2, hz, hb, hrow⟩ := sheet_box w s.iv (.slice Ap s.pts.length cp) vn
  have HX := Lib.hid (fun (X : World) (h : Below W.heap.size W X) => hx.below ((hb.trans (h.mono hb.size)).mono hB))
  have C1 := Lib.hid c1
  have HL := Lib.hid hl
  have HBd := Lib.hid (turnF_bounds hl)
  have HWb := Lib.hid hb
  have HLn := Lib.hid (truthL_len l)
  clear hx hp hl c0 c1 c2 hz hb hrow
  generalize s.iv = iv at *
  generalize s.pts.length = n at *
  go_enter Tryz.func45, Tryz.ntmps45
  go_upto_region 1 with (fail)
  rw [← hW]
  clear hW
  go_wp2
  go_loopw [5, 6] (fun lv i wr => ∃ (k : Nat) (A : Option Addr) (c : Nat), k ≤ n ∧ i = .int .i64 k ∧ lv = .slice A k c ∧ Own W.heap.size 3 wr (.slice A k c) (truthL l k) ∧ Below W.heap.size W wr) (fun _ i _ => n - (intOf i).toNat)
  case atStart => exact ⟨0, none, 0, Nat.zero_le _, rfl, rfl, Own.nil _ _ _, Below.refl _ _⟩
  case round =>
    obtain ⟨k, A, c, hk, rfl, rfl, hown, hbr⟩ := hrel
    have q1 := (hbr.cell (cell_lt C1.out)).trans C1.out
    have Hown := Lib.hid hown
    have Hbr := Lib.hid hbr
    by_cases hlt : k < n
    · obtain ⟨t, ht⟩ : ∃ t : Nat, turnF l k = (t : Int) := ⟨(turnF l k).toNat, by have := (HBd.out k).1; omega⟩
      have HT := Lib.hid (turn_any k (HX.out _ hbr) (by omega) HL.out)
      have Hst := Lib.hid (truthL_succ l k)
      rw [ht] at HT Hst
      have Hst2 := Lib.hid Hst.out
      clear ht
      obtain ⟨A2, c2', w2, hrun, hown3, hb3, _⟩ := append_int hown ((t : Int) % 9001) (by rw [HLn.out]; omega) hbr.size
      rw [HLn.out] at hrun hown3
      have Hown3 := Lib.hid hown3
      have Hb3 := Lib.hid (hbr.trans hb3)
      clear hown hbr hown3 hb3
      go_wp2_with (first | (go_at_call 54; refine HT.out.mono ?_; rintro e wx ⟨rfl, hwx⟩; subst wx) | (at_builtin; refine wpList_append_run rfl _ _ _ rfl rfl rfl hrun ?_))
      go_roundw
      case rel => exact ⟨k + 1, A2, c2', by omega, by go_num, rfl, by rw [Hst2.out]; exact Hown3.out, Hb3.out⟩
      case measure => simp [intOf]; omega
    · have hkn : k = n := by omega
      subst hkn
      clear hown hbr
      go_wp2
      go_ret
      exact ⟨A, c, rfl, Hown.out.mono HWb.out.size, HWb.out.trans (Hbr.out.mono HWb.out.size)⟩
end Go.Proofs.YtajdgdelhlfniaaGreatDoor
