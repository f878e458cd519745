/- Walks of the layer sheet: what stands in package-level variables; a line of a text. Walks of the layer sheet: the reference's Spread, Range, note. Walks of the layer sheet: Check of the reference. -/
import Derived.Test.YtajdgdelhlfniaaGreatDoorH2
import Derived.Test.YtajdgdelhlfniaaGreatDoorH4
import Derived.Lib.ItoaLen
import Derived.Lib.AppendIntMem
import Derived.ChangeAgain
import Derived.IntWalk
import Derived.WalkKit
import Derived.Deep.Quiet
import Derived.Deep.Cut
set_option linter.unusedSimpArgs false
set_option linter.unusedVariables false
namespace Go.Proofs.YtajdgdelhlfniaaGreatDoor
open Go.RowKit

theorem shaped_below {P : Program} {w w' : World} (h : w.ShapedOpen P) (hb : Below w.heap.size w w') : w'.ShapedOpen P := by
  have lt_of_some : ∀ {i : Nat} {o : Obj}, w.heap[i]? = some o → i < w.heap.size := by
    intro i o ho
    rcases Nat.lt_or_ge i w.heap.size with h' | h'
    · exact h'
    · simp [Array.getElem?_eq_none h'] at ho
  have hsh : ∀ (b : Nat) x, w.shape? b = some x → w'.shape? b = some x := by
    intro b x hx
    unfold World.shape? at hx ⊢
    rcases Nat.lt_or_ge b w.heap.size with h' | h'
    · rw [hb.block b h']; exact hx
    · simp [Array.getElem?_eq_none h'] at hx
  refine ⟨fun g zero t hg hz => ?_, fun k hk1 hk2 => ?_⟩
  · obtain ⟨cs, h1, h2, h3⟩ := h.1 g zero t hg hz
    exact ⟨cs, (hb.block g (lt_of_some h1)).trans h1, h2, fun hb => Row.ok_of_shape hsh (h3 hb)⟩
  · obtain ⟨o, o₀, h1, h2, h3⟩ := h.2 k hk1 hk2
    exact ⟨o, o₀, (hb.block k (lt_of_some h1)).trans h1, h2, h3⟩
theorem var_below {P : Program} {w w' : World} {n : String} {cs : Array Value} (h : w.var? P n = some cs) (hb : Below w.heap.size w w') : w'.var? P n = some cs := by
  unfold World.var? at h ⊢
  cases hg : P.globalNamed n with
  | none => rw [hg] at h; simp at h
  | some g =>
    rw [hg] at h
    simp only [Option.bind_some] at h ⊢
    have hlt : g < w.heap.size := by
      rcases Nat.lt_or_ge g w.heap.size with h' | h'
      · exact h'
      · rw [Array.getElem?_eq_none h'] at h; cases h
    rw [hb.block g hlt]
    exact h

/-- what the library's variables read as -/
structure Glob (w : World) : Prop where
  tab : Lib.TabIs Tryz.prog w "internal/strconv.uint64pow10" .u64 Lib.pow10Tab
  syn : ∃ tp p, w.var? Tryz.prog "strconv.ErrSyntax" = some #[.iface tp p]
  rng : ∃ tp p, w.var? Tryz.prog "strconv.ErrRange" = some #[.iface tp p]
  shaped : w.ShapedOpen Tryz.prog
theorem Glob.below {w w' : World} (h : Glob w) (hb : Below w.heap.size w w') : Glob w' :=
  ⟨var_below h.tab hb, by obtain ⟨tp, p, h⟩ := h.syn; exact ⟨tp, p, var_below h hb⟩, by obtain ⟨tp, p, h⟩ := h.rng; exact ⟨tp, p, var_below h hb⟩, shaped_below h.shaped hb⟩

theorem own_below {w w' : World} {B e size n : Nat} {v : Value} {xs : List Value} (h : w.ownsRow B e size v n xs) (hb : Below w.heap.size w w') : w'.ownsRow B e size v n xs := by
  refine ⟨h.1, ?_⟩
  rcases h.2 with hn | ⟨g, cap, cur, rfl, hg, hgg, rest⟩
  · exact .inl hn
  · exact .inr ⟨g, cap, cur, rfl, hg, by rw [hb.block g (Array.getElem?_eq_some_iff.1 hgg).1]; exact hgg, rest⟩
theorem builder_below {T e B b : Nat} {bs : List Value} {w w' : World} (h : Lib.IsBuilder T e B b bs w) (hb : Below w.heap.size w w') : Lib.IsBuilder T e B b bs w' := by
  have key : ∀ p, Lib.BuilderAt T e B b p bs w → Lib.BuilderAt T e B b p bs w' := by
    rintro p ⟨hB, v, hv, hown, hne⟩
    exact ⟨hB, v, by rw [hb.block b (Array.getElem?_eq_some_iff.1 hv).1]; exact hv, own_below hown hb, hne⟩
  rcases h with h | h
  · exact .inl (key _ h)
  · exact .inr (key _ h)

/-- Itoa, as a call that keeps all that is there -/
theorem itoa_any {w : World} (n : Int) (h0 : -9223372036854775808 ≤ n) (h1 : n ≤ 9223372036854775807) (hg : Glob w) :
    Calls Tryz.prog 105 #[.int .i64 n] w fun e w' => e = .returned (.string ⟨(Lib.itoa n).toArray⟩) ∧ Below w.heap.size w w' := by
  refine (Tryz.strconv_Itoa n h0 h1 w hg.tab).mono ?_
  rintro e w' ⟨rfl, k, os, rfl⟩
  exact ⟨rfl, Lib.below_grow _ _ (Nat.le_refl _) k os⟩

/-- the bytes of a line -/
def lineB (ws : List (List UInt8)) : List UInt8 := Lib.join ws [32] ++ [10]
/-- the text so far -/
def Bld (B b : Nat) (l : List UInt8) (w : World) : Prop := Lib.IsBuilder 151 5 B b (Lib.byteCells l) w ∧ l.length ≤ 1000000
theorem line_any {w : World} {B b bk c : Nat} {l : List UInt8} (xs : List ByteArray) (hbd : Bld B b l w) (hcells : ∀ (j : Nat) x, xs[j]? = some x → w.cell? ⟨bk, 0 + j, none⟩ = some (.string x)) (hbk : bk < w.heap.size) (hcap : xs.length ≤ c)
    (hx : xs.length ≤ 100) (hlen : l.length + (lineB (xs.map (·.data.toList))).length ≤ 1000000) (hBw : B ≤ w.heap.size) :
    Calls Tryz.prog 102 #[.slice (some ⟨bk, 0, none⟩) xs.length c, .pointer (some ⟨b, 0, none⟩)] w fun e w' => e = .returned (.tuple #[]) ∧ Bld B b (l ++ lineB (xs.map (·.data.toList))) w' ∧ Below B w w' := by
  have hj : (Lib.join (xs.map (·.data.toList)) [32]).length ≤ 1000000 := by
    unfold lineB at hlen
    simp at hlen
    omega
  have HL := Lib.hid hlen
  have HJ := Lib.hid (Tryz.strings_Join bk 0 c xs ⟨#[32]⟩ w hcells hbk (by omega) hcap (Nat.le_trans hj (by omega)))
  unfold lineB at HL
  unfold lineB
  generalize Lib.join (xs.map (·.data.toList)) [32] = J at *
  have HWr : Hid (∀ w2, Below w.heap.size w w2 → Calls Tryz.prog 103 #[.pointer (some ⟨b, 0, none⟩), .string (⟨J.toArray⟩ ++ ⟨#[10]⟩)] w2 fun e w' => e = .returned (.tuple #[.int .i64 (⟨J.toArray⟩ ++ ⟨#[10]⟩ : ByteArray).size, .nilIface]) ∧ (Bld B b (l ++ (J ++ [10])) w' ∧ Below B w w')) :=
    Lib.hid fun w2 hb2 => (Tryz.Builder_WriteString B b _ _ _ (builder_below hbd.1 hb2) (by
      have := HL.out
      have e : (⟨J.toArray⟩ ++ ⟨#[10]⟩ : ByteArray).size = J.length + 1 := by rw [ByteArray.size_append]; rfl
      rw [e, Lib.byteCells_length]
      simp at this
      omega) (Nat.le_trans hBw hb2.size)).mono (by
        rintro e w3 ⟨rfl, h3, hb3⟩
        refine ⟨rfl, ⟨.inr ?_, ?_⟩, (hb2.mono hBw).trans hb3⟩
        · have e : Lib.strCells (⟨J.toArray⟩ ++ ⟨#[10]⟩) = Lib.byteCells (J ++ [10]) := by
            rw [Lib.strCells_eq]
            congr 1
          rw [e, ← Lib.byteCells_append] at h3
          exact h3
        · have := HL.out
          simp at this ⊢
          omega)
  clear hcells
  go_enter Tryz.func102, Tryz.ntmps102
  go_wp2_with (first | (go_at_call 104; refine HJ.out.mono ?_; rintro e w2 ⟨rfl, hb2⟩) | (go_at_call 103; refine (HWr.out _ hb2).mono ?_; rintro e w3 ⟨rfl, hb3, hk3⟩))
  go_end0
  exact ⟨rfl, hb3, hk3⟩
end Go.Proofs.YtajdgdelhlfniaaGreatDoor
namespace Go.Proofs.YtajdgdelhlfniaaGreatDoor
open Go.RowKit

theorem spread_any {w : World} {ad : Addr} {lo hi : Int} (c : Nat) (low high : Int) (h0 : w.cell? ad = some (.int .i64 lo)) (h1 : w.cell? ⟨ad.block, ad.off + 1, none⟩ = some (.int .i64 hi)) :
    Calls Tryz.prog 117 #[.slice (some ad) 1 c, .int .i64 low, .int .i64 high] w fun e w' => e = .returned (.int .i64 (rangeErr lo hi low high)) ∧ Below w.heap.size w w' := by
  by_cases hA : inB lo low high = true
  · by_cases hB : inB hi low high = true
    · by_cases hC : hi < lo
      · have hr := Lib.hid (show rangeErr lo hi low high = 2 by unfold rangeErr; rw [if_neg (by simp [hA, hB]), if_pos hC])
        go_enter Tryz.func117, Tryz.ntmps117
        go_wp2
        go_loopw [7, 8] (fun e i wr => Qt w wr ∧ ((e = .int .i64 0 ∧ i = .int .i64 0) ∨ (e = .int .i64 2 ∧ i = .int .i64 1))) (fun _ i _ => 1 - (intOf i).toNat)
        case atStart => exact ⟨Qt.refl _, .inl ⟨rfl, rfl⟩⟩
        case round =>
          obtain ⟨hq, ⟨rfl, rfl⟩ | ⟨rfl, rfl⟩⟩ := hrel
          · have h0 := hq.cell h0
            have h1 := hq.cell h1
            go_wp2_with (go_at_call 62; refine (in_any _ _ _ _).mono ?_; rintro e w' ⟨rfl, rfl⟩)
            go_quiet (fail)
            go_wp2
            go_roundw
            case rel => exact ⟨hq.drewN _, .inr ⟨rfl, rfl⟩⟩
            case measure => simp [intOf]
          · go_wp2
            go_ret
            exact ⟨ret_int hr.out.symm, hq.below _⟩
      · have hr := Lib.hid (show rangeErr lo hi low high = 0 by unfold rangeErr; rw [if_neg (by simp [hA, hB]), if_neg hC])
        go_enter Tryz.func117, Tryz.ntmps117
        go_wp2
        go_loopw [7, 8] (fun e i wr => Qt w wr ∧ ((e = .int .i64 0 ∧ i = .int .i64 0) ∨ (e = .int .i64 0 ∧ i = .int .i64 1))) (fun _ i _ => 1 - (intOf i).toNat)
        case atStart => exact ⟨Qt.refl _, .inl ⟨rfl, rfl⟩⟩
        case round =>
          obtain ⟨hq, ⟨rfl, rfl⟩ | ⟨rfl, rfl⟩⟩ := hrel
          · have h0 := hq.cell h0
            have h1 := hq.cell h1
            go_wp2_with (go_at_call 62; refine (in_any _ _ _ _).mono ?_; rintro e w' ⟨rfl, rfl⟩)
            go_quiet (fail)
            go_wp2
            go_roundw
            case rel => exact ⟨hq.drewN _, .inr ⟨rfl, rfl⟩⟩
            case measure => simp [intOf]
          · go_wp2
            go_ret
            exact ⟨ret_int hr.out.symm, hq.below _⟩
    · have hB := Bool.eq_false_iff.2 hB
      have hr := Lib.hid (show rangeErr lo hi low high = 7 by unfold rangeErr; rw [if_pos (.inr hB)])
      go_enter Tryz.func117, Tryz.ntmps117
      go_wp2
      go_loopw [7, 8] (fun e i wr => wr = w ∧ e = .int .i64 0 ∧ i = .int .i64 0) (fun _ i _ => 1 - (intOf i).toNat)
      case atStart => exact ⟨rfl, rfl, rfl⟩
      case round =>
        obtain ⟨rfl, rfl, rfl⟩ := hrel
        go_wp2_with (go_at_call 62; refine (in_any _ _ _ _).mono ?_; rintro e w' ⟨rfl, rfl⟩)
        go_ret
        exact ⟨ret_int hr.out.symm, Below.refl _ _⟩
  · have hA := Bool.eq_false_iff.2 hA
    have hr := Lib.hid (show rangeErr lo hi low high = 7 by unfold rangeErr; rw [if_pos (.inl hA)])
    go_enter Tryz.func117, Tryz.ntmps117
    go_wp2
    go_loopw [7, 8] (fun e i wr => wr = w ∧ e = .int .i64 0 ∧ i = .int .i64 0) (fun _ i _ => 1 - (intOf i).toNat)
    case atStart => exact ⟨rfl, rfl, rfl⟩
    case round =>
      obtain ⟨rfl, rfl, rfl⟩ := hrel
      go_wp2_with (go_at_call 62; refine (in_any _ _ _ _).mono ?_; rintro e w' ⟨rfl, rfl⟩)
      go_ret
      exact ⟨ret_int hr.out.symm, Below.refl _ _⟩

theorem range_any (lo hi low high : Int) (w : World) :
    Calls Tryz.prog 94 #[.agg #[.int .i64 lo, .int .i64 hi], .int .i64 low, .int .i64 high] w fun e w' => e = .returned (.int .i64 (rangeErr lo hi low high)) ∧ Below w.heap.size w w' := by
  obtain ⟨W1, hW1, r1, z1, b1⟩ := box_any w #[.int .i64 lo, .int .i64 hi] 40
  obtain ⟨W2, hW2, r2, z2, b2⟩ := box_any W1 #[.int .i64 lo, .int .i64 hi] 40
  have c0 := cellOf r2 0 rfl
  have c1 := cellOf r2 1 rfl
  have hbb := b1.trans (b2.mono (by omega : w.heap.size ≤ W1.heap.size))
  rw [z1] at c0 c1
  have h := Lib.hid (spread_any (w := W2) 1 low high c0 c1)
  go_enter Tryz.func94, Tryz.ntmps94
  clear z1 z2 r1 r2 c0 c1 b1 b2
  go_wp2_with (go_at_call 117; rw [← hW1, ← hW2]; refine h.out.mono ?_; rintro e w' ⟨rfl, hb⟩)
  go_ret
  exact ⟨rfl, hbb.trans (hb.mono hbb.size)⟩

set_option maxHeartbeats 2000000 in
theorem note_any (iv : Int) (A : Option Addr) (n c : Nat) (vn : Value) (x : NoteR) (w : World) (hiv : 1 ≤ iv) (hn : n ≤ 1000) :
    Calls Tryz.prog 64 #[.agg #[.int .i64 iv, .slice A n c, vn], noteV x] w fun e w' => e = .returned (.int .i64 (noteErr n iv x)) ∧ Below w.heap.size w w' := by
  obtain ⟨W1, hW1, r1, z1, b1⟩ := box_any w #[.int .i64 iv, .slice A n c, vn] 25
  obtain ⟨W2, hW2, r2, z2, b2⟩ := box_any W1 #[.int .i64 x.kind, .int .i64 x.a, .int .i64 x.b, .int .i64 x.lo, .int .i64 x.hi] 69
  have hbb := b1.trans (b2.mono (by omega : w.heap.size ≤ W1.heap.size))
  have r1 := (b2.block _ (by omega)).trans r1
  rw [z1] at r2
  have s0 := cellOf r1 0 rfl
  have s1 := cellOf r1 1 rfl
  have c0 := cellOf r2 0 rfl
  have c1 := cellOf r2 1 rfl
  have c2 := cellOf r2 2 rfl
  have c3 := cellOf r2 3 rfl
  have c4 := cellOf r2 4 rfl
  have hres : noteErr n iv x = noteErr n iv x := rfl
  conv at hres => rhs; unfold noteErr
  generalize noteErr n iv x = r at *
  obtain ⟨kind, a, b, lo, hi⟩ := x
  unfold noteV
  simp only at *
  have Hbb := Lib.hid hbb
  clear hbb b1 b2 r1 r2 z2
  by_cases hk : inB kind 1 4 = false
  · rw [if_pos hk] at hres
    have HR := Lib.hid hres
    clear hres
    go_enter Tryz.func64, Tryz.ntmps64
    go_upto_region 1 with (fail)
    rw [← hW1, ← hW2]
    clear hW1 hW2
    go_wp2_with (go_at_call 62; refine (in_any _ _ _ _).mono ?_; rintro e w' ⟨rfl, rfl⟩)
    go_ret
    exact ⟨ret_int HR.out.symm, Hbb.out⟩
  rw [if_neg hk] at hres
  have hk : inB kind 1 4 = true := by simpa using hk
  have hk' := inB_iff.1 hk
  by_cases hA : inB a 0 ((n : Int) - 1) = false
  · rw [if_pos (.inl hA)] at hres
    have HR := Lib.hid hres
    clear hres hk'
    go_enter Tryz.func64, Tryz.ntmps64
    go_upto_region 1 with (fail)
    rw [← hW1, ← hW2]
    clear hW1 hW2
    go_wp2_with (go_at_call 62; refine (in_any _ _ _ _).mono ?_; rintro e w' ⟨rfl, rfl⟩)
    go_ret
    exact ⟨ret_int HR.out.symm, Hbb.out⟩
  by_cases hB : inB b 0 ((n : Int) - 1) = false
  · rw [if_pos (.inr hB)] at hres
    have hA : inB a 0 ((n : Int) - 1) = true := by simpa using hA
    have HR := Lib.hid hres
    clear hres hk'
    go_enter Tryz.func64, Tryz.ntmps64
    go_upto_region 1 with (fail)
    rw [← hW1, ← hW2]
    clear hW1 hW2
    go_wp2_with (go_at_call 62; refine (in_any _ _ _ _).mono ?_; rintro e w' ⟨rfl, rfl⟩)
    go_ret
    exact ⟨ret_int HR.out.symm, Hbb.out⟩
  rw [if_neg (by simp [hA, hB])] at hres
  have hA : inB a 0 ((n : Int) - 1) = true := by simpa using hA
  have hB : inB b 0 ((n : Int) - 1) = true := by simpa using hB
  have hz := Hbb.out.size
  rcases (show kind = 1 ∨ kind = 4 ∨ kind = 3 ∨ kind = 2 by omega) with rfl | rfl | rfl | rfl
  · by_cases hb : b = 0
    · subst hb
      simp only [Int.reduceEq, false_or, or_false, false_and, and_false, not_false_eq_true, ne_eq, not_true_eq_false, if_false, if_true, true_and] at hres
      have HR := Lib.hid hres
      have HZ := Lib.hid hz
      clear hres hk' hz
      go_enter Tryz.func64, Tryz.ntmps64
      go_upto_region 1 with (fail)
      rw [← hW1, ← hW2]
      clear hW1 hW2
      go_wp2_with (first | (go_at_call 62; refine (in_any _ _ _ _).mono ?_; rintro e w' ⟨rfl, rfl⟩) | (go_at_call 94; refine (range_any _ _ _ _ _).mono ?_; rintro e w' ⟨rfl, hb⟩))
      go_ret
      exact ⟨ret_int HR.out.symm, Hbb.out.trans (hb.mono HZ.out)⟩
    · rw [if_pos (.inr ⟨by omega, hb⟩)] at hres
      have hb : (b != 0) = true := by simpa using hb
      have HR := Lib.hid hres
      clear hres hk' hz
      go_enter Tryz.func64, Tryz.ntmps64
      go_upto_region 1 with (fail)
      rw [← hW1, ← hW2]
      clear hW1 hW2
      go_wp2_with (go_at_call 62; refine (in_any _ _ _ _).mono ?_; rintro e w' ⟨rfl, rfl⟩)
      go_ret
      exact ⟨ret_int HR.out.symm, Hbb.out⟩
  · by_cases hab : a = b
    · rw [if_pos (.inl ⟨by omega, hab⟩)] at hres
      subst hab
      have HR := Lib.hid hres
      clear hres hk' hz
      go_enter Tryz.func64, Tryz.ntmps64
      go_upto_region 1 with (fail)
      rw [← hW1, ← hW2]
      clear hW1 hW2
      go_wp2_with (go_at_call 62; refine (in_any _ _ _ _).mono ?_; rintro e w' ⟨rfl, rfl⟩)
      go_ret
      exact ⟨ret_int HR.out.symm, Hbb.out⟩
    · rw [if_neg (by simp [hab])] at hres
      have hab : (a == b) = false := by simpa using hab
      simp only [Int.reduceEq, if_false, if_true] at hres
      have HR := Lib.hid hres
      have HZ := Lib.hid hz
      clear hres hk' hz
      go_enter Tryz.func64, Tryz.ntmps64
      go_upto_region 1 with (fail)
      rw [← hW1, ← hW2]
      clear hW1 hW2
      go_wp2_with (first | (go_at_call 62; refine (in_any _ _ _ _).mono ?_; rintro e w' ⟨rfl, rfl⟩) | (go_at_call 94; refine (range_any _ _ _ _ _).mono ?_; rintro e w' ⟨rfl, hb⟩))
      go_ret
      exact ⟨ret_int HR.out.symm, Hbb.out.trans (hb.mono HZ.out)⟩
  · by_cases hab : a = b
    · rw [if_pos (.inl ⟨by omega, hab⟩)] at hres
      subst hab
      have HR := Lib.hid hres
      clear hres hk' hz
      go_enter Tryz.func64, Tryz.ntmps64
      go_upto_region 1 with (fail)
      rw [← hW1, ← hW2]
      clear hW1 hW2
      go_wp2_with (go_at_call 62; refine (in_any _ _ _ _).mono ?_; rintro e w' ⟨rfl, rfl⟩)
      go_ret
      exact ⟨ret_int HR.out.symm, Hbb.out⟩
    · rw [if_neg (by simp [hab])] at hres
      have hab : (a == b) = false := by simpa using hab
      simp only [Int.reduceEq, if_false, if_true] at hres
      have HR := Lib.hid hres
      have HZ := Lib.hid hz
      clear hres hk' hz
      go_enter Tryz.func64, Tryz.ntmps64
      go_upto_region 1 with (fail)
      rw [← hW1, ← hW2]
      clear hW1 hW2
      go_wp2_with (first | (go_at_call 62; refine (in_any _ _ _ _).mono ?_; rintro e w' ⟨rfl, rfl⟩) | (go_at_call 94; refine (range_any _ _ _ _ _).mono ?_; rintro e w' ⟨rfl, hb⟩))
      go_ret
      exact ⟨ret_int HR.out.symm, Hbb.out.trans (hb.mono HZ.out)⟩
  · by_cases hb : b = 0
    · subst hb
      simp only [Int.reduceEq, false_or, or_false, false_and, and_false, not_false_eq_true, ne_eq, not_true_eq_false, if_false, if_true, true_and] at hres
      have f0 := Aft.cell s0
      have f1 := Aft.cell c3
      have f2 := Aft.cell c4
      have e9 : IntKind.i64.wrap (Int.tdiv 9000 iv) = 9000 / iv := by
        rw [Int.tdiv_eq_ediv_of_nonneg (by omega)]
        have h1 : 9000 / iv ≤ 9000 := Int.ediv_le_self _ (by omega)
        have h2 : 0 ≤ 9000 / iv := Int.ediv_nonneg (by omega) (by omega)
        exact IntWalk.i64_in _ (by omega)
      have hne : (iv == 0) = false := by simp; omega
      generalize 9000 / iv = q at *
      have HZ := Lib.hid hz
      clear hk' hz
      have hcase : (rangeErr lo hi 0 q ≠ 0 ∧ (rangeErr lo hi 0 q == 0) = false ∧ r = rangeErr lo hi 0 q) ∨ ((rangeErr lo hi 0 q == 0) = true ∧ lo ≠ hi ∧ r = rangeErr lo hi 0 q) ∨ ((rangeErr lo hi 0 q == 0) = true ∧ lo = hi ∧ r = 2) := by
        by_cases h1 : rangeErr lo hi 0 q = 0
        · simp only [h1] at hres ⊢
          by_cases h2 : lo = hi <;> simp_all
        · simp_all
      clear hres
      go_enter Tryz.func64, Tryz.ntmps64
      go_upto_region 1 with (fail)
      rw [← hW1, ← hW2]
      clear hW1 hW2
      go_wp2_with (go_at_call 62; refine (in_any _ _ _ _).mono ?_; rintro e w' ⟨rfl, rfl⟩)
      refine wp_region_aft (by kernel_rfl) (by kernel_rfl) ?_
      repeat (first | go_big_quiet_step ((go_at_call 94; exact Aft.call (range_any _ _ _ _ _))) | quiet_step ((go_at_call 94; exact Aft.call (range_any _ _ _ _ _))))
      refine wpQuiet_nil ?_
      rintro _ ⟨⟨wx, hbx⟩, rfl⟩
      have c3 := (hbx.cell (cell_lt c3)).trans c3
      have c4 := (hbx.cell (cell_lt c4)).trans c4
      rcases hcase with ⟨_, h1, h2⟩ | ⟨h1, h2, h3⟩ | ⟨h1, h2, h3⟩
      · have HR := Lib.hid h2
        clear h2
        go_wp2
        go_ret
        exact ⟨ret_int HR.out.symm, Hbb.out.trans (hbx.mono HZ.out)⟩
      · have HR := Lib.hid h3
        have h2 : (lo == hi) = false := by simpa using h2
        clear h3
        go_wp2
        go_ret
        exact ⟨ret_int HR.out.symm, Hbb.out.trans (hbx.mono HZ.out)⟩
      · have HR := Lib.hid h3
        subst h2
        clear h3
        go_wp2
        go_ret
        exact ⟨ret_int HR.out.symm, Hbb.out.trans (hbx.mono HZ.out)⟩
    · rw [if_pos (.inr ⟨by omega, hb⟩)] at hres
      have hb : (b != 0) = true := by simpa using hb
      have HR := Lib.hid hres
      clear hres hk' hz
      go_enter Tryz.func64, Tryz.ntmps64
      go_upto_region 1 with (fail)
      rw [← hW1, ← hW2]
      clear hW1 hW2
      go_wp2_with (go_at_call 62; refine (in_any _ _ _ _).mono ?_; rintro e w' ⟨rfl, rfl⟩)
      go_ret
      exact ⟨ret_int HR.out.symm, Hbb.out⟩
end Go.Proofs.YtajdgdelhlfniaaGreatDoor
namespace Go.Proofs.YtajdgdelhlfniaaGreatDoor
open Go.RowKit

theorem in_s (a b c : Int) (w : World) : Calls Tryz.prog 62 #[.int .i64 a, .int .i64 b, .int .i64 c] w fun e w' => e = .returned (.bool (inB a b c)) ∧ w = w' := (in_any a b c w).mono fun _ _ ⟨h1, h2⟩ => ⟨h1, h2.symm⟩
theorem Rd.take {α : Type} {At : World → Addr → α → Prop} {sz B : Nat} {w : World} {A : Option Addr} {n c : Nat} {xs : List α} (h : Rd At sz B w (.slice A n c) xs) {k : Nat} (hk : k ≤ xs.length) : Rd At sz B w (.slice A k c) (xs.take k) := by
  obtain ⟨A', c', e, h1, h2, h3⟩ := h
  injection e with e e' e''
  subst e e''
  refine ⟨A, c, by rw [List.length_take, Nat.min_eq_left hk], by rw [List.length_take]; omega, h2, fun i x hx => ?_⟩
  rw [List.getElem?_take] at hx
  split at hx
  · exact h3 i x hx
  · cases hx
def checkV (s : ShR) : Value := .tuple #[.int .i64 (check s).1, .int .i64 (check s).2.1, .int .i64 (check s).2.2]
theorem checkV_eq {s : ShR} {a b c : Int} (h : check s = (a, b, c)) : checkV s = .tuple #[.int .i64 a, .int .i64 b, .int .i64 c] := by unfold checkV; rw [h]
/-- a sheet in a block of its own -/
theorem sheet_box (w : World) (iv : Int) (vp vn : Value) : ∃ W, W = w.alloc (.cells #[.int .i64 iv, vp, vn] 25) ∧ W.cell? ⟨w.heap.size, 0, none⟩ = some (.int .i64 iv) ∧ W.cell? ⟨w.heap.size, 1, none⟩ = some vp ∧ W.cell? ⟨w.heap.size, 2, none⟩ = some vn ∧
    W.heap.size = w.heap.size + 1 ∧ Below w.heap.size w W ∧ W.heap[w.heap.size]? = some (.cells #[.int .i64 iv, vp, vn] 25) := by
  have h : (w.alloc (.cells #[.int .i64 iv, vp, vn] 25)).heap[w.heap.size]? = some (.cells #[.int .i64 iv, vp, vn] 25) := heap_alloc_new w _
  exact ⟨_, rfl, (cell_of_row _ _ 0 _ _ _ h).trans rfl, (cell_of_row _ _ 1 _ _ _ h).trans rfl, (cell_of_row _ _ 2 _ _ _ h).trans rfl, by simp, (Below.refl _ _).alloc (Nat.le_refl _) _, h⟩
/-- names are not longer than strings can be -/
def Named (s : ShR) : Prop := ∀ p ∈ s.pts, p.size ≤ 9223372036854775807

set_option maxRecDepth 100000 in
set_option maxHeartbeats 4000000 in
theorem rcheck_any {B : Nat} {w : World} {v : Value} {s : ShR} (hs : RdSh B w v s) (hn : Named s) (hB : B ≤ w.heap.size) :
    Calls Tryz.prog 17 #[v] w fun e w' => e = .returned (checkV s) ∧ Below w.heap.size w w' := by
  obtain ⟨vp, vn, rfl, hp, ho⟩ := id hs
  obtain ⟨W, hW, c0, c1, c2, hz, hb, _⟩ := sheet_box w s.iv vp vn
  obtain ⟨Ap, cp, rfl, h3, h4, _⟩ := id hp
  obtain ⟨An, cn, rfl, h5, h6, _⟩ := id ho
  have hp := hp.below (hb.mono hB)
  have ho := ho.below (hb.mono hB)
  go_enter Tryz.func17, Tryz.ntmps17
  go_upto_region 1 with (fail)
  rw [← hW]
  clear hW hs
  have HN := Lib.hid hn
  have Hp := Lib.hid hp
  have Ho := Lib.hid ho
  have Hb := Lib.hid hb
  have Hz := Lib.hid hz
  clear hn hp ho hb hz h4 h5 h6
  have C0 := Lib.hid c0
  have C1 := Lib.hid c1
  have C2 := Lib.hid c2
  cases o1 : inB s.iv 1 1000 with
  | false =>
    have e := Lib.hid (checkV_eq (check_iv o1))
    go_wp2_with (go_at_call 62; refine (in_s _ _ _ _).mono ?_; rintro e wx ⟨rfl, rfl⟩)
    go_ret3
    exact ⟨by rw [e.out]; rfl, Hb.out⟩
  | true =>
  cases o2 : inB s.pts.length 1 8 with
  | false =>
    have e := Lib.hid (checkV_eq (check_len o1 o2))
    go_wp2_with (go_at_call 62; refine (in_s _ _ _ _).mono ?_; rintro e wx ⟨rfl, rfl⟩)
    go_ret3
    exact ⟨by rw [e.out]; rfl, Hb.out⟩
  | true =>
  have hiv := (inB_iff.1 o1).1
  have hl := inB_iff.1 o2
  have hl : s.pts.length ≤ 8 := by omega
  go_upto_region 5 with (go_at_call 62; refine (in_s _ _ _ _).mono ?_; rintro e wx ⟨rfl, rfl⟩)
  have O1 := Lib.hid o1
  have O2 := Lib.hid o2
  clear o1 o2 c0 c1 c2
  go_wp2
  go_loopw [5] (fun i wr => ∃ k : Nat, k ≤ s.pts.length ∧ i = .int .i64 k ∧ (∀ j, j < k → ptErr s j = 0) ∧ Qt W wr) (fun i _ => s.pts.length - (intOf i).toNat)
  case atStart => exact ⟨0, Nat.zero_le _, rfl, fun j hj => by omega, Qt.refl _⟩
  case round =>
    obtain ⟨k, hk, rfl, hno, hq⟩ := hrel
    have Hno := Lib.hid hno
    have HQ := Lib.hid hq
    have c1 := hq.cell C1.out
    clear hno
    by_cases hlt : k < s.pts.length
    · have hpq := Hp.out.qt hq
      obtain ⟨ad, rfl, _, hc⟩ := hpq.str hlt
      have hf := fun (n : Nat) => fresh_any (w := wr.drewN n) (s.pts[k]?.getD ByteArray.empty) ((hpq.qt ⟨n, rfl⟩).take hk) (HN.out _ (by rw [← List.getD_eq_getElem?_getD]; exact getD_mem hlt _))
      have he := Lib.hid (show freshErr (s.pts[k]?.getD ByteArray.empty) (s.pts.take k) = ptErr s k by unfold ptErr; rw [List.getD_eq_getElem?_getD])
      rw [he.out] at hf
      generalize s.pts[k]?.getD ByteArray.empty = x at *
      have HF := Lib.hid hf
      clear hf hpq hq
      go_wp2
      go_quiet ((go_at_call 63; exact Calls.quiet_of_same (HF.out _)))
      by_cases h0 : ptErr s k = 0
      · have h1 : (ptErr s k != 0) = false := by simp [h0]
        have H0 := Lib.hid h0
        clear h0
        go_wp2
        go_roundw
        case rel => exact ⟨k + 1, by omega, by go_num, fun j hj => by
          by_cases h : j < k
          · exact Hno.out j h
          · obtain rfl : j = k := by omega
            exact H0.out, HQ.out.drewN _⟩
        case measure => simp [intOf]; omega
      · have h1 : (ptErr s k != 0) = true := by simp [h0]
        have e := Lib.hid (checkV_eq (check_pt O1.out O2.out hlt h0 Hno.out))
        clear h0
        go_wp2
        go_ret3
        exact ⟨by rw [e.out]; rfl, Hb.out.trans ((HQ.out.drewN _).below _)⟩
    · have hk2 := Lib.hid (show k = s.pts.length by omega)
      have Hno : Hid (∀ j, j < s.pts.length → ptErr s j = 0) := Lib.hid (fun j hj => Hno.out j (by rw [hk2.out]; exact hj))
      have c2 := hq.cell C2.out
      have hbq := Hb.out.trans (hq.below _)
      have Hbq := Lib.hid hbq
      have hqz : W.heap.size ≤ wr.heap.size := (hq.below 0).size
      clear hbq
      by_cases hm : 12 < s.notes.length
      · have e := Lib.hid (checkV_eq (check_many O1.out O2.out Hno.out hm))
        go_wp2
        go_ret3
        exact ⟨by rw [e.out]; rfl, Hbq.out⟩
      go_upto_region 13 with (fail)
      go_wp2
      have c0 := hq.cell C0.out
      have Hon := Lib.hid (Ho.out.qt hq)
      have hBr : B ≤ wr.heap.size := by have := Hz.out; omega
      have hwr : w.heap.size < wr.heap.size := by have := Hz.out; omega
      have HBr := Lib.hid hBr
      have HWr := Lib.hid hwr
      clear hq hqz hBr hwr
      have D0 := Lib.hid c0
      have D1 := Lib.hid c1
      have D2 := Lib.hid c2
      clear c0 c1 c2
      obtain ⟨W2, rfl⟩ : ∃ W2 : World, W2 = wr := ⟨_, rfl⟩
      go_loopw [7] (fun i wr => ∃ k : Nat, k ≤ s.notes.length ∧ i = .int .i64 k ∧ (∀ j, j < k → noteErr s.pts.length s.iv (s.notes.getD j default) = 0) ∧ Below W2.heap.size W2 wr) (fun i _ => s.notes.length - (intOf i).toNat)
      case atStart => exact ⟨0, Nat.zero_le _, rfl, fun j hj => by omega, Below.refl _ _⟩
      case round =>
        obtain ⟨k, hk, rfl, hno2, hbr⟩ := hrel
        have Hno2 := Lib.hid hno2
        have HBR := Lib.hid hbr
        have c0 := (hbr.cell (cell_lt D0.out)).trans D0.out
        have c1 := (hbr.cell (cell_lt D1.out)).trans D1.out
        have c2 := (hbr.cell (cell_lt D2.out)).trans D2.out
        clear hno2
        by_cases hlt : k < s.notes.length
        · obtain ⟨ad, rfl, _, n0, n1, n2, n3, n4⟩ := (Hon.out.below (hbr.mono HBr.out)).note hlt
          have hgd : s.notes.getD k default = s.notes[k]?.getD default := List.getD_eq_getElem?_getD ..
          have Hx := Lib.hid hgd
          generalize s.notes[k]?.getD default = x at *
          have f0 := Aft.cell c0
          have f1 := Aft.cell c1
          have f2 := Aft.cell c2
          have g0 := Aft.cell n0
          have g1 := Aft.cell n1
          have g2 := Aft.cell n2
          have g3 := Aft.cell n3
          have g4 := Aft.cell n4
          have HF := Lib.hid (fun (W3 : World) => note_any s.iv Ap s.pts.length cp (.slice (some ad) s.notes.length cn) x W3 hiv (by omega))
          clear hgd hbr
          unfold noteV at HF
          go_wp2
          refine wp_region_aft (by kernel_rfl) (by kernel_rfl) ?_
          repeat (first | go_big_quiet_step ((go_at_call 64; exact Aft.call (HF.out _))) | quiet_step ((go_at_call 64; exact Aft.call (HF.out _))))
          refine wpQuiet_nil ?_
          rintro _ ⟨⟨wx, hbx⟩, rfl⟩
          by_cases h0 : noteErr s.pts.length s.iv x = 0
          · have h1 : (noteErr s.pts.length s.iv x != 0) = false := by simp [h0]
            have H0 := Lib.hid h0
            clear h0
            go_wp2
            go_roundw
            case rel => exact ⟨k + 1, by omega, by go_num, fun j hj => by
              by_cases h : j < k
              · exact Hno2.out j h
              · obtain rfl : j = k := by omega
                rw [Hx.out]
                exact H0.out, HBR.out.trans (hbx.mono HBR.out.size)⟩
            case measure => simp [intOf]; omega
          · have h1 : (noteErr s.pts.length s.iv x != 0) = true := by simp [h0]
            have e := Lib.hid (checkV_eq (check_note O1.out O2.out Hno.out hm hlt (by rw [Hx.out]; exact h0) Hno2.out))
            rw [Hx.out] at e
            clear h0
            go_wp2
            go_ret3
            exact ⟨by rw [e.out]; rfl, Hbq.out.trans ((HBR.out.trans (hbx.mono HBR.out.size)).mono (Nat.le_of_lt HWr.out))⟩
        · have hk2 := Lib.hid (show k = s.notes.length by omega)
          have e := Lib.hid (checkV_eq (check_none O1.out O2.out Hno.out hm (fun j hj => Hno2.out j (by rw [hk2.out]; exact hj))))
          go_wp2
          go_ret3
          exact ⟨by rw [e.out]; rfl, Hbq.out.trans (HBR.out.mono (Nat.le_of_lt HWr.out))⟩
end Go.Proofs.YtajdgdelhlfniaaGreatDoor
