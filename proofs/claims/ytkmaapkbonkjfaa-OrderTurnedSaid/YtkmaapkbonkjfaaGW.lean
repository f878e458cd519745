/- Walks of the layer order's reference: sums. Walks of the layer order's reference: hours, castings, days. Walks of the layer order's reference: the first day. Walks of the layer order: out, and the library's IndexFunc and ContainsFunc with it. Walks of the layer order: what Check asks of hours and of parts' names. -/
import Derived.Test.YtkmaapkbonkjfaaGBase
import Derived.Test.YtkmaapkbonkjfaaGPure
import Derived.Deep.CutBlock
import Derived.Deep.Cut
set_option linter.unusedSimpArgs false
set_option linter.unusedVariables false
namespace Go.Proofs.Ytkmaapkbonkjfaa
open Go.RowKit

theorem in_any (a b c : Int) (w : World) : Calls Try.prog 50 #[.int .i64 a, .int .i64 b, .int .i64 c] w fun e w' => e = .returned (.bool (inB a b c)) ∧ w' = w := by
  go_enter Try.func50, Try.ntmps50
  go_wp2
  all_goals go_ret
  all_goals exact ⟨ret_bool (by simp [inB]; omega), rfl⟩
theorem in1_any (a b c : Int) (w : World) : Calls Try.prog 91 #[.int .i64 a, .int .i64 b, .int .i64 c] w fun e w' => e = .returned (.bool (inB a b c)) ∧ w' = w := by
  go_enter Try.func91, Try.ntmps91
  go_wp2
  all_goals go_ret
  all_goals exact ⟨ret_bool (by simp [inB]; omega), rfl⟩

theorem due_any {B : Nat} {w : World} {v : Value} {l : List OrdR} (part day : Int) (hl : Rd OrdAt 4 B w v l) (hn : l.length ≤ 9) (hm : ∀ o ∈ l, 1 ≤ o.many ∧ o.many ≤ 50) :
    Calls Try.prog 84 #[v, .int .i64 part, .int .i64 day] w fun e w' => e = .returned (.int .i64 (due l part day)) ∧ w' = w := by
  have hl' := hl
  obtain ⟨A, cap, rfl, h1, h2, h3⟩ := hl'
  clear h3
  go_enter Try.func84, Try.ntmps84
  go_wp2
  go_loop [7, 8] (fun n i => ∃ k : Nat, k ≤ l.length ∧ i = .int .i64 k ∧ n = .int .i64 (due (l.take k) part day)) (fun _ i => l.length - (intOf i).toNat)
  case atStart => exact ⟨0, Nat.zero_le _, rfl, rfl⟩
  case round =>
    obtain ⟨k, hk, rfl, rfl⟩ := hrel
    by_cases hlt : k < l.length
    · obtain ⟨ad, rfl, _, h0, h1, h2, h3⟩ := hl.ord hlt
      have hs := due_snoc hlt part day default
      have hb := due_bd (l := l.take k) (fun o ho => hm o (List.mem_of_mem_take ho)) part day
      rw [List.length_take] at hb
      have hb2 := hm _ (getD_mem hlt default)
      rw [List.getD_eq_getElem?_getD] at hs hb2
      have HS := Lib.hid hs
      generalize l[k]?.getD default = o at *
      clear hs hm hl
      by_cases hp : o.part = part
      · have e1 : (o.part == part) = true := by simp [hp]
        by_cases hd : o.due ≤ day
        · have HP := Lib.hid hp
          clear hp
          go_wp2
          go_round
          case rel => exact ⟨k + 1, by omega, by go_num, by rw [HS.out, if_pos ⟨HP.out, hd⟩]⟩
          case measure => simp [intOf]; omega
        · have HP := Lib.hid hp
          clear hp
          go_wp2
          go_round
          case rel => exact ⟨k + 1, by omega, by go_num, by rw [HS.out, if_neg (by omega)]; simp⟩
          case measure => simp [intOf]; omega
      · have e1 : (o.part == part) = false := by simp [hp]
        go_wp2
        go_round
        case rel => exact ⟨k + 1, by omega, by go_num, by rw [HS.out, if_neg (by omega)]; simp⟩
        case measure => simp [intOf]; omega
    · have hk2 : k = l.length := by omega
      have HK := Lib.hid hk2
      clear hk2
      go_wp2
      go_ret
      exact ⟨ret_int (by rw [List.take_of_length_le (by omega)]), rfl⟩

end Go.Proofs.Ytkmaapkbonkjfaa
namespace Go.Proofs.Ytkmaapkbonkjfaa
open Go.RowKit

theorem worked_any {B : Nat} {w : World} {v : Value} {s : ShopR} (hs : RdShop B w v s) (hg : Good s) (d : Nat) (hd : d < s.hours.length) (hB : B ≤ w.heap.size) :
    Calls Try.prog 39 #[v, .int .i64 d] w fun e w' => e = .returned (.int .i64 (worked s d)) ∧ Below w.heap.size w w' := by
  obtain ⟨vh, vp, vo, rfl, hh, hp, ho⟩ := hs
  have hlen := hg.hlen
  go_enter Try.func39, Try.ntmps39
  go_wp2
  obtain ⟨W, hW, c0, c1, c2, hz, hb, _⟩ := shop_box w vh vp vo
  rw [← hW]
  clear hW hz
  have hh := hh.below (hb.mono hB)
  obtain ⟨A, cap, rfl, h1, h2, _⟩ := id hh
  go_loop [5, 6] (fun n i => ∃ k : Nat, k ≤ d + 1 ∧ i = .int .i64 k ∧ n = .int .i64 ((s.hours.take k).sum)) (fun _ i => d + 1 - (intOf i).toNat)
  case atStart => exact ⟨0, Nat.zero_le _, rfl, rfl⟩
  case round =>
    obtain ⟨k, hk, rfl, rfl⟩ := hrel
    by_cases hlt : k ≤ d
    · obtain ⟨ad, rfl, _, hc⟩ := hh.int (i := k) (by omega)
      have e := Lib.hid (sum_take_succ (l := s.hours) (k := k) (by omega))
      have b1 := sum_take_bd hg k (by omega)
      have b2 := hg.hour (i := k) (by omega)
      rw [List.getD_eq_getElem?_getD] at b2 e
      clear hh hp ho
      go_wp2
      go_round
      case rel => exact ⟨k + 1, by omega, by go_num, by rw [e.out]⟩
      case measure => simp [intOf]; omega
    · have hk2 := Lib.hid (show k = d + 1 by omega)
      go_wp2
      go_ret
      exact ⟨ret_int (by rw [hk2.out]; rfl), hb⟩

theorem by_any {B : Nat} {w : World} {v vl : Value} {s : ShopR} {l : List OrdR} (hs : RdShop B w v s) (hl : Rd OrdAt 4 B w vl l) (hg : Good s) (hf : Fit s l) (i : Nat) (day : Int) (hi : i < s.parts.length) (hB : B ≤ w.heap.size) :
    Calls Try.prog 58 #[v, vl, .int .i64 i, .int .i64 day] w fun e w' => e = .returned (.int .i64 (byy s l i day)) ∧ Below w.heap.size w w' := by
  obtain ⟨vh, vp, vo, rfl, hh, hp, ho⟩ := hs
  have hplen := hg.plen
  go_enter Try.func58, Try.ntmps58
  obtain ⟨W, hW, c0, c1, c2, hz, hb, _⟩ := shop_box w vh vp vo
  have hp := hp.below (hb.mono hB)
  have hl := hl.below (hb.mono hB)
  obtain ⟨A, cap, rfl, h1, h2, _⟩ := id hp
  obtain ⟨ad, rfl, _, p0, p1, p2, p3⟩ := hp.part hi
  have hpok := hg.part hi
  have hbd := hf.due_bd i day
  have hbyy : byy s l i day = need (s.parts.getD i default) (due l i day) := rfl
  rw [List.getD_eq_getElem?_getD] at hpok hbyy
  rw [hbyy]
  clear hbyy
  generalize s.parts[i]?.getD default = p at *
  go_upto_region 1 with (fail)
  rw [← hW]
  clear hW
  go_wp2
  obtain ⟨W2, hW2, hrow, hz2, hb2⟩ := box_any W #[.string p.name, .int .i64 p.batch, .int .i64 p.long, .int .i64 p.stock] 57
  rw [← hW2]
  clear hW2
  rw [hz] at hrow
  have q1 := cellOf hrow 1 rfl
  have q3 := cellOf hrow 3 rfl
  have hl := hl.below (hb2.mono (by omega : B ≤ W.heap.size))
  have hbb : Below w.heap.size w W2 := hb.trans (hb2.mono (by omega))
  clear hp ho hh c0 c1 c2 p0 p1 p2 p3 hrow hb hb2
  go_loopw [10] (fun n wr => ∃ k : Int, 0 ≤ k ∧ k ≤ 450 ∧ n = .int .i64 k ∧ (∀ j, 0 ≤ j → j < k → p.stock + j * p.batch < due l i day) ∧ Qt W2 wr) (fun n _ => 450 - (intOf n).toNat)
  case atStart => exact ⟨0, by omega, by omega, rfl, fun j h1 h2 => by omega, Qt.refl _⟩
  case round =>
    obtain ⟨k, hk0, hk, rfl, hlo, hq⟩ := hrel
    have q1 := hq.cell q1
    have q3 := hq.cell q3
    have hl := hl.qt hq
    have hlo := Lib.hid hlo
    have b0 : 0 ≤ k * p.batch := Int.mul_nonneg hk0 (by have := hpok.batch; omega)
    have b1 : k * p.batch ≤ 450 * 10 := Int.mul_le_mul hk (by have := hpok.batch; omega) (by have := hpok.batch; omega) (by omega)
    have b2 := hpok.stock
    have hlt := Lib.hid (need_le_iff hpok (n := due l i day) k hk0)
    have hle := Lib.hid (need_le hpok (n := due l i day) hbd.2)
    by_cases hc : p.stock + k * p.batch < due l i day
    · have hk2 : k < 450 := by
        have h1 := hlt.out
        have h2 := hle.out
        omega
      go_wp2
      go_quiet ((go_at_call 84; exact Calls.quiet_of_same (due_any _ _ (hl.qt ⟨_, rfl⟩) hf.len hf.many)))
      go_wp2
      go_roundw
      case rel =>
        refine ⟨k + 1, by omega, by omega, rfl, fun j h1 h2 => ?_, hq.drewN _⟩
        by_cases hj : j = k
        · subst hj; exact hc
        · exact hlo.out j h1 (by omega)
      case measure => simp [intOf]; omega
    · go_wp2
      go_quiet ((go_at_call 84; exact Calls.quiet_of_same (due_any _ _ (hl.qt ⟨_, rfl⟩) hf.len hf.many)))
      go_wp2
      go_ret
      exact ⟨ret_int (need_eq hpok hk0 hlo.out (by omega)).symm, hbb.trans ((hq.drewN _).below _)⟩
end Go.Proofs.Ytkmaapkbonkjfaa
namespace Go.Proofs.Ytkmaapkbonkjfaa
open Go.RowKit

theorem takes_any {B : Nat} {w : World} {v vl : Value} {s : ShopR} {l : List OrdR} (hs : RdShop B w v s) (hl : Rd OrdAt 4 B w vl l) (hg : Good s) (hf : Fit s l) (day : Int) (hB : B ≤ w.heap.size) :
    Calls Try.prog 81 #[v, vl, .int .i64 day] w fun e w' => e = .returned (.int .i64 (takes s l day)) ∧ Below w.heap.size w w' := by
  have hs' := hs
  obtain ⟨vh, vp, vo, rfl, hh, hp, ho⟩ := hs'
  have hplen := hg.plen
  go_enter Try.func81, Try.ntmps81
  obtain ⟨W, hW, c0, c1, c2, hz, hb, _⟩ := shop_box w vh vp vo
  have hp := hp.below (hb.mono hB)
  obtain ⟨A, cap, rfl, h1, h2, _⟩ := id hp
  go_wp2
  rw [← hW]
  have hs := hs.below (hb.mono hB)
  have hl := hl.below (hb.mono hB)
  clear hW hp hh ho
  go_loopw [7, 8] (fun n i wr => ∃ k : Nat, k ≤ s.parts.length ∧ i = .int .i64 k ∧ n = .int .i64 (takesTo s l day k) ∧ Below W.heap.size W wr) (fun _ i _ => s.parts.length - (intOf i).toNat)
  case atStart => exact ⟨0, Nat.zero_le _, rfl, rfl, Below.refl _ _⟩
  case round =>
    obtain ⟨k, hk, rfl, rfl, hbr⟩ := hrel
    have hBW : B ≤ W.heap.size := by omega
    have hBr : B ≤ wr.heap.size := by have := hbr.size; omega
    have hs := hs.below (hbr.mono hBW)
    have hl := hl.below (hbr.mono hBW)
    have c0 := (hbr.cell (cell_lt c0)).trans c0
    have c1 := (hbr.cell (cell_lt c1)).trans c1
    have c2 := (hbr.cell (cell_lt c2)).trans c2
    by_cases hlt : k < s.parts.length
    · obtain ⟨_, _, _, e, _, hp, _⟩ := id hs
      injection e with e
      simp only [Array.mk.injEq, List.cons.injEq] at e
      obtain ⟨-, rfl, -⟩ := e
      obtain ⟨ad, rfl, _, p0, p1, p2, p3⟩ := hp.part hlt
      have e := Lib.hid (takesTo_succ s l day k)
      have b1 := byy_bd hg hf hlt day
      have b2 := (hg.part hlt).long
      have b3 := takesTo_bd hg hf day (k := k) (by omega)
      have b4 : byy s l k day * (s.parts.getD k default).long ≤ 450 * 48 := Int.mul_le_mul b1.2 b2.2 (by omega) (by omega)
      have b5 : 0 ≤ byy s l k day * (s.parts.getD k default).long := Int.mul_nonneg b1.1 (by omega)
      rw [List.getD_eq_getElem?_getD] at b2 b4 b5 e
      have f0 := Aft.cell c0
      have f1 := Aft.cell c1
      have f2 := Aft.cell c2
      have f3 := Aft.cell p2
      have hsA := Lib.hid (Aft.shop hs hBr)
      have hlA := Lib.hid (Aft.rd hl hBr)
      generalize s.parts[k]?.getD default = p at *
      clear hp hs hl
      go_wp2
      refine wp_region_aft (by kernel_rfl) (by kernel_rfl) ?_
      repeat (first | go_big_quiet_step ((go_at_call 58; exact Aft.call (by_any (hsA.out _) (hlA.out _) hg hf k day hlt (Aft.le hBr _)))) | quiet_step ((go_at_call 58; exact Aft.call (by_any (hsA.out _) (hlA.out _) hg hf k day hlt (Aft.le hBr _)))))
      refine wpQuiet_nil ?_
      rintro _ ⟨⟨wx, hbx⟩, rfl⟩
      go_wp2
      go_roundw
      case rel => exact ⟨k + 1, by omega, by go_num, by rw [e.out], hbr.trans (hbx.mono hbr.size)⟩
      case measure => simp [intOf]; omega
    · have hk2 := Lib.hid (show k = s.parts.length by omega)
      go_wp2
      go_ret
      exact ⟨ret_int (by rw [hk2.out]; rfl), hb.trans (hbr.mono (by omega))⟩

def firstV (s : ShopR) (l : List OrdR) : Value :=
  match first? s l with
  | some d => .tuple #[.int .i64 d, .int .i64 (over s l d), .bool true]
  | none => .tuple #[.int .i64 0, .int .i64 0, .bool false]
theorem firstV_some {s : ShopR} {l : List OrdR} {d : Nat} (h : first? s l = some d) : firstV s l = .tuple #[.int .i64 d, .int .i64 (over s l d), .bool true] := by unfold firstV; rw [h]
theorem firstV_none {s : ShopR} {l : List OrdR} (h : first? s l = none) : firstV s l = .tuple #[.int .i64 0, .int .i64 0, .bool false] := by unfold firstV; rw [h]

theorem first_any {B : Nat} {w : World} {v vl : Value} {s : ShopR} {l : List OrdR} (hs : RdShop B w v s) (hl : Rd OrdAt 4 B w vl l) (hg : Good s) (hf : Fit s l) (hB : B ≤ w.heap.size) :
    Calls Try.prog 54 #[v, vl] w fun e w' => e = .returned (firstV s l) ∧ Below w.heap.size w w' := by
  have hs' := hs
  obtain ⟨vh, vp, vo, rfl, hh, hp, ho⟩ := hs'
  have hplen := hg.hlen
  go_enter Try.func54, Try.ntmps54
  obtain ⟨W, hW, c0, c1, c2, hz, hb, _⟩ := shop_box w vh vp vo
  obtain ⟨A, cap, rfl, h1, h2, _⟩ := id hh
  go_wp2
  rw [← hW]
  have hs := hs.below (hb.mono hB)
  have hl := hl.below (hb.mono hB)
  clear hW hp hh ho
  go_loopw [7] (fun i wr => ∃ k : Nat, k ≤ s.hours.length ∧ i = .int .i64 k ∧ (∀ j, j < k → decide (0 < over s l j) = false) ∧ Below W.heap.size W wr) (fun i _ => s.hours.length - (intOf i).toNat)
  case atStart => exact ⟨0, Nat.zero_le _, rfl, fun _ h => by omega, Below.refl _ _⟩
  case round =>
    obtain ⟨k, hk, rfl, hno, hbr⟩ := hrel
    have hBW : B ≤ W.heap.size := by omega
    have hBr : B ≤ wr.heap.size := by have := hbr.size; omega
    have hs := hs.below (hbr.mono hBW)
    have hl := hl.below (hbr.mono hBW)
    have c0 := (hbr.cell (cell_lt c0)).trans c0
    have c1 := (hbr.cell (cell_lt c1)).trans c1
    have c2 := (hbr.cell (cell_lt c2)).trans c2
    have hno := Lib.hid hno
    by_cases hlt : k < s.hours.length
    · have b1 := takes_bd hg hf (k : Int)
      have b2 := worked_bd hg hlt
      have f0 := Aft.cell c0
      have f1 := Aft.cell c1
      have f2 := Aft.cell c2
      have hsA := Lib.hid (Aft.shop hs hBr)
      have hlA := Lib.hid (Aft.rd hl hBr)
      have hov := Lib.hid (show over s l k = takes s l k - worked s k from rfl)
      clear hs hl
      go_wp2
      refine wp_region_aft (by kernel_rfl) (by kernel_rfl) ?_
      repeat (first | go_big_quiet_step ((first | (go_at_call 81; exact Aft.call (takes_any (hsA.out _) (hlA.out _) hg hf k (Aft.le hBr _))) | (go_at_call 39; exact Aft.call (worked_any (hsA.out _) hg k hlt (Aft.le hBr _))))) | quiet_step ((first | (go_at_call 81; exact Aft.call (takes_any (hsA.out _) (hlA.out _) hg hf k (Aft.le hBr _))) | (go_at_call 39; exact Aft.call (worked_any (hsA.out _) hg k hlt (Aft.le hBr _))))))
      refine wpQuiet_nil ?_
      rintro _ ⟨⟨wx, hbx⟩, rfl⟩
      by_cases hc : 0 < takes s l k - worked s k
      · go_wp2
        go_ret3
        refine ⟨?_, hb.trans ((hbr.trans (hbx.mono hbr.size)).mono (by omega))⟩
        have e : first? s l = some k := fst?_some hlt (by simp only [decide_eq_true_eq]; exact hc) hno.out
        rw [firstV_some e]
        rfl
      · go_wp2
        go_roundw
        case rel => exact ⟨k + 1, by omega, by go_num, fun j hj => by
          by_cases h : j < k
          · exact hno.out j h
          · obtain rfl : j = k := by omega
            simp only [decide_eq_false_iff_not]; exact hc, hbr.trans (hbx.mono hbr.size)⟩
        case measure => simp [intOf]; omega
    · have hk2 : k = s.hours.length := by omega
      have e : first? s l = none := fst?_none (by rw [← hk2]; exact hno.out)
      have e := Lib.hid (firstV_none e)
      clear hk2
      go_wp2
      go_ret3
      exact ⟨by rw [e.out]; rfl, hb.trans (hbr.mono (by omega))⟩

theorem can_any {B : Nat} {w : World} {v vl : Value} {s : ShopR} {l : List OrdR} (hs : RdShop B w v s) (hl : Rd OrdAt 4 B w vl l) (hg : Good s) (hf : Fit s l) (hB : B ≤ w.heap.size) :
    Calls Try.prog 62 #[v, vl] w fun e w' => e = .returned (.bool (canB s l)) ∧ Below w.heap.size w w' := by
  have hs' := hs
  obtain ⟨vh, vp, vo, rfl, hh, hp, ho⟩ := hs'
  obtain ⟨W, hW, c0, c1, c2, hz, hb, _⟩ := shop_box w vh vp vo
  have hs := hs.below (hb.mono hB)
  have hl := hl.below (hb.mono hB)
  have hB' : B ≤ W.heap.size := by omega
  clear hh hp ho
  go_enter Try.func62, Try.ntmps62
  go_upto_region 1 with (fail)
  rw [← hW]
  clear hW
  have h := Lib.hid (first_any hs hl hg hf hB')
  cases hf? : first? s l with
  | none =>
    rw [firstV_none hf?] at h
    have hf? := Lib.hid hf?
    go_wp2_with (go_at_call 54; refine h.out.mono ?_; rintro e w1 ⟨rfl, hb1⟩)
    go_ret
    exact ⟨ret_bool (by simp [canB, hf?.out]), hb.trans (hb1.mono (by omega))⟩
  | some d =>
    rw [firstV_some hf?] at h
    have hf? := Lib.hid hf?
    go_wp2_with (go_at_call 54; refine h.out.mono ?_; rintro e w1 ⟨rfl, hb1⟩)
    go_ret
    exact ⟨ret_bool (by simp [canB, hf?.out]), hb.trans (hb1.mono (by omega))⟩
end Go.Proofs.Ytkmaapkbonkjfaa
namespace Go.Proofs.Ytkmaapkbonkjfaa
open Go.RowKit

def idxOf (n : Nat) (p : Nat → Bool) : Int := match fst? n p with | some k => (k : Int) | none => -1
theorem idxOf_some {n k : Nat} {p : Nat → Bool} (h : fst? n p = some k) : idxOf n p = k := by unfold idxOf; rw [h]
theorem idxOf_none {n : Nat} {p : Nat → Bool} (h : fst? n p = none) : idxOf n p = -1 := by unfold idxOf; rw [h]
theorem idxOf_any {α : Type} (l : List α) (p : α → Bool) (q : Nat → Bool) (h : ∀ i (hi : i < l.length), q i = p l[i]) : decide (0 ≤ idxOf l.length q) = l.any p := by
  cases e : fst? l.length q with
  | some k =>
    rw [idxOf_some e]
    have := fst?_spec e
    have h2 : l.any p = true := List.any_eq_true.2 ⟨l[k]'this.1, List.getElem_mem _, by rw [← h]; exact this.2.1⟩
    rw [h2]
    simp
  | none =>
    rw [idxOf_none e]
    have h2 : l.any p = false := by
      rw [List.any_eq_false]
      intro x hx
      obtain ⟨i, hi, rfl⟩ := List.getElem_of_mem hx
      have := fst?_none_spec e i hi
      rw [h i hi] at this
      simp [this]
    rw [h2]
    simp

def outP (lo hi n : Int) : Bool := decide (n < lo) || decide (hi < n)

theorem out1_any (n lo hi : Int) (a b : Addr) (w : World) (ha : w.cell? a = some (.int .i64 lo)) (hb : w.cell? b = some (.int .i64 hi)) :
    Calls Try.prog 76 #[.int .i64 n, .pointer (some a), .pointer (some b)] w fun e w' => e = .returned (.bool (outP lo hi n)) ∧ w' = w := by
  by_cases h : n < lo
  · go_enter Try.func76, Try.ntmps76
    go_wp2
    go_ret
    exact ⟨ret_bool (by simp [outP, h]), rfl⟩
  · by_cases h2 : hi < n
    · go_enter Try.func76, Try.ntmps76
      go_wp2
      go_ret
      exact ⟨ret_bool (by simp [outP, h2]), rfl⟩
    · go_enter Try.func76, Try.ntmps76
      go_wp2
      go_ret
      exact ⟨ret_bool (by simp [outP, h, h2]), rfl⟩

theorem idxOut_any {B : Nat} {w : World} {v : Value} {xs : List Int} (lo hi : Int) (a b : Addr) (hv : Rd IntAt 1 B w v xs) (ha : w.cell? a = some (.int .i64 lo)) (hb : w.cell? b = some (.int .i64 hi)) :
    Calls Try.prog 45 #[v, .func (.func 76) #[] #[.pointer (some a), .pointer (some b)]] w fun e w' => e = .returned (.int .i64 (idxOf xs.length fun i => outP lo hi (xs[i]?.getD 0))) ∧ w' = w := by
  have hlen := hv.len
  obtain ⟨A, cap, rfl, h1, h2, _⟩ := id hv
  go_enter Try.func45, Try.ntmps45
  go_wp2
  go_loop [8] (fun i => ∃ k : Nat, k ≤ xs.length ∧ i = .int .i64 k ∧ (∀ j, j < k → outP lo hi (xs[j]?.getD 0) = false)) (fun i => xs.length - (intOf i).toNat)
  case atStart => exact ⟨0, Nat.zero_le _, rfl, fun _ h => by omega⟩
  case round =>
    obtain ⟨k, hk, rfl, hno⟩ := hrel
    have Hno := Lib.hid hno
    clear hno
    by_cases hlt : k < xs.length
    · obtain ⟨ad, rfl, _, hc⟩ := hv.int hlt
      clear hv
      by_cases ho : outP lo hi (xs[k]?.getD 0) = true
      · have hr := Lib.hid (idxOf_some (fst?_some hlt (p := fun i => outP lo hi (xs[i]?.getD 0)) ho Hno.out))
        generalize xs[k]?.getD 0 = x at ho hc
        go_wp2_with (go_at_call 76; refine (out1_any _ lo hi a b _ ha hb).mono ?_; rintro e w' ⟨rfl, rfl⟩)
        go_ret
        exact ⟨ret_int hr.out.symm, rfl⟩
      · have ho := Bool.eq_false_iff.2 ho
        have Ho := Lib.hid ho
        generalize xs[k]?.getD 0 = x at ho hc
        go_wp2_with (go_at_call 76; refine (out1_any _ lo hi a b _ ha hb).mono ?_; rintro e w' ⟨rfl, rfl⟩)
        go_round
        case rel => exact ⟨k + 1, by omega, by go_num, fun j hj => by
          by_cases h : j < k
          · exact Hno.out j h
          · obtain rfl : j = k := by omega
            exact Ho.out⟩
        case measure => simp [intOf]; omega
    · have hr := Lib.hid (idxOf_none (fst?_none (n := xs.length) (p := fun i => outP lo hi (xs[i]?.getD 0)) (fun j hj => Hno.out j (by omega))))
      clear hv
      go_wp2
      go_ret
      exact ⟨ret_int hr.out.symm, rfl⟩

theorem outB_idx (lo hi : Int) (xs : List Int) : decide (0 ≤ idxOf xs.length fun i => outP lo hi (xs[i]?.getD 0)) = outB lo hi xs :=
  idxOf_any xs (outP lo hi) _ fun i hi => by simp [List.getElem?_eq_getElem hi]

theorem contOut_any {B : Nat} {w : World} {v : Value} {xs : List Int} (lo hi : Int) (a b : Addr) (hv : Rd IntAt 1 B w v xs) (ha : w.cell? a = some (.int .i64 lo)) (hb : w.cell? b = some (.int .i64 hi)) :
    Calls Try.prog 75 #[v, .func (.func 76) #[] #[.pointer (some a), .pointer (some b)]] w fun e w' => e = .returned (.bool (outB lo hi xs)) ∧ w' = w := by
  have e := Lib.hid (outB_idx lo hi xs)
  have h := Lib.hid (idxOut_any lo hi a b hv ha hb)
  generalize (idxOf xs.length fun i => outP lo hi (xs[i]?.getD 0)) = n at *
  go_enter Try.func75, Try.ntmps75
  go_wp2_with (go_at_call 45; refine h.out.mono ?_; rintro e w' ⟨rfl, rfl⟩)
  go_ret
  exact ⟨ret_bool e.out, rfl⟩

theorem out_any {B : Nat} {w : World} {v : Value} {xs : List Int} (lo hi : Int) (hv : Rd IntAt 1 B w v xs) (hB : B ≤ w.heap.size) :
    Calls Try.prog 44 #[.int .i64 lo, .int .i64 hi, v] w fun e w' => e = .returned (.bool (outB lo hi xs)) ∧ Below w.heap.size w w' := by
  obtain ⟨W1, hW1, r1, z1, b1⟩ := box_any w #[.int .i64 lo] 3
  obtain ⟨W2, hW2, r2, z2, b2⟩ := box_any W1 #[.int .i64 hi] 3
  have c1 := (b2.cell (p := ⟨w.heap.size, 0, none⟩) (by simp; omega)).trans (cellOf r1 0 rfl)
  have c2 := cellOf r2 0 rfl
  have hv2 := hv.below ((b1.mono hB).trans (b2.mono (by omega)))
  have hbb := b1.trans (b2.mono (by omega : w.heap.size ≤ W1.heap.size))
  rw [z1] at c2
  have h := Lib.hid (contOut_any lo hi _ _ hv2 c1 c2)
  go_enter Try.func44, Try.ntmps44
  go_upto_region 1 with (fail)
  rw [← hW1, ← hW2]
  clear hW1 hW2
  go_wp2_with (go_at_call 75; refine h.out.mono ?_; rintro e w' ⟨rfl, rfl⟩)
  go_ret
  exact ⟨rfl, hbb⟩
end Go.Proofs.Ytkmaapkbonkjfaa
namespace Go.Proofs.Ytkmaapkbonkjfaa
open Go.RowKit

theorem hour1_any (n : Int) (w : World) : Calls Try.prog 46 #[.int .i64 n] w fun e w' => e = .returned (.bool (outB 0 24 [n])) ∧ Below w.heap.size w w' := by
  obtain ⟨W1, hW1, r1, z1, b1⟩ := box_any w #[.int .i64 n] 3
  have hv := Rd.one w n
  rw [← hW1] at hv
  have h := Lib.hid (out_any 0 24 hv (by omega))
  clear hv
  go_enter Try.func46, Try.ntmps46
  go_wp2_with (go_at_call 44; rw [← hW1]; refine h.out.mono ?_; rintro e w' ⟨rfl, hb⟩)
  go_ret
  exact ⟨rfl, b1.trans (hb.mono (by omega))⟩

theorem idxHour_any {B : Nat} {w : World} {v : Value} {xs : List Int} (hv : Rd IntAt 1 B w v xs) (hB : B ≤ w.heap.size) :
    Calls Try.prog 45 #[v, .func (.func 46) #[] #[]] w fun e w' => e = .returned (.int .i64 (idxOf xs.length fun i => outB 0 24 [xs[i]?.getD 0])) ∧ Below w.heap.size w w' := by
  have hlen := hv.len
  obtain ⟨A, cap, rfl, h1, h2, _⟩ := id hv
  go_enter Try.func45, Try.ntmps45
  go_wp2
  go_loopw [8] (fun i wr => ∃ k : Nat, k ≤ xs.length ∧ i = .int .i64 k ∧ (∀ j, j < k → outB 0 24 [xs[j]?.getD 0] = false) ∧ Below w.heap.size w wr) (fun i _ => xs.length - (intOf i).toNat)
  case atStart => exact ⟨0, Nat.zero_le _, rfl, fun _ h => by omega, Below.refl _ _⟩
  case round =>
    obtain ⟨k, hk, rfl, hno, hbr⟩ := hrel
    have Hno := Lib.hid hno
    have hvr := hv.below (hbr.mono hB)
    clear hno hv
    by_cases hlt : k < xs.length
    · obtain ⟨ad, rfl, _, hc⟩ := hvr.int hlt
      clear hvr
      by_cases ho : outB 0 24 [xs[k]?.getD 0] = true
      · have hr := Lib.hid (idxOf_some (fst?_some hlt (p := fun i => outB 0 24 [xs[i]?.getD 0]) ho Hno.out))
        generalize xs[k]?.getD 0 = x at ho hc
        go_wp2_with (go_at_call 46; refine (hour1_any _ _).mono ?_; rintro e w1 ⟨rfl, hb1⟩)
        go_ret
        exact ⟨ret_int hr.out.symm, hbr.trans (hb1.mono hbr.size)⟩
      · have ho := Bool.eq_false_iff.2 ho
        have Ho := Lib.hid ho
        generalize xs[k]?.getD 0 = x at ho hc
        go_wp2_with (go_at_call 46; refine (hour1_any _ _).mono ?_; rintro e w1 ⟨rfl, hb1⟩)
        go_roundw
        case rel => exact ⟨k + 1, by omega, by go_num, fun j hj => by
          by_cases h : j < k
          · exact Hno.out j h
          · obtain rfl : j = k := by omega
            exact Ho.out, hbr.trans (hb1.mono hbr.size)⟩
        case measure => simp [intOf]; omega
    · have hr := Lib.hid (idxOf_none (fst?_none (n := xs.length) (p := fun i => outB 0 24 [xs[i]?.getD 0]) (fun j hj => Hno.out j (by omega))))
      clear hvr
      go_wp2
      go_ret
      exact ⟨ret_int hr.out.symm, hbr⟩

theorem same1_any (x p : PartR) (a : Addr) (w : World) (ha : w.cell? a = some (.string p.name)) :
    Calls Try.prog 49 #[.agg #[.string x.name, .int .i64 x.batch, .int .i64 x.long, .int .i64 x.stock], .pointer (some a)] w fun e w' => e = .returned (.bool (x.name.toList == p.name.toList)) ∧ Below w.heap.size w w' := by
  obtain ⟨W1, hW1, r1, z1, b1⟩ := box_any w #[.string x.name, .int .i64 x.batch, .int .i64 x.long, .int .i64 x.stock] 57
  have c0 := cellOf r1 0 rfl
  have ca := (b1.cell (cell_lt ha)).trans ha
  go_enter Try.func49, Try.ntmps49
  go_upto_region 1 with (fail)
  rw [← hW1]
  clear hW1
  go_wp2
  go_ret
  exact ⟨rfl, b1⟩

theorem idxSame_any {B : Nat} {w : World} {v : Value} {xs : List PartR} (p : PartR) (a : Addr) (hv : Rd PartAt 4 B w v xs) (ha : w.cell? a = some (.string p.name)) (hB : B ≤ w.heap.size) :
    Calls Try.prog 77 #[v, .func (.func 49) #[] #[.pointer (some a)]] w fun e w' => e = .returned (.int .i64 (idxOf xs.length fun i => (xs[i]?.getD default).name.toList == p.name.toList)) ∧ Below w.heap.size w w' := by
  have hlen := hv.len
  obtain ⟨A, cap, rfl, h1, h2, _⟩ := id hv
  go_enter Try.func77, Try.ntmps77
  go_wp2
  go_loopw [8] (fun i wr => ∃ k : Nat, k ≤ xs.length ∧ i = .int .i64 k ∧ (∀ j, j < k → ((xs[j]?.getD default).name.toList == p.name.toList) = false) ∧ Below w.heap.size w wr) (fun i _ => xs.length - (intOf i).toNat)
  case atStart => exact ⟨0, Nat.zero_le _, rfl, fun _ h => by omega, Below.refl _ _⟩
  case round =>
    obtain ⟨k, hk, rfl, hno, hbr⟩ := hrel
    have Hno := Lib.hid hno
    have hvr := hv.below (hbr.mono hB)
    have har := (hbr.cell (cell_lt ha)).trans ha
    clear hno hv
    by_cases hlt : k < xs.length
    · obtain ⟨ad, rfl, _, p0, p1, p2, p3⟩ := hvr.part hlt
      clear hvr
      by_cases ho : ((xs[k]?.getD default).name.toList == p.name.toList) = true
      · have hr := Lib.hid (idxOf_some (fst?_some hlt (p := fun i => (xs[i]?.getD default).name.toList == p.name.toList) ho Hno.out))
        generalize xs[k]?.getD default = x at ho p0 p1 p2 p3
        go_wp2_with (go_at_call 49; refine (same1_any x p a _ har).mono ?_; rintro e w1 ⟨rfl, hb1⟩)
        go_ret
        exact ⟨ret_int hr.out.symm, hbr.trans (hb1.mono hbr.size)⟩
      · have ho := Bool.eq_false_iff.2 ho
        have Ho := Lib.hid ho
        generalize xs[k]?.getD default = x at ho p0 p1 p2 p3
        go_wp2_with (go_at_call 49; refine (same1_any x p a _ har).mono ?_; rintro e w1 ⟨rfl, hb1⟩)
        go_roundw
        case rel => exact ⟨k + 1, by omega, by go_num, fun j hj => by
          by_cases h : j < k
          · exact Hno.out j h
          · obtain rfl : j = k := by omega
            exact Ho.out, hbr.trans (hb1.mono hbr.size)⟩
        case measure => simp [intOf]; omega
    · have hr := Lib.hid (idxOf_none (fst?_none (n := xs.length) (p := fun i => (xs[i]?.getD default).name.toList == p.name.toList) (fun j hj => Hno.out j (by omega))))
      clear hvr
      go_wp2
      go_ret
      exact ⟨ret_int hr.out.symm, hbr⟩

theorem contSame_any {B : Nat} {w : World} {v : Value} {xs : List PartR} (p : PartR) (a : Addr) (hv : Rd PartAt 4 B w v xs) (ha : w.cell? a = some (.string p.name)) (hB : B ≤ w.heap.size) :
    Calls Try.prog 48 #[v, .func (.func 49) #[] #[.pointer (some a)]] w fun e w' => e = .returned (.bool (xs.any fun x => x.name.toList == p.name.toList)) ∧ Below w.heap.size w w' := by
  have e := Lib.hid (idxOf_any xs (fun x => x.name.toList == p.name.toList) (fun i => (xs[i]?.getD default).name.toList == p.name.toList) fun i hi => by simp [List.getElem?_eq_getElem hi])
  have h := Lib.hid (idxSame_any p a hv ha hB)
  generalize (idxOf xs.length fun i => (xs[i]?.getD default).name.toList == p.name.toList) = n at *
  go_enter Try.func48, Try.ntmps48
  go_wp2_with (go_at_call 77; refine h.out.mono ?_; rintro e w' ⟨rfl, hb⟩)
  go_ret
  exact ⟨ret_bool e.out, hb⟩
end Go.Proofs.Ytkmaapkbonkjfaa
