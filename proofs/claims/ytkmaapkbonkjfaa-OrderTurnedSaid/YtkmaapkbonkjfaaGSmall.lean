/- Walks of the layer order: Ints, Same, cast, Shop. The examples of the layer order, computed. -/
import Derived.Test.YtkmaapkbonkjfaaGSort
import Derived.Test.YtkmaapkbonkjfaaGPlan
import Derived.KernelRfl
set_option linter.unusedSimpArgs false
set_option linter.unusedVariables false
namespace Go.Proofs.Ytkmaapkbonkjfaa
open Go.RowKit

theorem ints_any {B B' : Nat} {w : World} {v v' : Value} {xs ys : List Int} (hx : Rd IntAt 1 B w v xs) (hy : Rd IntAt 1 B' w v' ys) (_hn : xs.length ≤ 1000000) :
    Calls Try.prog 22 #[v, v'] w fun e w' => e = .returned (.bool (xs == ys)) ∧ Qt w w' := by
  obtain ⟨A, c, rfl, _⟩ := id hx
  obtain ⟨A', c', rfl, _⟩ := id hy
  by_cases hlen : xs.length = ys.length
  · have hne : ((xs.length : Int) != (ys.length : Int)) = false := by simp [hlen]
    have Hl := Lib.hid hlen
    clear hlen
    go_enter Try.func22, Try.ntmps22
    go_wp2
    go_loopw [5] (fun i wr => ∃ k : Nat, k ≤ xs.length ∧ i = .int .i64 k ∧ (∀ j, j < k → xs[j]? = ys[j]?) ∧ Qt w wr) (fun i _ => xs.length - (intOf i).toNat)
    case atStart => exact ⟨0, Nat.zero_le _, rfl, fun j hj => by omega, Qt.refl _⟩
    case round =>
      obtain ⟨k, hk, rfl, hall, hq⟩ := hrel
      by_cases h1 : k < xs.length
      · obtain ⟨ad, rfl, _, d0⟩ := (hx.qt hq).int h1
        have hl := Hl.out
        obtain ⟨ad', rfl, _, d1⟩ := (hy.qt hq).int (i := k) (by omega)
        have hk2 : k < ys.length := by omega
        clear hl
        have HA := Lib.hid hall
        have HQ := Lib.hid hq
        have Hx := Lib.hid (show xs[k]? = some (xs[k]?.getD 0) by simp [h1])
        have Hy := Lib.hid (show ys[k]? = some (ys[k]?.getD 0) by simp [hk2])
        clear hall hq
        generalize xs[k]?.getD 0 = x at *
        generalize ys[k]?.getD 0 = y at *
        by_cases hxy : x = y
        · have hb : (x != y) = false := by simp [hxy]
          have Hxy := Lib.hid hxy
          clear hxy
          go_wp2
          go_quiet (fail)
          go_wp2
          go_roundw
          case rel => exact ⟨k + 1, by omega, by go_num, fun j hj => by
            by_cases hjk : j < k
            · exact HA.out j hjk
            · obtain rfl : j = k := by omega
              rw [Hx.out, Hy.out, Hxy.out], HQ.out.drewN _⟩
          case measure => simp [intOf]; omega
        · have hb : (x != y) = true := by simpa using hxy
          have Hxy := Lib.hid hxy
          clear hxy
          go_wp2
          go_quiet (fail)
          go_wp2
          go_ret
          refine ⟨ret_bool ?_, HQ.out.drewN _⟩
          symm
          rw [beq_eq_false_iff_ne]
          intro e
          rw [e] at Hx
          exact Hxy.out (Option.some.inj (Hx.out.symm.trans Hy.out))
      · have hkk : k = xs.length := by omega
        subst hkk
        have HA := Lib.hid hall
        have HQ := Lib.hid hq
        clear hall hq
        go_wp2
        go_ret
        refine ⟨ret_bool ?_, HQ.out⟩
        symm
        rw [beq_iff_eq]
        apply List.ext_getElem?
        intro j
        by_cases hj : j < xs.length
        · exact HA.out j hj
        · have := Hl.out
          rw [List.getElem?_eq_none (by omega), List.getElem?_eq_none (by omega)]
  · have hne : ((xs.length : Int) != (ys.length : Int)) = true := by simpa using fun h => hlen (by exact_mod_cast h)
    have hf : (xs == ys) = false := by rw [beq_eq_false_iff_ne]; intro e; exact hlen (by rw [e])
    have Hf := Lib.hid hf
    clear hf hlen
    go_enter Try.func22, Try.ntmps22
    go_wp2
    go_ret
    exact ⟨ret_bool Hf.out.symm, Qt.refl _⟩

theorem castAt_at {B : Nat} {w : World} {A : Option Addr} {cap : Nat} {xs : List (Int × Int)} (h : Rd CastAt 2 B w (.slice A xs.length cap) xs) {i : Nat} (hi : i < xs.length) :
    ∃ ad, A = some ad ∧ w.cell? (ad.add (i * 2)) = some (.int .i64 (xs[i]?.getD default).1) ∧ w.cell? ⟨(ad.add (i * 2)).block, (ad.add (i * 2)).off + 1, none⟩ = some (.int .i64 (xs[i]?.getD default).2) := by
  obtain ⟨ad, rfl, _⟩ := h.cast hi
  obtain ⟨h1, h2⟩ := cmpAt h hi
  exact ⟨ad, rfl, h1, h2⟩

theorem same_any {B B' : Nat} {w : World} {v v' : Value} {xs ys : List (Int × Int)} (hx : Rd CastAt 2 B w v xs) (hy : Rd CastAt 2 B' w v' ys) (_hn : xs.length ≤ 1000000) :
    Calls Try.prog 26 #[v, v'] w fun e w' => e = .returned (.bool (xs == ys)) ∧ Qt w w' := by
  obtain ⟨A, c, rfl, _⟩ := id hx
  obtain ⟨A', c', rfl, _⟩ := id hy
  by_cases hlen : xs.length = ys.length
  · have hne : ((xs.length : Int) != (ys.length : Int)) = false := by simp [hlen]
    have Hl := Lib.hid hlen
    clear hlen
    go_enter Try.func26, Try.ntmps26
    go_wp2
    go_loopw [5] (fun i wr => ∃ k : Nat, k ≤ xs.length ∧ i = .int .i64 k ∧ (∀ j, j < k → xs[j]? = ys[j]?) ∧ Qt w wr) (fun i _ => xs.length - (intOf i).toNat)
    case atStart => exact ⟨0, Nat.zero_le _, rfl, fun j hj => by omega, Qt.refl _⟩
    case round =>
      obtain ⟨k, hk, rfl, hall, hq⟩ := hrel
      by_cases h1 : k < xs.length
      · obtain ⟨ad, rfl, d0, d1⟩ := castAt_at (hx.qt hq) h1
        have hl := Hl.out
        obtain ⟨ad', rfl, e0, e1⟩ := castAt_at (hy.qt hq) (i := k) (by omega)
        have hk2 : k < ys.length := by omega
        clear hl
        have HA := Lib.hid hall
        have HQ := Lib.hid hq
        have Hx := Lib.hid (show xs[k]? = some (xs[k]?.getD default) by simp [h1])
        have Hy := Lib.hid (show ys[k]? = some (ys[k]?.getD default) by simp [hk2])
        clear hall hq
        generalize xs[k]?.getD default = x at *
        generalize ys[k]?.getD default = y at *
        obtain ⟨x1, x2⟩ := x
        obtain ⟨y1, y2⟩ := y
        simp only at d0 d1 e0 e1
        by_cases hxy : x1 = y1 ∧ x2 = y2
        · obtain ⟨g1, g2⟩ := hxy
          have hb : (x1 == y1) = true := by simp [g1]
          have hb2 : (x2 == y2) = true := by simp [g2]
          have G1 := Lib.hid g1
          have G2 := Lib.hid g2
          clear g1 g2
          go_wp2
          go_quiet (fail)
          go_wp2
          go_roundw
          case rel => exact ⟨k + 1, by omega, by go_num, fun j hj => by
            by_cases hjk : j < k
            · exact HA.out j hjk
            · obtain rfl : j = k := by omega
              rw [Hx.out, Hy.out, G1.out, G2.out], HQ.out.drewN _⟩
          case measure => simp [intOf]; omega
        · have hne2 : ¬ (x1, x2) = (y1, y2) := by simpa using hxy
          have Hne2 := Lib.hid hne2
          clear hne2
          by_cases g1 : x1 = y1
          · have g2 : ¬ x2 = y2 := fun h => hxy ⟨g1, h⟩
            have hb : (x1 == y1) = true := by simp [g1]
            have hb2 : (x2 == y2) = false := by simp [g2]
            clear hxy g1 g2
            go_wp2
            go_quiet (fail)
            go_wp2
            go_ret
            refine ⟨ret_bool ?_, HQ.out.drewN _⟩
            symm
            rw [beq_eq_false_iff_ne]
            intro e
            rw [e] at Hx
            exact Hne2.out (Option.some.inj (Hx.out.symm.trans Hy.out))
          · have hb : (x1 == y1) = false := by simp [g1]
            clear hxy g1
            go_wp2
            go_quiet (fail)
            go_wp2
            go_ret
            refine ⟨ret_bool ?_, HQ.out.drewN _⟩
            symm
            rw [beq_eq_false_iff_ne]
            intro e
            rw [e] at Hx
            exact Hne2.out (Option.some.inj (Hx.out.symm.trans Hy.out))
      · have hkk : k = xs.length := by omega
        subst hkk
        have HA := Lib.hid hall
        have HQ := Lib.hid hq
        clear hall hq
        go_wp2
        go_ret
        refine ⟨ret_bool ?_, HQ.out⟩
        symm
        rw [beq_iff_eq]
        apply List.ext_getElem?
        intro j
        by_cases hj : j < xs.length
        · exact HA.out j hj
        · have := Hl.out
          rw [List.getElem?_eq_none (by omega), List.getElem?_eq_none (by omega)]
  · have hne : ((xs.length : Int) != (ys.length : Int)) = true := by simpa using fun h => hlen (by exact_mod_cast h)
    have hf : (xs == ys) = false := by rw [beq_eq_false_iff_ne]; intro e; exact hlen (by rw [e])
    have Hf := Lib.hid hf
    clear hf hlen
    go_enter Try.func26, Try.ntmps26
    go_wp2
    go_ret
    exact ⟨ret_bool Hf.out.symm, Qt.refl _⟩

theorem cast_any (a b : Int) (w : World) : Calls Try.prog 59 #[.int .i64 a, .int .i64 b] w fun e w' => e = .returned (.agg #[.int .i64 a, .int .i64 b]) ∧ Below w.heap.size w w' := by
  go_enter Try.func59, Try.ntmps59
  go_wp2
  exact bodyPost_ret (v := .agg #[.int .i64 a, .int .i64 b]) (by simp [results, Try.results59, go_sem]) rfl ⟨rfl, (Below.refl _ _).alloc (Nat.le_refl _) _⟩

/-- the shop of the examples -/
def shopX : ShopR := ⟨[8, 8, 0, 8, 8], [⟨⟨#[104, 105, 108, 108]⟩, 4, 6, 1⟩, ⟨⟨#[118, 97, 108, 101]⟩, 2, 5, 0⟩], [⟨0, 5, 1, 100⟩, ⟨1, 2, 1, 40⟩, ⟨1, 3, 4, 70⟩, ⟨0, 9, 3, 110⟩]⟩
theorem own_lit {α : Type} {At : World → Addr → α → Prop} {sz : Nat} [E : Enc α At sz] {w : World} {b : Nat} {e : TypeId} (xs : List α) (hn : xs.length ≤ 1000) (h : w.heap[b]? = some (.cells (xs.flatMap E.enc).toArray e)) :
    Own b e w (.slice (some ⟨b, 0, none⟩) xs.length xs.length) xs := by
  refine ⟨flat_len xs, .inr ⟨b, xs.length, (xs.flatMap E.enc).toArray, rfl, Nat.le_refl _, h, Nat.le_refl _, by unfold maxLen; omega, by simp only [List.size_toArray]; rw [flat_len], List.take_of_length_le (by show (xs.flatMap E.enc).length ≤ _; rw [flat_len]; exact Nat.le_refl _)⟩⟩
theorem shop_any (w : World) : Calls Try.prog 35 #[] w fun e w' => ∃ a b c, e = .returned (.agg #[.slice (some a) 5 5, .slice (some b) 2 2, .slice (some c) 4 4]) ∧ RdShop w'.heap.size w' (.agg #[.slice (some a) 5 5, .slice (some b) 2 2, .slice (some c) 4 4]) shopX ∧ Below w.heap.size w w' := by
  obtain ⟨W0, hW0, r0, z0, b0⟩ := box_any w #[.slice (some ⟨w.heap.size + 1, 0, none⟩) 5 5, .slice (some ⟨w.heap.size + 1 + 1, 0, none⟩) 2 2, .slice (some ⟨w.heap.size + 1 + 1 + 1, 0, none⟩) 4 4] 26
  obtain ⟨W1, hW1, r1, z1, b1⟩ := box_any W0 #[.int .i64 8, .int .i64 8, .int .i64 0, .int .i64 8, .int .i64 8] 3
  obtain ⟨W2, hW2, r2, z2, b2⟩ := box_any W1 #[.string ⟨#[104, 105, 108, 108]⟩, .int .i64 4, .int .i64 6, .int .i64 1, .string ⟨#[118, 97, 108, 101]⟩, .int .i64 2, .int .i64 5, .int .i64 0] 57
  obtain ⟨W3, hW3, r3, z3, b3⟩ := box_any W2 #[.int .i64 0, .int .i64 5, .int .i64 1, .int .i64 100, .int .i64 1, .int .i64 2, .int .i64 1, .int .i64 40, .int .i64 1, .int .i64 3, .int .i64 4, .int .i64 70, .int .i64 0, .int .i64 9, .int .i64 3, .int .i64 110] 60
  have hb : Below w.heap.size w W3 := b0.trans ((b1.mono (by omega)).trans ((b2.mono (by omega)).trans (b3.mono (by omega))))
  have R0 := Lib.hid ((b3.block _ (by omega)).trans ((b2.block _ (by omega)).trans ((b1.block _ (by omega)).trans r0)))
  have R1 := Lib.hid ((b3.block _ (by omega)).trans ((b2.block _ (by omega)).trans r1))
  have R2 := Lib.hid ((b3.block _ (by omega)).trans r2)
  have R3 := Lib.hid r3
  have Hb := Lib.hid hb
  have Hz := Lib.hid (show W0.heap.size = w.heap.size + 1 ∧ W1.heap.size = w.heap.size + 1 + 1 ∧ W2.heap.size = w.heap.size + 1 + 1 + 1 ∧ W3.heap.size = w.heap.size + 1 + 1 + 1 + 1 by omega)
  clear r0 r1 r2 r3 z0 z1 z2 z3 b0 b1 b2 b3 hb
  go_enter Try.func35, Try.ntmps35
  go_wp2
  rw [← hW0, ← hW1, ← hW2, ← hW3]
  clear hW0 hW1 hW2 hW3
  have c0 := cellOf R0.out 0 rfl
  have c1 := cellOf R0.out 1 rfl
  have c2 := cellOf R0.out 2 rfl
  refine bodyPost_ret (v := .agg #[.slice (some ⟨w.heap.size + 1, 0, none⟩) 5 5, .slice (some ⟨w.heap.size + 1 + 1, 0, none⟩) 2 2, .slice (some ⟨w.heap.size + 1 + 1 + 1, 0, none⟩) 4 4]) (by simp [results, Try.results35, go_sem, c0, c1, c2]) rfl ⟨_, _, _, rfl, ⟨_, _, _, rfl, ?_, ?_, ?_⟩, Hb.out⟩
  · have := R1.out
    rw [Hz.out.1] at this
    exact ((own_lit (α := Int) [8, 8, 0, 8, 8] (by simp) this).rd)
  · have := R2.out
    rw [Hz.out.2.1] at this
    exact ((own_lit (α := PartR) shopX.parts (by simp [shopX]) this).rd)
  · have := R3.out
    rw [Hz.out.2.2.1] at this
    exact ((own_lit (α := OrdR) shopX.orders (by simp [shopX]) this).rd)
end Go.Proofs.Ytkmaapkbonkjfaa
namespace Go.Proofs.Ytkmaapkbonkjfaa

theorem xv_err : errOf shopX = 0 := by kernel_rfl
theorem xl_0123 : lateF shopX [0, 1, 2, 3] = (3, 5, 0) := by kernel_rfl
theorem xn_012 : neededF shopX [0, 1, 2] = ([1, 3], 0) := by kernel_rfl
theorem xp_012 : planF shopX [0, 1, 2] = ([(0, 0), (1, 1), (1, 1), (1, 3)], 0) := by kernel_rfl
theorem xk_012_1 : keptF shopX [0, 1, 2] 1 = ([0, 2, 2, 4, 1], 0) := by kernel_rfl
theorem xd_123_1_3 : promiseF shopX [1, 2, 3] 1 3 = (4, 0) := by kernel_rfl
theorem xd_123_0_3 : promiseF shopX [1, 2, 3] 0 3 = (0, 9) := by kernel_rfl
theorem xb : bestF shopX = ([1, 2, 3], 220, 0) := by kernel_rfl
theorem xc_1 : costsF shopX 1 = (30, 0) := by kernel_rfl
theorem xl_01 : lateF shopX [0, 1] = (0, 0, 4) := by kernel_rfl
theorem xl_023 : lateF shopX [0, 2, 3] = (4, 2, 0) := by kernel_rfl
theorem xk_012_0 : keptF shopX [0, 1, 2] 0 = ([5, 0, 0, 0, 0], 0) := by kernel_rfl
theorem xd_123_1_2 : promiseF shopX [1, 2, 3] 1 2 = (0, 0) := by kernel_rfl
theorem xc_0 : costsF shopX 0 = (110, 0) := by kernel_rfl
theorem xc_2 : costsF shopX 2 = (60, 0) := by kernel_rfl
theorem xc_3 : costsF shopX 3 = (100, 0) := by kernel_rfl
end Go.Proofs.Ytkmaapkbonkjfaa
