/- Walks of the layer sheet: Wider. -/
import Derived.Test.YtajdgdelhlfniaaGreatDoorGAll
import Derived.Test.YtajdgdelhlfniaaGreatDoorGEqs
import Derived.WalkMore
import Derived.WalkKit
import Derived.Deep.Quiet
set_option linter.unusedSimpArgs false
set_option linter.unusedVariables false
namespace Go.Proofs.YtajdgdelhlfniaaGreatDoor
open Go.RowKit

theorem guard_mat (x y : Operand) (b c : Mat) (w : World) : (eqGuard .neq 93 x y (.agg (matC b)) (.agg (matC c))).run Tryz.prog w = .ok () w := run_eqGuard_agg w .neq 93 x y _ _ (by kernel_rfl)
theorem wpList_neq_mat {ops : Array Oper} {rest : List Oper} {o : Oper} {a : Act} {w : World} {Q : Exit → Act → World → Prop} (hgd : o.guard = none) (x y : Operand) (T : TypeId) (ho : o.op = .binOp .neq 93 x y T)
    {b c : Mat} (hx : a.eval x = .agg (matC b)) (hy : a.eval y = .agg (matC c)) (h : wpList Tryz.prog ops Q rest (a.put o.dst (.bool (!matEq b c))) w) : wpList Tryz.prog ops Q (o :: rest) a w := by
  refine wpList_plain hgd fun K hK => ?_
  unfold Oper.wp execOp
  simp only [ho, hx, hy, Sem.run_bind, Sem.run_pure, guard_mat, run_neq_mat, Result.andThen_ok]
  exact hK _ _ h

/-- n is the least by which all notes have to be wider, as far as is looked at -/
structure IsWider (s : ShR) (n : Int) : Prop where
  ge : 0 ≤ n
  le : n ≤ 9000
  yes : n = 9000 ∨ (boundsF s n).2 = true
  no : n = 0 ∨ (boundsF s (n - 1)).2 = false
def WiderRes (s : ShR) (w : World) (e : Ending) (w' : World) : Prop := ∃ n, e = .returned (.tuple #[.int .i64 n, .int .i64 (errOf s)]) ∧ (errOf s ≠ 0 → n = 0) ∧ (errOf s = 0 → IsWider s n) ∧ Below w.heap.size w w'

set_option maxRecDepth 100000 in
set_option maxHeartbeats 4000000 in
theorem wider_any {B : Nat} {w : World} {v : Value} {s : ShR} (hs : RdSh B w v s) (hn : Named s) (hB : B ≤ w.heap.size) :
    Calls Tryz.prog 35 #[v] w (WiderRes s w) := by
  obtain ⟨vp, vn, rfl, hp, ho⟩ := id hs
  obtain ⟨An, cn, rfl, h5, h6, _⟩ := id ho
  obtain ⟨W1, hW1, r1, z1, d1⟩ := box_any w #[.int .i64 s.iv, vp, .slice An s.notes.length cn] 25
  have HB1 := Lib.hid d1
  have HR1 := Lib.hid r1
  have HC := Lib.hid (pcheck_any (w := W1) (hs.below (d1.mono hB)) hn (Nat.le_trans hB d1.size))
  have HS := Lib.hid hs
  have q0 := cellOf r1 0 rfl
  have q1 := cellOf r1 1 rfl
  have q2 := cellOf r1 2 rfl
  unfold checkV at HC
  have heo : errOf s = (check s).2.2 := rfl
  rw [← heo] at HC
  generalize (check s).1 = e1 at *
  generalize (check s).2.1 = e2 at *
  clear heo hp ho hs r1 z1 d1 h5 h6
  by_cases he : errOf s = 0
  · have hne : (errOf s != 0) = false := by simp [he]
    have hg := good_of_valid he
    have hnl := hg.nlen
    have hpl := hg.plen.2
    have HG := Lib.hid hg
    have HE := Lib.hid he
    clear he hg
    go_enter Tryz.func35, Tryz.ntmps35
    go_upto_region 1 with (fail)
    rw [← hW1]
    clear hW1
    go_step3
    go_wp2_with (go_at_call 16; refine HC.out.mono ?_; rintro e w3 ⟨rfl, hb3⟩)
    have HB3 := Lib.hid (HB1.out.trans (hb3.mono HB1.out.size))
    have HK3 := Lib.hid ((hb3.block _ (lt_of_block HR1.out)).trans HR1.out)
    clear hb3 q0 q1 q2
    go_step3
    go_wp2
    go_loopw [7, 8] (fun a b wr => ∃ lo hi : Int, a = .int .i64 lo ∧ b = .int .i64 hi ∧ -1 ≤ lo ∧ lo < hi ∧ hi ≤ 9000 ∧ (lo = -1 ∨ (boundsF s lo).2 = false) ∧ (hi = 9000 ∨ (boundsF s hi).2 = true) ∧ Below w3.heap.size w3 wr) (fun a b _ => (intOf b - intOf a).toNat)
    case atStart => exact ⟨-1, 9000, rfl, rfl, by omega, by omega, by omega, .inl rfl, .inl rfl, Below.refl _ _⟩
    case round =>
      obtain ⟨lo, hi, rfl, rfl, h1, h2, h3, hlo, hhi, hbr⟩ := hrel
      have HLo := Lib.hid hlo
      have HHi := Lib.hid hhi
      have Hbr := Lib.hid hbr
      have hkr := (hbr.block _ (lt_of_block HK3.out)).trans HK3.out
      have HKr := Lib.hid hkr
      have hwz : w.heap.size < wr.heap.size := lt_of_block hkr
      clear hlo hhi hbr hkr
      by_cases hgt : 1 < hi - lo
      · have hmid : (lo + hi).tdiv 2 = (lo + hi) / 2 := Int.tdiv_eq_ediv_of_nonneg (by omega)
        obtain ⟨mid, hm⟩ : ∃ mid, mid = (lo + hi) / 2 := ⟨_, rfl⟩
        have m1 : lo < mid := by omega
        have m2 : mid < hi := by omega
        have m3 : 0 ≤ mid := by omega
        have m4 : mid ≤ 9000 := by omega
        have HMid := Lib.hid hm
        clear hm
        go_upto_region 7 with (fail)
        rw [← HMid.out]
        clear hmid
        go_upto_region 8 with (first | (go_at_call 76; refine (free_any _).mono ?_; rintro e w4 ⟨rfl, hb4⟩) | (refine wpList_alloc_mat rfl rfl ?_; intro w5 hw5 hm5 hb5 hz5) | (refine wpList_store_mat rfl _ _ rfl rfl rfl hm5 ?_; intro w6 hm6 hg6))
        have hg6 : w5.grownBy w6 (some w4.heap.size) := hg6
        have hm6 : MatAt w6 w4.heap.size 93 freeM := hm6
        have z4 := hb4.size
        have z5 := hb5.size
        have hb6 : Below wr.heap.size wr w6 := hb4.trans ((hb5.mono z4).trans (grown_below hg6 z4 (by omega)))
        have k6 := (hb6.block _ hwz).trans HKr.out
        have q2 := cellOf k6 2 rfl
        have HM6 := Lib.hid hm6
        have HB6 := Lib.hid hb6
        have HZ4 := Lib.hid z4
        clear hb4 hw5 hm5 hb5 hz5 hm6 hg6 hb6 k6 z4 z5
        go_wp2
        clear q2
        obtain ⟨wo, rfl⟩ : ∃ wo : World, wo = wr := ⟨_, rfl⟩
        go_loopw [7, 35] (fun a i wi => ∃ k : Nat, k ≤ s.notes.length ∧ i = .int .i64 k ∧ a = .int .i64 lo ∧ (allM s.iv mid (s.notes.take k) freeM).2 = true ∧ MatAt wi w4.heap.size 93 (allM s.iv mid (s.notes.take k) freeM).1 ∧ Below wo.heap.size wo wi) (fun _ i _ => s.notes.length - (intOf i).toNat)
        case atStart => exact ⟨0, Nat.zero_le _, rfl, rfl, rfl, HM6.out, HB6.out⟩
        case round =>
          obtain ⟨k, hk, rfl, rfl, hok, hm, hbi⟩ := hrel
          have HOK := Lib.hid hok
          have HM := Lib.hid hm
          have HBi := Lib.hid hbi
          have hki := (hbi.block _ hwz).trans HKr.out
          by_cases hlt : k < s.notes.length
          · have q0 := cellOf hki 0 rfl
            have q1 := cellOf hki 1 rfl
            have q2 := cellOf hki 2 rfl
            have hfine := allM_fine (iv := s.iv) (wd := mid) HG.out.plen.2 (l := s.notes.take k) (fun x hx => HG.out.notes x (List.mem_of_mem_take hx)) free_fine
            have hcall := with_any (w := wr) (b := (allM s.iv mid (s.notes.take k) freeM).1) (i := k) (HS.out.below ((HB3.out.trans ((Hbr.out.trans (hbi.mono Hbr.out.size)).mono HB3.out.size)).mono hB)) HG.out hlt hfine ⟨m3, m4⟩ (by have := HB3.out.size; have := Hbr.out.size; have := hbi.size; omega)
            rw [← allM_take hlt hok] at hcall
            have HCl := Lib.hid hcall
            clear hfine hcall hok hbi hki
            generalize hcur : (allM s.iv mid (s.notes.take k) freeM).1 = cur at *
            clear hcur
            cases hnx : (allM s.iv mid (s.notes.take (k + 1)) freeM).2 with
            | true =>
              have HNX := Lib.hid hnx
              rw [hnx] at HCl
              clear hnx
              generalize hnew : (allM s.iv mid (s.notes.take (k + 1)) freeM).1 = new at *
              have HNew := Lib.hid hnew
              clear hnew
              go_upto_region 12 with (first | (refine wpList_load_mat rfl _ rfl rfl hm ?_) | (go_at_call 77; refine HCl.out.mono ?_; rintro e w7 ⟨rfl, hb7⟩) | (refine wpList_alloc_mat rfl rfl ?_; intro w8 hw8 hm8 hb8 hz8) | (refine wpList_store_mat rfl _ _ rfl rfl rfl hm8 ?_; intro w9 hm9 hg9))
              have hg9 : w8.grownBy w9 (some w7.heap.size) := hg9
              have hm9 : MatAt w9 w7.heap.size 93 new := hm9
              have z7 := hb7.size
              have z8 := hb8.size
              have hb9 : Below wr.heap.size wr w9 := hb7.trans ((hb8.mono z7).trans (grown_below hg9 z7 (by omega)))
              have hc9 : MatAt w9 w4.heap.size 93 cur := HM.out.below hb9
              have HB9 := Lib.hid hb9
              clear hb7 hw8 hm8 hb8 hz8 hg9 hb9 z7 z8 q0 q1 q2 hm
              cases hne : matEq new cur with
              | true =>
                have hcong := Lib.hid (matC_congr (matEq_iff.1 hne))
                go_wp2_with (first | (refine wpList_load_mat rfl _ rfl rfl hm9 ?_) | (refine wpList_load_mat rfl _ rfl rfl hc9 ?_) | (refine wpList_neq_mat rfl _ _ _ rfl rfl rfl ?_; rw [hne]))
                refine ⟨⟨k + 1, by omega, rfl, rfl, HNX.out, ?_, HBi.out.trans (HB9.out.mono HBi.out.size)⟩, by simp [intOf]; omega⟩
                rw [HNew.out]
                unfold MatAt at hc9 ⊢
                rw [hcong.out]
                exact hc9
              | false =>
                go_wp2_with (first | (refine wpList_load_mat rfl _ rfl rfl hm9 ?_) | (refine wpList_load_mat rfl _ rfl rfl hc9 ?_) | (refine wpList_neq_mat rfl _ _ _ rfl rfl rfl ?_; rw [hne]) | (refine wpList_store_mat rfl _ _ rfl rfl rfl hc9 ?_; intro w10 hm10 hg10))
                have hg10 : w9.grownBy w10 (some w4.heap.size) := hg10
                have z4 := HZ4.out
                have zb := HBi.out.size
                have zc := HB9.out.size
                refine ⟨⟨k + 1, by omega, rfl, rfl, HNX.out, ?_, HBi.out.trans ((HB9.out.mono zb).trans (grown_below hg10 z4 (by omega)))⟩, by simp [intOf]; omega⟩
                rw [HNew.out]
                exact hm10
            | false =>
              have HNX := Lib.hid hnx
              rw [hnx] at HCl
              clear hnx
              go_wp2_with (first | (refine wpList_load_mat rfl _ rfl rfl hm ?_) | (go_at_call 77; refine HCl.out.mono ?_; rintro e w7 ⟨rfl, hb7⟩) | (refine wpList_alloc_mat rfl rfl ?_; intro w8 hw8 hm8 hb8 hz8) | (refine wpList_store_mat rfl _ _ rfl rfl rfl hm8 ?_; intro w9 hm9 hg9))
              have hg9 : w8.grownBy w9 (some w7.heap.size) := hg9
              have z7 := hb7.size
              have z8 := hb8.size
              have zb := HBi.out.size
              have hb9 : Below wr.heap.size wr w9 := hb7.trans ((hb8.mono z7).trans (grown_below hg9 z7 (by omega)))
              refine ⟨⟨mid, hi, rfl, rfl, by omega, m2, h3, .inr ?_, HHi.out, Hbr.out.trans ((HBi.out.trans (hb9.mono zb)).mono Hbr.out.size)⟩, by simp [intOf]; omega⟩
              have : boundsF s mid = allM s.iv mid (s.notes.take (k + 1)) freeM := allM_take_no HNX.out
              rw [this]
              exact HNX.out
          · have hk2 : k = s.notes.length := by omega
            have hend : boundsF s mid = allM s.iv mid (s.notes.take k) freeM := by unfold boundsF; rw [hk2, List.take_length]
            have HE2 := Lib.hid hend
            clear hend hk2 hok
            go_wp2
            refine ⟨⟨lo, mid, rfl, rfl, h1, m1, m4, HLo.out, .inr ?_, Hbr.out.trans (HBi.out.mono Hbr.out.size)⟩, by simp [intOf]; omega⟩
            rw [HE2.out]
            exact HOK.out
      · have hh : lo = hi - 1 := by omega
        have HH := Lib.hid hh
        clear hh
        go_wp2
        go_ret2
        refine ⟨hi, by rw [HE.out]; rfl, fun h => absurd HE.out h, fun _ => ⟨by omega, h3, HHi.out, ?_⟩, HB3.out.trans (Hbr.out.mono HB3.out.size)⟩
        rcases HLo.out with e | e
        · exact .inl (by have := HH.out; omega)
        · rw [HH.out] at e
          exact .inr e
  · have hne : (errOf s != 0) = true := by simp [he]
    go_enter Tryz.func35, Tryz.ntmps35
    go_upto_region 1 with (fail)
    rw [← hW1]
    clear hW1
    have HE := Lib.hid he
    clear he
    go_step3
    go_wp2_with (go_at_call 16; refine HC.out.mono ?_; rintro e w3 ⟨rfl, hb3⟩)
    rw [Exit.noGoto_ret]
    go_ret2
    exact ⟨0, rfl, fun _ => rfl, fun h => absurd h HE.out, HB1.out.trans (hb3.mono HB1.out.size)⟩
end Go.Proofs.YtajdgdelhlfniaaGreatDoor
