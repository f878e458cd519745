/- The law SheetProof: its walk. The law SheetWrong: its walk. -/
import Derived.Test.YtajdgdelhlfniaaGreatDoorMorL
import Derived.Test.YtajdgdelhlfniaaGreatDoorGSl
import Derived.WalkKit
import Derived.Deep.Quiet
set_option linter.unusedSimpArgs false
set_option linter.unusedVariables false
namespace Go.Proofs.YtajdgdelhlfniaaGreatDoor
open Go.RowKit

def own11 (k : Nat) : Bool := k == 0 || k == 4 || k == 9 || k == 10
def con11 (k : Nat) : Nat := if k = 0 then 4 else if k = 4 then 9 else if k = 9 then 10 else 100
def xs11 (l : List Int) (k i : Nat) : List Int := if i = 0 then [] else if i = 4 then l.take k else l.take k ++ l.drop (k + 1)
def rd11 (k : Nat) : Bool := !(k == 0 || k == 4 || k == 9 || k == 10)
structure PrI (W : World) (l : List Int) (k : Nat) (val : Nat → Value) (L : Nat → Bool) (vs : Nat → Value) (X : World) : Prop where
  go : GO W.heap.size 3 W (lv own11 con11 L) (xs11 l k) vs X
  rd : ∀ i, rd11 i = true → L i = true → vs i = val i
theorem PrI.read {W : World} {l : List Int} {k : Nat} {val : Nat → Value} {L : Nat → Bool} {vs : Nat → Value} {X : World} (h : PrI W l k val L vs X) {i : Nat} (h1 : own11 i = false) (_h2 : rd11 i = true) : PrI W l k val (updB L i) (updV vs i (val i)) X :=
  ⟨h.go.skip h1 _, rd_step h.rd (fun _ => rfl)⟩
theorem proof_at {B : Nat} {w : World} {v : Value} {s : ShR} {l : List Int} {er : Int} (hl : proofF s = l) (he : proofE s = er) (hs : RdSh B w v s) (hn : Named s) (hB : B ≤ w.heap.size) :
    Calls Tryz.prog 31 #[v] w fun e w' => ∃ A c, e = .returned (.tuple #[.slice A l.length c, .int .i64 er]) ∧ Rd IntAt 1 w'.heap.size w' (.slice A l.length c) l ∧ Below w.heap.size w w' := by
  subst hl he
  refine (proof_any hs hn hB).mono ?_
  rintro e w' ⟨A, c, rfl, ho, hb⟩
  exact ⟨A, c, rfl, ho.rd, hb⟩
theorem fits_at {B : Nat} {w : World} {v : Value} {s : ShR} {f : Bool} {er : Int} (hf : fitsB s = f) (he : errOf s = er) (hs : RdSh B w v s) (hn : Named s) (hB : B ≤ w.heap.size) :
    Calls Tryz.prog 21 #[v] w fun e w' => e = .returned (.tuple #[.bool f, .int .i64 er]) ∧ Below w.heap.size w w' := by
  subst hf he
  exact fits_any hs hn hB
theorem bits_at (x : Int) (hx0 : 0 ≤ x) (hx1 : x ≤ 65535) (n : Nat) (hn : n ≤ 16) (w : World) :
    Calls Tryz.prog 51 #[.int .u16 x, .int .i64 n] w fun e w' => ∃ A c, e = .returned (.slice A (bitsL x n).length c) ∧ Rd IntAt 1 w'.heap.size w' (.slice A (bitsL x n).length c) (bitsL x n) ∧ Below w.heap.size w w' := by
  refine (bits_any x hx0 hx1 n hn w).mono ?_
  rintro e w' ⟨A, c, rfl, ho, hb⟩
  exact ⟨A, c, rfl, ho.rd, hb⟩
theorem asc_at {B : Nat} {w : World} {v : Value} {l : List Int} {m : Int} (h : ascB l m = true) (hv : Rd IntAt 1 B w v l) :
    Calls Tryz.prog 53 #[v, .int .i64 m] w fun e w' => e = .returned (.bool true) ∧ Below w.heap.size w w' := by
  refine (ascending_any m hv).mono ?_
  rintro e w' ⟨rfl, hb⟩
  rw [h]
  exact ⟨rfl, hb.below _⟩

set_option maxRecDepth 100000 in
set_option maxHeartbeats 4000000 in
theorem lproof_any {B : Nat} {w : World} {v : Value} {s : ShR} (u : Int) (hs : RdSh B w v s) (hn : Named s) (hB : B ≤ w.heap.size) (hu0 : 0 ≤ u) (hu1 : u ≤ 65535) (hgl : Glob w) :
    Calls Tryz.prog 11 #[v, .int .u16 u] w fun e w' => e = .returned (.bool true) ∧ Below w.heap.size w w' := by
  have HSR := Lib.hid (fun (X : World) (hb : Below w.heap.size w X) => hs.below (hb.mono hB))
  have HA := Lib.hid (fun (X : World) (hb : Below w.heap.size w X) => awake_any (w := X) (hgl.below hb))
  have HN := Lib.hid hn
  obtain ⟨vp, vn, rfl, hpp, hnn⟩ := hs
  obtain ⟨Ap, cp, rfl, _⟩ := id hpp
  obtain ⟨An, cn, rfl, _⟩ := id hnn
  obtain ⟨W1, hW1, r1, z1, b1⟩ := box_any w #[.int .i64 s.iv, .slice Ap s.pts.length cp, .slice An s.notes.length cn] 25
  have HBY := Lib.hid b1
  have HC : Hid (∀ Z : World, Below W1.heap.size W1 Z → Z.cell? ⟨w.heap.size, 0, none⟩ = some (.int .i64 s.iv) ∧ Z.cell? ⟨w.heap.size, 1, none⟩ = some (.slice Ap s.pts.length cp) ∧ Z.cell? ⟨w.heap.size, 2, none⟩ = some (.slice An s.notes.length cn) ∧ Below w.heap.size w Z) :=
    Lib.hid fun Z h => by
      have j1 := (h.block _ (lt_of_block r1)).trans r1
      exact ⟨cellOf j1 0 rfl, cellOf j1 1 rfl, cellOf j1 2 rfl, HBY.out.trans (h.mono HBY.out.size)⟩
  clear r1 z1 b1 hn hgl hpp hnn
  go_enter Tryz.func11, Tryz.ntmps11
  go_upto_region 1 with (fail)
  rw [← hW1]
  clear hW1
  have hbx : Below W1.heap.size W1 W1 := Below.refl _ _
  obtain ⟨C0, C1, C2, hb⟩ := HC.out _ hbx
  have HV := Lib.hid (fun (Z : World) (h : Below w.heap.size w Z) => valid_any (HSR.out Z h) HN.out (Nat.le_trans hB h.size))
  by_cases hv : errOf s = 0
  · have hd : decide (errOf s = 0) = true := decide_eq_true hv
    rw [hd] at HV
    clear hd
    have hg := good_of_valid hv
    cases hfit : fitsB s with
    | true =>
      obtain ⟨hpe, hpf⟩ := proof_ok hg hfit
      have HPr := Lib.hid (fun (Z : World) (h : Below w.heap.size w Z) => proof_at hpf hpe (HSR.out Z h) HN.out (Nat.le_trans hB h.size))
      have HF := Lib.hid (fun (Z : World) (h : Below w.heap.size w Z) => fits_at hfit hv (HSR.out Z h) HN.out (Nat.le_trans hB h.size))
      rw [List.length_nil] at HPr
      clear hpe hpf hfit hg hv
      go_upto_region 2 with (go_at_call 31; (with_reducible refine Calls.mono (HPr.out _ hb) ?_); rintro e X ⟨A1, c1, rfl, hr1, h4⟩; replace hbx := hbx.trans (h4.mono hbx.size); clear C0 C1 C2 hb h4; obtain ⟨C0, C1, C2, hb⟩ := HC.out _ hbx)
      go_wp2_with (first | (go_at_call 44; (with_reducible refine Calls.mono (HV.out _ hb) ?_); rintro e X ⟨rfl, h4⟩; replace hbx := hbx.trans (h4.mono hbx.size); clear C0 C1 C2 hb h4; obtain ⟨C0, C1, C2, hb⟩ := HC.out _ hbx) | (go_at_call 21; (with_reducible refine Calls.mono (HF.out _ hb) ?_); rintro e X ⟨rfl, h4⟩; replace hbx := hbx.trans (h4.mono hbx.size); clear C0 C1 C2 hb h4; obtain ⟨C0, C1, C2, hb⟩ := HC.out _ hbx) | (go_at_call 20; (with_reducible refine Calls.mono (HA.out _ hb) ?_); rintro e X ⟨rfl, h4⟩; replace hbx := hbx.trans (h4.mono hbx.size); clear C0 C1 C2 hb h4; obtain ⟨C0, C1, C2, hb⟩ := HC.out _ hbx))
      go_ret
      exact ⟨rfl, hb⟩
    | false =>
      obtain ⟨hpe, hpf⟩ := proof_bad hg hfit
      have hP := proof_law hg hfit
      have hnl := hg.nlen
      generalize searchF s false = l at *
      have HPr := Lib.hid (fun (Z : World) (h : Below w.heap.size w Z) => proof_at hpf hpe (HSR.out Z h) HN.out (Nat.le_trans hB h.size))
      have HF := Lib.hid (fun (Z : World) (h : Below w.heap.size w Z) => fits_at hfit hv (HSR.out Z h) HN.out (Nat.le_trans hB h.size))
      have HBt := Lib.hid (bits_at u hu0 hu1 s.notes.length (by omega))
      have hinr := bitsL_inR u s.notes.length
      have hfl := bitsL_le u s.notes.length
      generalize bitsL u s.notes.length = few at *
      have HSo := Lib.hid (fun (m : List Int) (hm : m.length ≤ 1000) (Z : World) (h : Below w.heap.size w Z) (vl : Value) (hl : Rd IntAt 1 Z.heap.size Z vl m) => some_any true (HSR.out Z h) hl (Nat.le_trans hB h.size) (Nat.le_refl _) (by omega) hm)
      have HFi := Lib.hid (fun (m : List Int) (f : Bool) (hf : fitsB (someS s m true) = f) (Z : World) (v : Value) (hr : RdSh Z.heap.size Z v (someS s m true)) => fits_at hf (errOf_good (good_some hg m true)) hr (show Named (someS s m true) from HN.out) (Nat.le_refl _))
      have hll : l.length ≤ 1000 := Nat.le_trans hP.few (by omega)
      have HSo1 := Lib.hid (HSo.out few (by omega))
      have HSo2 := Lib.hid (HSo.out l hll)
      have HFi2 := Lib.hid (HFi.out l false hP.bad)
      have HOne := Lib.hid (fun (k : Nat) (hk : k < l.length) => HFi.out _ true (hP.one k hk))
      have HAsc := Lib.hid (fun (Z : World) (vl : Value) (hl : Rd IntAt 1 Z.heap.size Z vl l) => asc_at hP.asc hl)
      obtain ⟨so, hso⟩ : ∃ so, fitsB (someS s few true) = so := ⟨_, rfl⟩
      have HFi1 := Lib.hid (HFi.out few so hso)
      have hlt : so = false → decide ((few.length : Int) < (l.length : Int)) = false := fun h => decide_eq_false (by have := hP.least few hinr (hso.trans h); omega)
      have HLt := Lib.hid hlt
      have HLL := Lib.hid hll
      have HFL := Lib.hid (show few.length ≤ 1000 by omega)
      clear hpe hpf hfit hg hv hP hnl hinr hfl hso hlt
      go_upto_region 2 with (go_at_call 31; (with_reducible refine Calls.mono (HPr.out _ hb) ?_); rintro e X ⟨A1, c1, rfl, hr1, h4⟩; have HRl := Lib.hid (fun (Z : World) (h : Below X.heap.size X Z) => hr1.below h); clear hr1; replace hbx := hbx.trans (h4.mono hbx.size); clear C0 C1 C2 hb h4; obtain ⟨C0, C1, C2, hb⟩ := HC.out _ hbx; have hb1 : Below X.heap.size X X := Below.refl _ _)
      go_upto_region 7 with (first | (go_at_call 44; (with_reducible refine Calls.mono (HV.out _ hb) ?_); rintro e X ⟨rfl, h4⟩; replace hbx := hbx.trans (h4.mono hbx.size); replace hb1 := hb1.trans (h4.mono hb1.size); clear C0 C1 C2 hb h4; obtain ⟨C0, C1, C2, hb⟩ := HC.out _ hbx) | (go_at_call 21; (with_reducible refine Calls.mono (HF.out _ hb) ?_); rintro e X ⟨rfl, h4⟩; replace hbx := hbx.trans (h4.mono hbx.size); replace hb1 := hb1.trans (h4.mono hb1.size); clear C0 C1 C2 hb h4; obtain ⟨C0, C1, C2, hb⟩ := HC.out _ hbx))
      go_upto_region 8 with (go_at_call 51; (with_reducible refine Calls.mono (HBt.out X) ?_); rintro e X ⟨A2, c2, rfl, hr2, h4⟩; have HR2 := Lib.hid (fun (Z : World) (h : Below X.heap.size X Z) => hr2.below h); clear hr2; replace hbx := hbx.trans (h4.mono hbx.size); replace hb1 := hb1.trans (h4.mono hb1.size); clear C0 C1 C2 hb h4; obtain ⟨C0, C1, C2, hb⟩ := HC.out _ hbx; have hb2 : Below X.heap.size X X := Below.refl _ _)
      go_upto_region 9 with (first | (go_at_call 52; (with_reducible refine Calls.mono (HSo1.out _ hb _ ((HR2.out _ hb2).mono hb2.size)) ?_); rintro e X ⟨v1, rfl, hs1, h4⟩; have Hs1 := Lib.hid hs1; clear hs1; replace hbx := hbx.trans (h4.mono hbx.size); replace hb1 := hb1.trans (h4.mono hb1.size); replace hb2 := hb2.trans (h4.mono hb2.size); clear C0 C1 C2 hb h4; obtain ⟨C0, C1, C2, hb⟩ := HC.out _ hbx) | (go_at_call 21; (with_reducible refine Calls.mono (HFi1.out _ _ Hs1.out) ?_); rintro e X ⟨rfl, h4⟩; replace hbx := hbx.trans (h4.mono hbx.size); replace hb1 := hb1.trans (h4.mono hb1.size); replace hb2 := hb2.trans (h4.mono hb2.size); clear C0 C1 C2 hb h4; obtain ⟨C0, C1, C2, hb⟩ := HC.out _ hbx))
      go_upto_region 10 with (first | (go_at_call 52; (with_reducible refine Calls.mono (HSo2.out _ hb _ ((HRl.out _ hb1).mono hb1.size)) ?_); rintro e X ⟨v2, rfl, hs2, h4⟩; have Hs2 := Lib.hid hs2; clear hs2; replace hbx := hbx.trans (h4.mono hbx.size); replace hb1 := hb1.trans (h4.mono hb1.size); replace hb2 := hb2.trans (h4.mono hb2.size); clear C0 C1 C2 hb h4; obtain ⟨C0, C1, C2, hb⟩ := HC.out _ hbx) | (go_at_call 21; (with_reducible refine Calls.mono (HFi2.out _ _ Hs2.out) ?_); rintro e X ⟨rfl, h4⟩; replace hbx := hbx.trans (h4.mono hbx.size); replace hb1 := hb1.trans (h4.mono hb1.size); replace hb2 := hb2.trans (h4.mono hb2.size); clear C0 C1 C2 hb h4; obtain ⟨C0, C1, C2, hb⟩ := HC.out _ hbx))
      cases so with
      | true =>
        clear hb2
        go_upto_region 12 with (go_at_call 53; (with_reducible refine Calls.mono (HAsc.out _ _ ((HRl.out _ hb1).mono hb1.size)) ?_); rintro e X ⟨rfl, h4⟩; replace hbx := hbx.trans (h4.mono hbx.size); replace hb1 := hb1.trans (h4.mono hb1.size); clear C0 C1 C2 hb h4; obtain ⟨C0, C1, C2, hb⟩ := HC.out _ hbx)
        try clear hlt hlt2 hlt3
        clear HLt
        go_wp2
        go_loopw [14] (fun i wr => ∃ k : Nat, k ≤ l.length ∧ i = .int .i64 k ∧ Below X.heap.size X wr) (fun i _ => l.length - (intOf i).toNat)
        case atStart => exact ⟨0, Nat.zero_le _, rfl, Below.refl _ _⟩
        case round =>
          obtain ⟨k, hk, rfl, hq⟩ := hrel
          have HQ := Lib.hid hq
          replace hbx := hbx.trans (hq.mono hbx.size)
          replace hb1 := hb1.trans (hq.mono hb1.size)
          clear C0 C1 C2 hb hq
          obtain ⟨C0, C1, C2, hb⟩ := HC.out _ hbx
          have hll := HLL.out
          by_cases hlt : k < l.length
          · obtain ⟨ade, hade, _, _⟩ := (HRl.out wr hb1).int (i := k) hlt
            subst hade
            have HOn := Lib.hid (HOne.out k hlt)
            have HRw := Lib.hid (fun (Z : World) (h : Below wr.heap.size wr Z) => HRl.out Z (hb1.trans (h.mono hb1.size)))
            have hcl : l.length ≤ c1 ∧ c1 ≤ 9223372036854775807 := by obtain ⟨_, _, e, h1, h2, _⟩ := HRl.out wr hb1; cases e; exact ⟨h1, h2⟩
            have f1 : ¬ c1 < k := by omega
            have f2 : 0 ≤ (k : Int) + 1 ∧ (k : Int) + 1 ≤ (l.length : Int) := by omega
            have f3 : IntKind.i64.wrap ((k : Int) + 1) = (k : Int) + 1 := IntWalk.i64_in _ (by omega)
            obtain ⟨A8, hA8⟩ : ∃ A8, (if c1 = k + 1 then some ade else some ⟨ade.block, ade.off + (k + 1), none⟩ : Option Addr) = A8 := ⟨_, rfl⟩
            have HR8 := Lib.hid (show ∀ Z, Below wr.heap.size wr Z → ∃ B8, Rd IntAt 1 B8 Z (.slice A8 (l.length - (k + 1)) (c1 - (k + 1))) (l.drop (k + 1)) from fun Z h => by
              rw [← hA8]
              by_cases hck : c1 = k + 1
              · rw [if_pos hck, show l.drop (k + 1) = [] from List.drop_eq_nil_of_le (by omega), show l.length - (k + 1) = 0 by omega]
                exact ⟨0, _, _, rfl, by simp, by omega, fun i x hx => by simp at hx⟩
              · rw [if_neg hck]
                have := (HRw.out Z h).dropP (k := k + 1) (by omega)
                rw [Nat.mul_one, show ade.add (k + 1) = ⟨ade.block, ade.off + (k + 1), none⟩ by unfold Addr.add; rw [if_neg (by omega)]] at this
                exact ⟨_, this⟩)
            go_upto_region 15 with (fail)
            refine wp_region_ghost (PrI wr l k (fun jj => if jj = 1 ∨ jj = 5 then .slice (some ade) l.length c1 else if jj = 2 ∨ jj = 6 then .int .i64 k else if jj = 3 then .slice (some ade) k c1 else if jj = 7 then .int .i64 (k + 1) else .slice A8 (l.length - (k + 1)) (c1 - (k + 1)))) (by kernel_rfl) (by kernel_rfl) ?_ ?_ ?_
            · exact ⟨⟨(Below.refl _ _).drew, Nat.le_refl _, fun k h => (by cases h.2.1), fun j k h => (by cases h.2.1)⟩, fun _ _ h => (by cases h)⟩
            · refine ⟨?_, ?_, ?_, ?_, ?_, ?_, ?_, ?_, ?_, ?_, ?_, trivial⟩
              all_goals
                intro L vs X b hL hw hcl' hI hf
              · have hG := hI.go
                refine wp_of_run (run_exec_bs 43 0 #[] rfl (vs := #[]) rfl (run_bsI0 X)) ?_
                exact ⟨hG.lit (i := 0) (n := 0) rfl (by omega) rfl, rd_step hI.rd (fun h => by cases h)⟩
              · have hG := hI.go
                have hb := hG.bel
                have e5 := hf.old 5 (by kernel_rfl)
                refine wp_of_run (v := .slice (some ade) l.length c1) (w' := X) (by unfold execOp; go_simp) ?_
                exact hI.read rfl (by decide)
              · have hG := hI.go
                have hb := hG.bel
                have e14 := hf.old 14 (by kernel_rfl)
                refine wp_of_run (v := .int .i64 k) (w' := X) (by unfold execOp; go_simp) ?_
                exact hI.read rfl (by decide)
              · have hG := hI.go
                have hb := hG.bel
                have h1 : L 1 = true := done_of hw 1 (by kernel_rfl)
                have e121 : b.tmps[121]?.getD undef = .slice (some ade) l.length c1 := (hf.new 1 121 rfl h1 (by simp)).trans (hI.rd 1 rfl h1)
                have h2 : L 2 = true := done_of hw 2 (by kernel_rfl)
                have e122 : b.tmps[122]?.getD undef = .int .i64 k := (hf.new 2 122 rfl h2 (by simp)).trans (hI.rd 2 rfl h2)
                refine wp_of_run (v := .slice (some ade) k c1) (w' := X) (by unfold execOp; go_simp) ?_
                exact hI.read rfl (by decide)
              · have hG := hI.go
                have hb := hG.bel
                have h0 : L 0 = true := done_of hw 0 (by kernel_rfl)
                have e120 : b.tmps[120]?.getD undef = vs 0 := hf.new 0 120 rfl h0 (by simp)
                have h3 : L 3 = true := done_of hw 3 (by kernel_rfl)
                have e123 : b.tmps[123]?.getD undef = .slice (some ade) k c1 := (hf.new 3 123 rfl h3 (by simp)).trans (hI.rd 3 rfl h3)
                have n3 : lv own11 con11 L 0 := ⟨rfl, h0, hL⟩
                have hr := (HRw.out X hb).takeP (k := k) (by omega)
                have hlk : (l.take k).length = k := by rw [List.length_take]; omega
                obtain ⟨v', X', hrun, ho, hg, hv⟩ := append_ints2 (m := k) hlk.symm (hG.own 0 n3) (by rw [hlk]; exact hr) (by rw [show (xs11 l k 0).length = 0 from rfl, hlk]; omega) hG.le
                refine wp_of_run (run_exec_append (.tmp 120) (.tmp 123) 43 rfl (eval_tmp e120) (eval_tmp e123) hrun) ?_
                exact ⟨hG.app n3 rfl ho hg hv, rd_step hI.rd (fun h => by cases h)⟩
              · have hG := hI.go
                have hb := hG.bel
                have e5 := hf.old 5 (by kernel_rfl)
                refine wp_of_run (v := .slice (some ade) l.length c1) (w' := X) (by unfold execOp; go_simp) ?_
                exact hI.read rfl (by decide)
              · have hG := hI.go
                have hb := hG.bel
                have e14 := hf.old 14 (by kernel_rfl)
                refine wp_of_run (v := .int .i64 k) (w' := X) (by unfold execOp; go_simp) ?_
                exact hI.read rfl (by decide)
              · have hG := hI.go
                have hb := hG.bel
                have h6 : L 6 = true := done_of hw 6 (by kernel_rfl)
                have e126 : b.tmps[126]?.getD undef = .int .i64 k := (hf.new 6 126 rfl h6 (by simp)).trans (hI.rd 6 rfl h6)
                refine wp_of_run (v := .int .i64 (k + 1)) (w' := X) (by unfold execOp; go_simp) ?_
                exact hI.read rfl (by decide)
              · have hG := hI.go
                have hb := hG.bel
                have h5 : L 5 = true := done_of hw 5 (by kernel_rfl)
                have e125 : b.tmps[125]?.getD undef = .slice (some ade) l.length c1 := (hf.new 5 125 rfl h5 (by simp)).trans (hI.rd 5 rfl h5)
                have h7 : L 7 = true := done_of hw 7 (by kernel_rfl)
                have e127 : b.tmps[127]?.getD undef = .int .i64 (k + 1) := (hf.new 7 127 rfl h7 (by simp)).trans (hI.rd 7 rfl h7)
                refine wp_of_run (v := .slice A8 (l.length - (k + 1)) (c1 - (k + 1))) (w' := X) (by unfold execOp; go_simp) ?_
                exact hI.read rfl (by decide)
              · have hG := hI.go
                have hb := hG.bel
                have h4 : L 4 = true := done_of hw 4 (by kernel_rfl)
                have e124 : b.tmps[124]?.getD undef = vs 4 := hf.new 4 124 rfl h4 (by simp)
                have h8 : L 8 = true := done_of hw 8 (by kernel_rfl)
                have e128 : b.tmps[128]?.getD undef = .slice A8 (l.length - (k + 1)) (c1 - (k + 1)) := (hf.new 8 128 rfl h8 (by simp)).trans (hI.rd 8 rfl h8)
                have n3 : lv own11 con11 L 4 := ⟨rfl, h4, hL⟩
                obtain ⟨B8, hr⟩ := HR8.out X hb
                obtain ⟨v', X', hrun, ho, hg, hv⟩ := append_ints2 (m := l.length - (k + 1)) (by rw [List.length_drop]) (hG.own 4 n3) (by rw [List.length_drop]; exact hr) (by rw [show (xs11 l k 4).length = (l.take k).length from rfl, List.length_take, List.length_drop]; omega) hG.le
                refine wp_of_run (run_exec_append (.tmp 124) (.tmp 128) 43 rfl (eval_tmp e124) (eval_tmp e128) hrun) ?_
                exact ⟨hG.app n3 rfl ho hg hv, rd_step hI.rd (fun h => by cases h)⟩
              · have hG := hI.go
                have h9 : L 9 = true := done_of hw 9 (by kernel_rfl)
                have e129 : b.tmps[129]?.getD undef = vs 9 := hf.new 9 129 rfl h9 (by simp)
                have n3 : lv own11 con11 L 9 := ⟨rfl, h9, hL⟩
                refine wp_of_run (v := vs 9) (w' := X) (by unfold execOp; go_simp) ?_
                exact ⟨hG.move n3 rfl rfl, rd_step hI.rd (fun h => by cases h)⟩
            · intro vs X hI
              have ho : Own wr.heap.size 3 X (vs 10) (l.take k ++ l.drop (k + 1)) := hI.go.own 10 ⟨rfl, by decide, by decide⟩
              have hbw := hI.go.bel
              clear hI
              simp [fill, slotOf, Act.put]
              simp only [Exit.inBlock, Exit.then]
              obtain ⟨A9, c9, q9, _, _⟩ := ho.form
              have hr9 := ho.rd
              rw [q9] at hr9 ⊢
              clear q9 ho
              have HR9 := Lib.hid (fun (Z : World) (h : Below X.heap.size X Z) => hr9.below h)
              clear hr9
              have HWx := Lib.hid (HQ.out.trans (hbw.mono HQ.out.size))
              replace hbx := hbx.trans (hbw.mono hbx.size)
              clear C0 C1 C2 hb hbw hA8 f1 f2 f3
              obtain ⟨C0, C1, C2, hb⟩ := HC.out _ hbx
              have hb9 : Below X.heap.size X X := Below.refl _ _
              have hl9 : (l.take k ++ l.drop (k + 1)).length ≤ 1000 := by rw [List.length_append, List.length_take, List.length_drop]; omega
              have HSo9 := Lib.hid (HSo.out _ hl9)
              clear hl9
              generalize l.take k ++ l.drop (k + 1) = m9 at *
              generalize vs 0 = u0
              generalize vs 1 = u1
              generalize vs 2 = u2
              generalize vs 3 = u3
              generalize vs 4 = u4
              generalize vs 5 = u5
              generalize vs 6 = u6
              generalize vs 7 = u7
              generalize vs 8 = u8
              go_upto_region 17 with (first | (go_at_call 52; (with_reducible refine Calls.mono (HSo9.out _ hb _ ((HR9.out _ hb9).mono hb9.size)) ?_); rintro e X ⟨v9, rfl, hs9, h4⟩; have Hs9 := Lib.hid hs9; clear hs9; replace hbx := hbx.trans (h4.mono hbx.size); replace hb9 := hb9.trans (h4.mono hb9.size); clear C0 C1 C2 hb h4; obtain ⟨C0, C1, C2, hb⟩ := HC.out _ hbx) | (go_at_call 21; (with_reducible refine Calls.mono (HOn.out _ _ Hs9.out) ?_); rintro e X ⟨rfl, h4⟩; replace hbx := hbx.trans (h4.mono hbx.size); replace hb9 := hb9.trans (h4.mono hb9.size); clear C0 C1 C2 hb h4; obtain ⟨C0, C1, C2, hb⟩ := HC.out _ hbx))
              go_wp2
              go_roundw
              case rel => exact ⟨k + 1, by omega, by go_num, HWx.out.trans (hb9.mono HWx.out.size)⟩
              case measure => simp [intOf]; omega
          · obtain rfl : k = l.length := by omega
            go_wp2_with (go_at_call 20; (with_reducible refine Calls.mono (HA.out _ hb) ?_); rintro e X ⟨rfl, h4⟩; replace hbx := hbx.trans (h4.mono hbx.size); clear C0 C1 C2 hb h4; obtain ⟨C0, C1, C2, hb⟩ := HC.out _ hbx)
            go_ret
            exact ⟨rfl, hb⟩
      | false =>
        have hlt := HLt.out rfl
        have hlt2 : ¬ few.length < l.length := by have := of_decide_eq_false hlt; omega
        have hlt3 : decide (few.length < l.length) = false := decide_eq_false hlt2
        clear hb2
        go_upto_region 12 with (go_at_call 53; (with_reducible refine Calls.mono (HAsc.out _ _ ((HRl.out _ hb1).mono hb1.size)) ?_); rintro e X ⟨rfl, h4⟩; replace hbx := hbx.trans (h4.mono hbx.size); replace hb1 := hb1.trans (h4.mono hb1.size); clear C0 C1 C2 hb h4; obtain ⟨C0, C1, C2, hb⟩ := HC.out _ hbx)
        try clear hlt hlt2 hlt3
        clear HLt
        go_wp2
        go_loopw [14] (fun i wr => ∃ k : Nat, k ≤ l.length ∧ i = .int .i64 k ∧ Below X.heap.size X wr) (fun i _ => l.length - (intOf i).toNat)
        case atStart => exact ⟨0, Nat.zero_le _, rfl, Below.refl _ _⟩
        case round =>
          obtain ⟨k, hk, rfl, hq⟩ := hrel
          have HQ := Lib.hid hq
          replace hbx := hbx.trans (hq.mono hbx.size)
          replace hb1 := hb1.trans (hq.mono hb1.size)
          clear C0 C1 C2 hb hq
          obtain ⟨C0, C1, C2, hb⟩ := HC.out _ hbx
          have hll := HLL.out
          by_cases hlt : k < l.length
          · obtain ⟨ade, hade, _, _⟩ := (HRl.out wr hb1).int (i := k) hlt
            subst hade
            have HOn := Lib.hid (HOne.out k hlt)
            have HRw := Lib.hid (fun (Z : World) (h : Below wr.heap.size wr Z) => HRl.out Z (hb1.trans (h.mono hb1.size)))
            have hcl : l.length ≤ c1 ∧ c1 ≤ 9223372036854775807 := by obtain ⟨_, _, e, h1, h2, _⟩ := HRl.out wr hb1; cases e; exact ⟨h1, h2⟩
            have f1 : ¬ c1 < k := by omega
            have f2 : 0 ≤ (k : Int) + 1 ∧ (k : Int) + 1 ≤ (l.length : Int) := by omega
            have f3 : IntKind.i64.wrap ((k : Int) + 1) = (k : Int) + 1 := IntWalk.i64_in _ (by omega)
            obtain ⟨A8, hA8⟩ : ∃ A8, (if c1 = k + 1 then some ade else some ⟨ade.block, ade.off + (k + 1), none⟩ : Option Addr) = A8 := ⟨_, rfl⟩
            have HR8 := Lib.hid (show ∀ Z, Below wr.heap.size wr Z → ∃ B8, Rd IntAt 1 B8 Z (.slice A8 (l.length - (k + 1)) (c1 - (k + 1))) (l.drop (k + 1)) from fun Z h => by
              rw [← hA8]
              by_cases hck : c1 = k + 1
              · rw [if_pos hck, show l.drop (k + 1) = [] from List.drop_eq_nil_of_le (by omega), show l.length - (k + 1) = 0 by omega]
                exact ⟨0, _, _, rfl, by simp, by omega, fun i x hx => by simp at hx⟩
              · rw [if_neg hck]
                have := (HRw.out Z h).dropP (k := k + 1) (by omega)
                rw [Nat.mul_one, show ade.add (k + 1) = ⟨ade.block, ade.off + (k + 1), none⟩ by unfold Addr.add; rw [if_neg (by omega)]] at this
                exact ⟨_, this⟩)
            go_upto_region 15 with (fail)
            refine wp_region_ghost (PrI wr l k (fun jj => if jj = 1 ∨ jj = 5 then .slice (some ade) l.length c1 else if jj = 2 ∨ jj = 6 then .int .i64 k else if jj = 3 then .slice (some ade) k c1 else if jj = 7 then .int .i64 (k + 1) else .slice A8 (l.length - (k + 1)) (c1 - (k + 1)))) (by kernel_rfl) (by kernel_rfl) ?_ ?_ ?_
            · exact ⟨⟨(Below.refl _ _).drew, Nat.le_refl _, fun k h => (by cases h.2.1), fun j k h => (by cases h.2.1)⟩, fun _ _ h => (by cases h)⟩
            · refine ⟨?_, ?_, ?_, ?_, ?_, ?_, ?_, ?_, ?_, ?_, ?_, trivial⟩
              all_goals
                intro L vs X b hL hw hcl' hI hf
              · have hG := hI.go
                refine wp_of_run (run_exec_bs 43 0 #[] rfl (vs := #[]) rfl (run_bsI0 X)) ?_
                exact ⟨hG.lit (i := 0) (n := 0) rfl (by omega) rfl, rd_step hI.rd (fun h => by cases h)⟩
              · have hG := hI.go
                have hb := hG.bel
                have e5 := hf.old 5 (by kernel_rfl)
                refine wp_of_run (v := .slice (some ade) l.length c1) (w' := X) (by unfold execOp; go_simp) ?_
                exact hI.read rfl (by decide)
              · have hG := hI.go
                have hb := hG.bel
                have e14 := hf.old 14 (by kernel_rfl)
                refine wp_of_run (v := .int .i64 k) (w' := X) (by unfold execOp; go_simp) ?_
                exact hI.read rfl (by decide)
              · have hG := hI.go
                have hb := hG.bel
                have h1 : L 1 = true := done_of hw 1 (by kernel_rfl)
                have e121 : b.tmps[121]?.getD undef = .slice (some ade) l.length c1 := (hf.new 1 121 rfl h1 (by simp)).trans (hI.rd 1 rfl h1)
                have h2 : L 2 = true := done_of hw 2 (by kernel_rfl)
                have e122 : b.tmps[122]?.getD undef = .int .i64 k := (hf.new 2 122 rfl h2 (by simp)).trans (hI.rd 2 rfl h2)
                refine wp_of_run (v := .slice (some ade) k c1) (w' := X) (by unfold execOp; go_simp) ?_
                exact hI.read rfl (by decide)
              · have hG := hI.go
                have hb := hG.bel
                have h0 : L 0 = true := done_of hw 0 (by kernel_rfl)
                have e120 : b.tmps[120]?.getD undef = vs 0 := hf.new 0 120 rfl h0 (by simp)
                have h3 : L 3 = true := done_of hw 3 (by kernel_rfl)
                have e123 : b.tmps[123]?.getD undef = .slice (some ade) k c1 := (hf.new 3 123 rfl h3 (by simp)).trans (hI.rd 3 rfl h3)
                have n3 : lv own11 con11 L 0 := ⟨rfl, h0, hL⟩
                have hr := (HRw.out X hb).takeP (k := k) (by omega)
                have hlk : (l.take k).length = k := by rw [List.length_take]; omega
                obtain ⟨v', X', hrun, ho, hg, hv⟩ := append_ints2 (m := k) hlk.symm (hG.own 0 n3) (by rw [hlk]; exact hr) (by rw [show (xs11 l k 0).length = 0 from rfl, hlk]; omega) hG.le
                refine wp_of_run (run_exec_append (.tmp 120) (.tmp 123) 43 rfl (eval_tmp e120) (eval_tmp e123) hrun) ?_
                exact ⟨hG.app n3 rfl ho hg hv, rd_step hI.rd (fun h => by cases h)⟩
              · have hG := hI.go
                have hb := hG.bel
                have e5 := hf.old 5 (by kernel_rfl)
                refine wp_of_run (v := .slice (some ade) l.length c1) (w' := X) (by unfold execOp; go_simp) ?_
                exact hI.read rfl (by decide)
              · have hG := hI.go
                have hb := hG.bel
                have e14 := hf.old 14 (by kernel_rfl)
                refine wp_of_run (v := .int .i64 k) (w' := X) (by unfold execOp; go_simp) ?_
                exact hI.read rfl (by decide)
              · have hG := hI.go
                have hb := hG.bel
                have h6 : L 6 = true := done_of hw 6 (by kernel_rfl)
                have e126 : b.tmps[126]?.getD undef = .int .i64 k := (hf.new 6 126 rfl h6 (by simp)).trans (hI.rd 6 rfl h6)
                refine wp_of_run (v := .int .i64 (k + 1)) (w' := X) (by unfold execOp; go_simp) ?_
                exact hI.read rfl (by decide)
              · have hG := hI.go
                have hb := hG.bel
                have h5 : L 5 = true := done_of hw 5 (by kernel_rfl)
                have e125 : b.tmps[125]?.getD undef = .slice (some ade) l.length c1 := (hf.new 5 125 rfl h5 (by simp)).trans (hI.rd 5 rfl h5)
                have h7 : L 7 = true := done_of hw 7 (by kernel_rfl)
                have e127 : b.tmps[127]?.getD undef = .int .i64 (k + 1) := (hf.new 7 127 rfl h7 (by simp)).trans (hI.rd 7 rfl h7)
                refine wp_of_run (v := .slice A8 (l.length - (k + 1)) (c1 - (k + 1))) (w' := X) (by unfold execOp; go_simp) ?_
                exact hI.read rfl (by decide)
              · have hG := hI.go
                have hb := hG.bel
                have h4 : L 4 = true := done_of hw 4 (by kernel_rfl)
                have e124 : b.tmps[124]?.getD undef = vs 4 := hf.new 4 124 rfl h4 (by simp)
                have h8 : L 8 = true := done_of hw 8 (by kernel_rfl)
                have e128 : b.tmps[128]?.getD undef = .slice A8 (l.length - (k + 1)) (c1 - (k + 1)) := (hf.new 8 128 rfl h8 (by simp)).trans (hI.rd 8 rfl h8)
                have n3 : lv own11 con11 L 4 := ⟨rfl, h4, hL⟩
                obtain ⟨B8, hr⟩ := HR8.out X hb
                obtain ⟨v', X', hrun, ho, hg, hv⟩ := append_ints2 (m := l.length - (k + 1)) (by rw [List.length_drop]) (hG.own 4 n3) (by rw [List.length_drop]; exact hr) (by rw [show (xs11 l k 4).length = (l.take k).length from rfl, List.length_take, List.length_drop]; omega) hG.le
                refine wp_of_run (run_exec_append (.tmp 124) (.tmp 128) 43 rfl (eval_tmp e124) (eval_tmp e128) hrun) ?_
                exact ⟨hG.app n3 rfl ho hg hv, rd_step hI.rd (fun h => by cases h)⟩
              · have hG := hI.go
                have h9 : L 9 = true := done_of hw 9 (by kernel_rfl)
                have e129 : b.tmps[129]?.getD undef = vs 9 := hf.new 9 129 rfl h9 (by simp)
                have n3 : lv own11 con11 L 9 := ⟨rfl, h9, hL⟩
                refine wp_of_run (v := vs 9) (w' := X) (by unfold execOp; go_simp) ?_
                exact ⟨hG.move n3 rfl rfl, rd_step hI.rd (fun h => by cases h)⟩
            · intro vs X hI
              have ho : Own wr.heap.size 3 X (vs 10) (l.take k ++ l.drop (k + 1)) := hI.go.own 10 ⟨rfl, by decide, by decide⟩
              have hbw := hI.go.bel
              clear hI
              simp [fill, slotOf, Act.put]
              simp only [Exit.inBlock, Exit.then]
              obtain ⟨A9, c9, q9, _, _⟩ := ho.form
              have hr9 := ho.rd
              rw [q9] at hr9 ⊢
              clear q9 ho
              have HR9 := Lib.hid (fun (Z : World) (h : Below X.heap.size X Z) => hr9.below h)
              clear hr9
              have HWx := Lib.hid (HQ.out.trans (hbw.mono HQ.out.size))
              replace hbx := hbx.trans (hbw.mono hbx.size)
              clear C0 C1 C2 hb hbw hA8 f1 f2 f3
              obtain ⟨C0, C1, C2, hb⟩ := HC.out _ hbx
              have hb9 : Below X.heap.size X X := Below.refl _ _
              have hl9 : (l.take k ++ l.drop (k + 1)).length ≤ 1000 := by rw [List.length_append, List.length_take, List.length_drop]; omega
              have HSo9 := Lib.hid (HSo.out _ hl9)
              clear hl9
              generalize l.take k ++ l.drop (k + 1) = m9 at *
              generalize vs 0 = u0
              generalize vs 1 = u1
              generalize vs 2 = u2
              generalize vs 3 = u3
              generalize vs 4 = u4
              generalize vs 5 = u5
              generalize vs 6 = u6
              generalize vs 7 = u7
              generalize vs 8 = u8
              go_upto_region 17 with (first | (go_at_call 52; (with_reducible refine Calls.mono (HSo9.out _ hb _ ((HR9.out _ hb9).mono hb9.size)) ?_); rintro e X ⟨v9, rfl, hs9, h4⟩; have Hs9 := Lib.hid hs9; clear hs9; replace hbx := hbx.trans (h4.mono hbx.size); replace hb9 := hb9.trans (h4.mono hb9.size); clear C0 C1 C2 hb h4; obtain ⟨C0, C1, C2, hb⟩ := HC.out _ hbx) | (go_at_call 21; (with_reducible refine Calls.mono (HOn.out _ _ Hs9.out) ?_); rintro e X ⟨rfl, h4⟩; replace hbx := hbx.trans (h4.mono hbx.size); replace hb9 := hb9.trans (h4.mono hb9.size); clear C0 C1 C2 hb h4; obtain ⟨C0, C1, C2, hb⟩ := HC.out _ hbx))
              go_wp2
              go_roundw
              case rel => exact ⟨k + 1, by omega, by go_num, HWx.out.trans (hb9.mono HWx.out.size)⟩
              case measure => simp [intOf]; omega
          · obtain rfl : k = l.length := by omega
            go_wp2_with (go_at_call 20; (with_reducible refine Calls.mono (HA.out _ hb) ?_); rintro e X ⟨rfl, h4⟩; replace hbx := hbx.trans (h4.mono hbx.size); clear C0 C1 C2 hb h4; obtain ⟨C0, C1, C2, hb⟩ := HC.out _ hbx)
            go_ret
            exact ⟨rfl, hb⟩
  · have hd : decide (errOf s = 0) = false := decide_eq_false hv
    obtain ⟨hpe, hpf, _⟩ := proof_err hv
    obtain ⟨er, her⟩ : ∃ er, errOf s = er := ⟨_, rfl⟩
    have hne : (er != 0) = true := by rw [← her]; simpa using hv
    rw [her] at hpe
    have HPr := Lib.hid (fun (Z : World) (h : Below w.heap.size w Z) => proof_at hpf hpe (HSR.out Z h) HN.out (Nat.le_trans hB h.size))
    rw [List.length_nil] at HPr
    rw [hd] at HV
    clear hd hv hpe hpf her
    go_upto_region 2 with (go_at_call 31; (with_reducible refine Calls.mono (HPr.out _ hb) ?_); rintro e X ⟨A1, c1, rfl, hr1, h4⟩; replace hbx := hbx.trans (h4.mono hbx.size); clear C0 C1 C2 hb h4; obtain ⟨C0, C1, C2, hb⟩ := HC.out _ hbx)
    go_wp2_with (first | (go_at_call 44; (with_reducible refine Calls.mono (HV.out _ hb) ?_); rintro e X ⟨rfl, h4⟩; replace hbx := hbx.trans (h4.mono hbx.size); clear C0 C1 C2 hb h4; obtain ⟨C0, C1, C2, hb⟩ := HC.out _ hbx) | (go_at_call 20; (with_reducible refine Calls.mono (HA.out _ hb) ?_); rintro e X ⟨rfl, h4⟩; replace hbx := hbx.trans (h4.mono hbx.size); clear C0 C1 C2 hb h4; obtain ⟨C0, C1, C2, hb⟩ := HC.out _ hbx))
    go_ret
    exact ⟨rfl, hb⟩
end Go.Proofs.YtajdgdelhlfniaaGreatDoor
namespace Go.Proofs.YtajdgdelhlfniaaGreatDoor
open Go.RowKit

theorem wrong_at {B : Nat} {w : World} {v : Value} {s : ShR} {l : List Int} {er : Int} (hl : wrongF s = l) (he : errOf s = er) (hs : RdSh B w v s) (hn : Named s) (hB : B ≤ w.heap.size) :
    Calls Tryz.prog 33 #[v] w fun e w' => ∃ A c, e = .returned (.tuple #[.slice A l.length c, .int .i64 er]) ∧ Rd IntAt 1 w'.heap.size w' (.slice A l.length c) l ∧ Below w.heap.size w w' := by
  subst hl he
  refine (wrong_any hs hn hB).mono ?_
  rintro e w' ⟨A, c, rfl, ho, hb⟩
  exact ⟨A, c, rfl, ho.rd, hb⟩

set_option maxRecDepth 100000 in
set_option maxHeartbeats 4000000 in
theorem lwrong_any {B : Nat} {w : World} {v : Value} {s : ShR} (u : Int) (hs : RdSh B w v s) (hn : Named s) (hB : B ≤ w.heap.size) (hu0 : 0 ≤ u) (hu1 : u ≤ 65535) (hgl : Glob w) :
    Calls Tryz.prog 12 #[v, .int .u16 u] w fun e w' => e = .returned (.bool true) ∧ Below w.heap.size w w' := by
  have HSR := Lib.hid (fun (X : World) (hb : Below w.heap.size w X) => hs.below (hb.mono hB))
  have HA := Lib.hid (fun (X : World) (hb : Below w.heap.size w X) => awake_any (w := X) (hgl.below hb))
  have HN := Lib.hid hn
  obtain ⟨vp, vn, rfl, hpp, hnn⟩ := hs
  obtain ⟨Ap, cp, rfl, _⟩ := id hpp
  obtain ⟨An, cn, rfl, _⟩ := id hnn
  obtain ⟨W1, hW1, r1, z1, b1⟩ := box_any w #[.int .i64 s.iv, .slice Ap s.pts.length cp, .slice An s.notes.length cn] 25
  have HBY := Lib.hid b1
  have HC : Hid (∀ Z : World, Below W1.heap.size W1 Z → Z.cell? ⟨w.heap.size, 0, none⟩ = some (.int .i64 s.iv) ∧ Z.cell? ⟨w.heap.size, 1, none⟩ = some (.slice Ap s.pts.length cp) ∧ Z.cell? ⟨w.heap.size, 2, none⟩ = some (.slice An s.notes.length cn) ∧ Below w.heap.size w Z) :=
    Lib.hid fun Z h => by
      have j1 := (h.block _ (lt_of_block r1)).trans r1
      exact ⟨cellOf j1 0 rfl, cellOf j1 1 rfl, cellOf j1 2 rfl, HBY.out.trans (h.mono HBY.out.size)⟩
  clear r1 z1 b1 hn hgl hpp hnn
  go_enter Tryz.func12, Tryz.ntmps12
  go_upto_region 1 with (fail)
  rw [← hW1]
  clear hW1
  have hbx : Below W1.heap.size W1 W1 := Below.refl _ _
  obtain ⟨C0, C1, C2, hb⟩ := HC.out _ hbx
  have HV := Lib.hid (fun (Z : World) (h : Below w.heap.size w Z) => valid_any (HSR.out Z h) HN.out (Nat.le_trans hB h.size))
  by_cases hv : errOf s = 0
  · have hd : decide (errOf s = 0) = true := decide_eq_true hv
    rw [hd] at HV
    clear hd
    have hg := good_of_valid hv
    obtain ⟨hwf, hP⟩ := wrong_law hg
    have hnl := hg.nlen
    have HHit := Lib.hid hP.hit
    have HNone := Lib.hid hP.none_
    generalize searchF s true = l at *
    have HWr := Lib.hid (fun (Z : World) (h : Below w.heap.size w Z) => wrong_at hwf hv (HSR.out Z h) HN.out (Nat.le_trans hB h.size))
    have HBt := Lib.hid (bits_at u hu0 hu1 s.notes.length (by omega))
    have hinr := bitsL_inR u s.notes.length
    have hfl := bitsL_le u s.notes.length
    generalize bitsL u s.notes.length = few at *
    have HSo := Lib.hid (fun (m : List Int) (hm : m.length ≤ 1000) (Z : World) (h : Below w.heap.size w Z) (vl : Value) (hl : Rd IntAt 1 Z.heap.size Z vl m) => some_any false (HSR.out Z h) hl (Nat.le_trans hB h.size) (Nat.le_refl _) (by omega) hm)
    have HFi := Lib.hid (fun (m : List Int) (f : Bool) (hf : fitsB (someS s m false) = f) (Z : World) (v : Value) (hr : RdSh Z.heap.size Z v (someS s m false)) => fits_at hf (errOf_good (good_some hg m false)) hr (show Named (someS s m false) from HN.out) (Nat.le_refl _))
    have hll : l.length ≤ 1000 := Nat.le_trans hP.few (by omega)
    have HSo1 := Lib.hid (HSo.out l hll)
    have HSo2 := Lib.hid (HSo.out few (by omega))
    have HFi1 := Lib.hid (HFi.out l true hP.good)
    have HAsc := Lib.hid (fun (Z : World) (vl : Value) (hl : Rd IntAt 1 Z.heap.size Z vl l) => asc_at hP.asc hl)
    obtain ⟨so, hso⟩ : ∃ so, fitsB (someS s few false) = so := ⟨_, rfl⟩
    have HFi2 := Lib.hid (HFi.out few so hso)
    have HLt := Lib.hid (show so = true → ¬ few.length < l.length from fun h => by have := hP.least few hinr (hso.trans h); omega)
    have HLL := Lib.hid hll
    have HGd := Lib.hid hg
    have HVl := Lib.hid hv
    have HNl := Lib.hid hnl
    clear hwf hg hv hP hnl hinr hfl hso HSo hll
    go_upto_region 2 with (go_at_call 33; (with_reducible refine Calls.mono (HWr.out _ hb) ?_); rintro e X ⟨A1, c1, rfl, hr1, h4⟩; have HRl := Lib.hid (fun (Z : World) (h : Below X.heap.size X Z) => hr1.below h); clear hr1; replace hbx := hbx.trans (h4.mono hbx.size); clear C0 C1 C2 hb h4; obtain ⟨C0, C1, C2, hb⟩ := HC.out _ hbx; have hb1 : Below X.heap.size X X := Below.refl _ _)
    go_upto_region 4 with (go_at_call 44; (with_reducible refine Calls.mono (HV.out _ hb) ?_); rintro e X ⟨rfl, h4⟩; replace hbx := hbx.trans (h4.mono hbx.size); replace hb1 := hb1.trans (h4.mono hb1.size); clear C0 C1 C2 hb h4; obtain ⟨C0, C1, C2, hb⟩ := HC.out _ hbx)
    go_upto_region 5 with (go_at_call 51; (with_reducible refine Calls.mono (HBt.out X) ?_); rintro e X ⟨A2, c2, rfl, hr2, h4⟩; have HR2 := Lib.hid (fun (Z : World) (h : Below X.heap.size X Z) => hr2.below h); clear hr2; replace hbx := hbx.trans (h4.mono hbx.size); replace hb1 := hb1.trans (h4.mono hb1.size); clear C0 C1 C2 hb h4; obtain ⟨C0, C1, C2, hb⟩ := HC.out _ hbx; have hb2 : Below X.heap.size X X := Below.refl _ _)
    go_upto_region 6 with (first | (go_at_call 52; (with_reducible refine Calls.mono (HSo1.out _ hb _ ((HRl.out _ hb1).mono hb1.size)) ?_); rintro e X ⟨v1, rfl, hs1, h4⟩; have Hs1 := Lib.hid hs1; clear hs1; replace hbx := hbx.trans (h4.mono hbx.size); replace hb1 := hb1.trans (h4.mono hb1.size); replace hb2 := hb2.trans (h4.mono hb2.size); clear C0 C1 C2 hb h4; obtain ⟨C0, C1, C2, hb⟩ := HC.out _ hbx) | (go_at_call 21; (with_reducible refine Calls.mono (HFi1.out _ _ Hs1.out) ?_); rintro e X ⟨rfl, h4⟩; replace hbx := hbx.trans (h4.mono hbx.size); replace hb1 := hb1.trans (h4.mono hb1.size); replace hb2 := hb2.trans (h4.mono hb2.size); clear C0 C1 C2 hb h4; obtain ⟨C0, C1, C2, hb⟩ := HC.out _ hbx))
    go_upto_region 7 with (first | (go_at_call 52; (with_reducible refine Calls.mono (HSo2.out _ hb _ ((HR2.out _ hb2).mono hb2.size)) ?_); rintro e X ⟨v2, rfl, hs2, h4⟩; have Hs2 := Lib.hid hs2; clear hs2; replace hbx := hbx.trans (h4.mono hbx.size); replace hb1 := hb1.trans (h4.mono hb1.size); replace hb2 := hb2.trans (h4.mono hb2.size); clear C0 C1 C2 hb h4; obtain ⟨C0, C1, C2, hb⟩ := HC.out _ hbx) | (go_at_call 21; (with_reducible refine Calls.mono (HFi2.out _ _ Hs2.out) ?_); rintro e X ⟨rfl, h4⟩; replace hbx := hbx.trans (h4.mono hbx.size); replace hb1 := hb1.trans (h4.mono hb1.size); replace hb2 := hb2.trans (h4.mono hb2.size); clear C0 C1 C2 hb h4; obtain ⟨C0, C1, C2, hb⟩ := HC.out _ hbx))
    cases so with
    | true =>
      have hlt2 := HLt.out rfl
      have hlt := decide_eq_false (by have := hlt2; omega : ¬ (few.length : Int) < (l.length : Int))
      have hlt3 := decide_eq_false hlt2
      clear hb2
      go_upto_region 9 with (go_at_call 53; (with_reducible refine Calls.mono (HAsc.out _ _ ((HRl.out _ hb1).mono hb1.size)) ?_); rintro e X ⟨rfl, h4⟩; replace hbx := hbx.trans (h4.mono hbx.size); replace hb1 := hb1.trans (h4.mono hb1.size); clear C0 C1 C2 hb h4; obtain ⟨C0, C1, C2, hb⟩ := HC.out _ hbx)
      try clear hlt hlt2 hlt3
      clear HLt
      cases hfit : fitsB s with
      | true =>
        obtain ⟨hpe, hpf⟩ := proof_ok HGd.out hfit
        have HPr := Lib.hid (fun (Z : World) (h : Below w.heap.size w Z) => proof_at hpf hpe (HSR.out Z h) HN.out (Nat.le_trans hB h.size))
        rw [List.length_nil] at HPr
        have hl0 : l = [] := HNone.out hfit
        have e0 : ((l.length : Int) == 0) = true := by rw [hl0]; rfl
        clear hpe hpf hfit hl0
        go_wp2_with (first | (go_at_call 31; (with_reducible refine Calls.mono (HPr.out _ hb) ?_); rintro e X ⟨A3, c3, rfl, hr3, h4⟩; replace hbx := hbx.trans (h4.mono hbx.size); replace hb1 := hb1.trans (h4.mono hb1.size); clear C0 C1 C2 hb h4; obtain ⟨C0, C1, C2, hb⟩ := HC.out _ hbx) | (go_at_call 20; (with_reducible refine Calls.mono (HA.out _ hb) ?_); rintro e X ⟨rfl, h4⟩; replace hbx := hbx.trans (h4.mono hbx.size); clear C0 C1 C2 hb h4; obtain ⟨C0, C1, C2, hb⟩ := HC.out _ hbx))
        go_ret
        exact ⟨rfl, hb⟩
      | false =>
        obtain ⟨hpe, hpf⟩ := proof_bad HGd.out hfit
        have hPl := (proof_law HGd.out hfit).few
        have HH := Lib.hid (HHit.out hfit)
        generalize searchF s false = pf at *
        have HPr := Lib.hid (fun (Z : World) (h : Below w.heap.size w Z) => proof_at hpf hpe (HSR.out Z h) HN.out (Nat.le_trans hB h.size))
        have hpl : pf.length ≤ 1000 := Nat.le_trans hPl (by have := HNl.out; omega)
        clear hpe hpf hfit hPl
        go_upto_region 10 with (go_at_call 31; (with_reducible refine Calls.mono (HPr.out _ hb) ?_); rintro e X ⟨A3, c3, rfl, hr3, h4⟩; have HR3 := Lib.hid (fun (Z : World) (h : Below X.heap.size X Z) => hr3.below h); clear hr3; replace hbx := hbx.trans (h4.mono hbx.size); replace hb1 := hb1.trans (h4.mono hb1.size); clear C0 C1 C2 hb h4; obtain ⟨C0, C1, C2, hb⟩ := HC.out _ hbx; have hb3 : Below X.heap.size X X := Below.refl _ _)
        go_wp2
        go_loopw [14] (fun i wr => ∃ k : Nat, k ≤ pf.length ∧ i = .int .i64 k ∧ Qt X wr ∧ ∀ j, j < k → pf[j]?.getD 0 ∉ l) (fun i _ => pf.length - (intOf i).toNat)
        case atStart => exact ⟨0, Nat.zero_le _, rfl, Qt.refl _, fun j h => by omega⟩
        case round =>
          obtain ⟨k, hk, rfl, hq, hno⟩ := hrel
          have HQ := Lib.hid hq
          have HNo := Lib.hid hno
          replace hbx := hbx.trans (hq.below _)
          replace hb1 := hb1.trans (hq.below _)
          replace hb3 := hb3.trans (hq.below _)
          clear C0 C1 C2 hb hq hno
          obtain ⟨C0, C1, C2, hb⟩ := HC.out _ hbx
          by_cases hlt : k < pf.length
          · obtain ⟨ad1, had, _, p0⟩ := (HR3.out wr hb3).int (i := k) hlt
            subst had
            have HHas := Lib.hid (has_any (HRl.out wr hb1) (Nat.le_trans HLL.out (by omega)) (pf[k]?.getD 0))
            by_cases hm : pf[k]?.getD 0 ∈ l
            · rw [show decide (pf[k]?.getD 0 ∈ l) = true from decide_eq_true hm] at HHas
              clear hm
              generalize pf[k]?.getD 0 = z at *
              go_wp2_with (first | (go_at_call 48; refine HHas.out.mono ?_; rintro e wx ⟨rfl, hwx⟩; subst wx) | (go_at_call 20; (with_reducible refine Calls.mono (HA.out _ hb) ?_); rintro e X ⟨rfl, h4⟩; replace hbx := hbx.trans (h4.mono hbx.size); clear C0 C1 C2 hb h4; obtain ⟨C0, C1, C2, hb⟩ := HC.out _ hbx))
              go_ret
              exact ⟨rfl, hb⟩
            · rw [show decide (pf[k]?.getD 0 ∈ l) = false from decide_eq_false hm] at HHas
              have HM := Lib.hid hm
              clear hm
              generalize hz : pf[k]?.getD 0 = z at *
              have Hz := Lib.hid hz
              clear hz
              go_wp2_with (go_at_call 48; refine HHas.out.mono ?_; rintro e wx ⟨rfl, hwx⟩; subst wx)
              go_roundw
              case rel => exact ⟨k + 1, by omega, by go_num, HQ.out, fun j hj => by
                by_cases e : j = k
                · rw [e, Hz.out]; exact HM.out
                · exact HNo.out j (by omega)⟩
              case measure => simp [intOf]; omega
          · exfalso
            obtain ⟨j, hj, hjm⟩ := HH.out
            exact HNo.out j (by omega) hjm
    | false =>
      clear hb2
      go_upto_region 9 with (go_at_call 53; (with_reducible refine Calls.mono (HAsc.out _ _ ((HRl.out _ hb1).mono hb1.size)) ?_); rintro e X ⟨rfl, h4⟩; replace hbx := hbx.trans (h4.mono hbx.size); replace hb1 := hb1.trans (h4.mono hb1.size); clear C0 C1 C2 hb h4; obtain ⟨C0, C1, C2, hb⟩ := HC.out _ hbx)
      try clear hlt hlt2 hlt3
      clear HLt
      cases hfit : fitsB s with
      | true =>
        obtain ⟨hpe, hpf⟩ := proof_ok HGd.out hfit
        have HPr := Lib.hid (fun (Z : World) (h : Below w.heap.size w Z) => proof_at hpf hpe (HSR.out Z h) HN.out (Nat.le_trans hB h.size))
        rw [List.length_nil] at HPr
        have hl0 : l = [] := HNone.out hfit
        have e0 : ((l.length : Int) == 0) = true := by rw [hl0]; rfl
        clear hpe hpf hfit hl0
        go_wp2_with (first | (go_at_call 31; (with_reducible refine Calls.mono (HPr.out _ hb) ?_); rintro e X ⟨A3, c3, rfl, hr3, h4⟩; replace hbx := hbx.trans (h4.mono hbx.size); replace hb1 := hb1.trans (h4.mono hb1.size); clear C0 C1 C2 hb h4; obtain ⟨C0, C1, C2, hb⟩ := HC.out _ hbx) | (go_at_call 20; (with_reducible refine Calls.mono (HA.out _ hb) ?_); rintro e X ⟨rfl, h4⟩; replace hbx := hbx.trans (h4.mono hbx.size); clear C0 C1 C2 hb h4; obtain ⟨C0, C1, C2, hb⟩ := HC.out _ hbx))
        go_ret
        exact ⟨rfl, hb⟩
      | false =>
        obtain ⟨hpe, hpf⟩ := proof_bad HGd.out hfit
        have hPl := (proof_law HGd.out hfit).few
        have HH := Lib.hid (HHit.out hfit)
        generalize searchF s false = pf at *
        have HPr := Lib.hid (fun (Z : World) (h : Below w.heap.size w Z) => proof_at hpf hpe (HSR.out Z h) HN.out (Nat.le_trans hB h.size))
        have hpl : pf.length ≤ 1000 := Nat.le_trans hPl (by have := HNl.out; omega)
        clear hpe hpf hfit hPl
        go_upto_region 10 with (go_at_call 31; (with_reducible refine Calls.mono (HPr.out _ hb) ?_); rintro e X ⟨A3, c3, rfl, hr3, h4⟩; have HR3 := Lib.hid (fun (Z : World) (h : Below X.heap.size X Z) => hr3.below h); clear hr3; replace hbx := hbx.trans (h4.mono hbx.size); replace hb1 := hb1.trans (h4.mono hb1.size); clear C0 C1 C2 hb h4; obtain ⟨C0, C1, C2, hb⟩ := HC.out _ hbx; have hb3 : Below X.heap.size X X := Below.refl _ _)
        go_wp2
        go_loopw [14] (fun i wr => ∃ k : Nat, k ≤ pf.length ∧ i = .int .i64 k ∧ Qt X wr ∧ ∀ j, j < k → pf[j]?.getD 0 ∉ l) (fun i _ => pf.length - (intOf i).toNat)
        case atStart => exact ⟨0, Nat.zero_le _, rfl, Qt.refl _, fun j h => by omega⟩
        case round =>
          obtain ⟨k, hk, rfl, hq, hno⟩ := hrel
          have HQ := Lib.hid hq
          have HNo := Lib.hid hno
          replace hbx := hbx.trans (hq.below _)
          replace hb1 := hb1.trans (hq.below _)
          replace hb3 := hb3.trans (hq.below _)
          clear C0 C1 C2 hb hq hno
          obtain ⟨C0, C1, C2, hb⟩ := HC.out _ hbx
          by_cases hlt : k < pf.length
          · obtain ⟨ad1, had, _, p0⟩ := (HR3.out wr hb3).int (i := k) hlt
            subst had
            have HHas := Lib.hid (has_any (HRl.out wr hb1) (Nat.le_trans HLL.out (by omega)) (pf[k]?.getD 0))
            by_cases hm : pf[k]?.getD 0 ∈ l
            · rw [show decide (pf[k]?.getD 0 ∈ l) = true from decide_eq_true hm] at HHas
              clear hm
              generalize pf[k]?.getD 0 = z at *
              go_wp2_with (first | (go_at_call 48; refine HHas.out.mono ?_; rintro e wx ⟨rfl, hwx⟩; subst wx) | (go_at_call 20; (with_reducible refine Calls.mono (HA.out _ hb) ?_); rintro e X ⟨rfl, h4⟩; replace hbx := hbx.trans (h4.mono hbx.size); clear C0 C1 C2 hb h4; obtain ⟨C0, C1, C2, hb⟩ := HC.out _ hbx))
              go_ret
              exact ⟨rfl, hb⟩
            · rw [show decide (pf[k]?.getD 0 ∈ l) = false from decide_eq_false hm] at HHas
              have HM := Lib.hid hm
              clear hm
              generalize hz : pf[k]?.getD 0 = z at *
              have Hz := Lib.hid hz
              clear hz
              go_wp2_with (go_at_call 48; refine HHas.out.mono ?_; rintro e wx ⟨rfl, hwx⟩; subst wx)
              go_roundw
              case rel => exact ⟨k + 1, by omega, by go_num, HQ.out, fun j hj => by
                by_cases e : j = k
                · rw [e, Hz.out]; exact HM.out
                · exact HNo.out j (by omega)⟩
              case measure => simp [intOf]; omega
          · exfalso
            obtain ⟨j, hj, hjm⟩ := HH.out
            exact HNo.out j (by omega) hjm
  · have hd : decide (errOf s = 0) = false := decide_eq_false hv
    obtain ⟨_, _, hwf⟩ := proof_err hv
    obtain ⟨er, her⟩ : ∃ er, errOf s = er := ⟨_, rfl⟩
    have hne : (er != 0) = true := by rw [← her]; simpa using hv
    have HWr := Lib.hid (fun (Z : World) (h : Below w.heap.size w Z) => wrong_at hwf her (HSR.out Z h) HN.out (Nat.le_trans hB h.size))
    rw [List.length_nil] at HWr
    rw [hd] at HV
    clear hd hv hwf her
    go_upto_region 2 with (go_at_call 33; (with_reducible refine Calls.mono (HWr.out _ hb) ?_); rintro e X ⟨A1, c1, rfl, hr1, h4⟩; replace hbx := hbx.trans (h4.mono hbx.size); clear C0 C1 C2 hb h4; obtain ⟨C0, C1, C2, hb⟩ := HC.out _ hbx)
    go_wp2_with (first | (go_at_call 44; (with_reducible refine Calls.mono (HV.out _ hb) ?_); rintro e X ⟨rfl, h4⟩; replace hbx := hbx.trans (h4.mono hbx.size); clear C0 C1 C2 hb h4; obtain ⟨C0, C1, C2, hb⟩ := HC.out _ hbx) | (go_at_call 20; (with_reducible refine Calls.mono (HA.out _ hb) ?_); rintro e X ⟨rfl, h4⟩; replace hbx := hbx.trans (h4.mono hbx.size); clear C0 C1 C2 hb h4; obtain ⟨C0, C1, C2, hb⟩ := HC.out _ hbx))
    go_ret
    exact ⟨rfl, hb⟩
end Go.Proofs.YtajdgdelhlfniaaGreatDoor
