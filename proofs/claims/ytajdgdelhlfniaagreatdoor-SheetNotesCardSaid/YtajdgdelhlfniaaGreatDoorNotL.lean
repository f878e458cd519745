/- The law SheetNotes: its walk. -/
import Derived.Test.YtajdgdelhlfniaaGreatDoorGRn
import Derived.Test.YtajdgdelhlfniaaGreatDoorGAw
set_option linter.unusedSimpArgs false
set_option linter.unusedVariables false
namespace Go.Proofs.YtajdgdelhlfniaaGreatDoor
open Go.RowKit

theorem fewR_len (s : ShR) (a f : Bool) : (fewR s a f).length ≤ s.notes.length := by
  unfold fewR
  cases h : (manyL s.notes.length (s.notes.length + 1)).find? (askR s a f) with
  | none => simp
  | some m =>
    have := (mem_manyL.1 (List.mem_of_find?_eq_some h)).2
    simp only [Option.getD_some]
    omega
theorem proofF_len (s : ShR) : (proofF s).length ≤ 1000000 := by
  by_cases he : errOf s = 0
  · have hg := good_of_valid he
    cases hf : fitsB s with
    | true => unfold proofF; rw [if_neg (by simp [he]), if_pos hf]; simp
    | false =>
      rw [← proof_ref hg hf]
      have := fewR_len s true false
      have := hg.nlen
      omega
  · unfold proofF; rw [if_pos he]; simp
theorem wrongF_len (s : ShR) : (wrongF s).length ≤ 1000000 := by
  by_cases he : errOf s = 0
  · have hg := good_of_valid he
    rw [← wrong_ref hg]
    have := fewR_len s false true
    have := hg.nlen
    omega
  · unfold wrongF; rw [if_pos he]; simp
def WdP (s : ShR) (n : Int) : Prop := (errOf s ≠ 0 → n = 0) ∧ (errOf s = 0 → IsWider s n)
theorem pwider_any {B : Nat} {w : World} {v : Value} {s : ShR} (hs : RdSh B w v s) (hn : Named s) (hB : B ≤ w.heap.size) :
    Calls Tryz.prog 35 #[v] w fun e w' => ∃ n, e = .returned (.tuple #[.int .i64 n, .int .i64 (errOf s)]) ∧ WdP s n ∧ Below w.heap.size w w' := by
  refine (wider_any hs hn hB).mono ?_
  rintro e w' ⟨n, rfl, h0, h1, hb⟩
  exact ⟨n, rfl, ⟨h0, h1⟩, hb⟩
theorem rwider_any {B : Nat} {w : World} {v : Value} {s : ShR} {n : Int} (hp : WdP s n) (hs : RdSh B w v s) (hn : Named s) (hB : B ≤ w.heap.size) :
    Calls Tryz.prog 36 #[v] w fun e w' => e = .returned (.tuple #[.int .i64 n, .int .i64 (errOf s)]) ∧ Below w.heap.size w w' := by
  by_cases he : errOf s = 0
  · rw [he]
    exact rwider_ok he (hp.2 he) hs hn hB
  · rw [hp.1 he]
    exact rwider_err he hs hn hB

set_option maxRecDepth 100000 in
set_option maxHeartbeats 4000000 in
theorem notes_any {B : Nat} {w : World} {v : Value} {s : ShR} (hs : RdSh B w v s) (hn : Named s) (hB : B ≤ w.heap.size) (hgl : Glob w) :
    Calls Tryz.prog 5 #[v] w fun e w' => e = .returned (.bool true) ∧ Below w.heap.size w w' := by
  have HSR := Lib.hid (fun (X : World) (hb : Below w.heap.size w X) => hs.below (hb.mono hB))
  have HA := Lib.hid (fun (X : World) (hb : Below w.heap.size w X) => awake_any (w := X) (hgl.below hb))
  have HN := Lib.hid hn
  obtain ⟨vp, vn, rfl, hpp, hnn⟩ := hs
  obtain ⟨Ap, cp, rfl, _⟩ := id hpp
  obtain ⟨An, cn, rfl, _⟩ := id hnn
  obtain ⟨W1, hW1, r1, z1, b1⟩ := box_any w #[.int .i64 s.iv, .slice Ap s.pts.length cp, .slice An s.notes.length cn] 25
  have HC : Hid (∀ Z : World, Below W1.heap.size W1 Z → Z.cell? ⟨w.heap.size, 0, none⟩ = some (.int .i64 s.iv) ∧ Z.cell? ⟨w.heap.size, 1, none⟩ = some (.slice Ap s.pts.length cp) ∧ Z.cell? ⟨w.heap.size, 2, none⟩ = some (.slice An s.notes.length cn) ∧ Below w.heap.size w Z) :=
    Lib.hid fun Z h => by
      have j1 := (h.block _ (lt_of_block r1)).trans r1
      exact ⟨cellOf j1 0 rfl, cellOf j1 1 rfl, cellOf j1 2 rfl, b1.trans (h.mono b1.size)⟩
  have hbx : Below W1.heap.size W1 W1 := Below.refl _ _
  obtain ⟨C0, C1, C2, hb⟩ := HC.out _ hbx
  clear r1 z1 b1 hn hgl hpp hnn
  have P1 := Lib.hid (show ∀ (Z : World) (_ : Below w.heap.size w Z), Calls Tryz.prog 31 #[.agg #[.int .i64 s.iv, .slice Ap s.pts.length cp, .slice An s.notes.length cn]] Z fun e w' => ∃ A c, e = .returned (.tuple #[.slice A (proofF s).length c, .int .i64 (proofE s)]) ∧ Rd IntAt 1 w'.heap.size w' (.slice A (proofF s).length c) (proofF s) ∧ Below Z.heap.size Z w' from fun Z h =>
    (proof_any (HSR.out Z h) HN.out (Nat.le_trans hB h.size)).mono fun e w' ⟨A, c, e1, ho, hb⟩ => ⟨A, c, e1, ho.rd, hb⟩)
  have P2 := Lib.hid (fun (Z : World) (h : Below w.heap.size w Z) => rproof_any (HSR.out Z h) HN.out (Nat.le_trans hB h.size))
  have Q1 := Lib.hid (show ∀ (Z : World) (_ : Below w.heap.size w Z), Calls Tryz.prog 33 #[.agg #[.int .i64 s.iv, .slice Ap s.pts.length cp, .slice An s.notes.length cn]] Z fun e w' => ∃ A c, e = .returned (.tuple #[.slice A (wrongF s).length c, .int .i64 (errOf s)]) ∧ Rd IntAt 1 w'.heap.size w' (.slice A (wrongF s).length c) (wrongF s) ∧ Below Z.heap.size Z w' from fun Z h =>
    (wrong_any (HSR.out Z h) HN.out (Nat.le_trans hB h.size)).mono fun e w' ⟨A, c, e1, ho, hb⟩ => ⟨A, c, e1, ho.rd, hb⟩)
  have Q2 := Lib.hid (fun (Z : World) (h : Below w.heap.size w Z) => rwrong_any (HSR.out Z h) HN.out (Nat.le_trans hB h.size))
  have D1 := Lib.hid (fun (Z : World) (h : Below w.heap.size w Z) => pwider_any (HSR.out Z h) HN.out (Nat.le_trans hB h.size))
  have D2 := Lib.hid (fun (Z : World) (h : Below w.heap.size w Z) (n : Int) (hp : WdP s n) => rwider_any hp (HSR.out Z h) HN.out (Nat.le_trans hB h.size))
  have HLP := Lib.hid (proofF_len s)
  have HLW := Lib.hid (wrongF_len s)
  generalize proofF s = lp at *
  generalize wrongF s = lw at *
  generalize proofE s = pe at *
  generalize errOf s = er at *
  have f1 : (pe != pe) = false := by simp
  have f2 : (er != er) = false := by simp
  have f3 : (er == er) = true := by simp
  go_enter Tryz.func5, Tryz.ntmps5
  go_upto_region 1 with (fail)
  rw [← hW1]
  clear hW1
  go_upto_region 2 with (go_at_call 31; (with_reducible refine Calls.mono (P1.out _ hb) ?_); rintro e X ⟨Ah1, ch1, rfl, hr1, h4⟩; have HR1 := Lib.hid (fun (Z : World) (h : Below X.heap.size X Z) => hr1.below h); clear hr1; replace hbx := hbx.trans (h4.mono hbx.size); clear C0 C1 C2 hb h4; obtain ⟨C0, C1, C2, hb⟩ := HC.out _ hbx; have hb3 : Below X.heap.size X X := Below.refl _ _)
  go_upto_region 3 with (go_at_call 32; (with_reducible refine Calls.mono (P2.out _ hb) ?_); rintro e X ⟨Ah2, ch2, rfl, hr2, h4⟩; have HR2 := Lib.hid (fun (Z : World) (h : Below X.heap.size X Z) => hr2.below h); clear hr2; replace hbx := hbx.trans (h4.mono hbx.size); replace hb3 := hb3.trans (h4.mono hb3.size); clear C0 C1 C2 hb h4; obtain ⟨C0, C1, C2, hb⟩ := HC.out _ hbx; have hb4 : Below X.heap.size X X := Below.refl _ _)
  have HI1 := Lib.hid (show ∀ Z, _ → _ → Calls Tryz.prog 30 #[.slice Ah1 lp.length ch1, .slice Ah2 lp.length ch2] Z fun e w' => e = .returned (.bool true) ∧ Below Z.heap.size Z w' from fun Z h h' => by
    refine (ints_any (HR1.out Z h) (HR2.out Z h') HLP.out).mono ?_
    rintro e w' ⟨rfl, hq⟩
    rw [decide_eq_true rfl]
    exact ⟨rfl, hq.below _⟩)
  go_upto_region 5 with (go_at_call 30; (with_reducible refine Calls.mono (HI1.out _ hb3 hb4) ?_); rintro e X ⟨rfl, h4⟩; replace hbx := hbx.trans (h4.mono hbx.size); replace hb3 := hb3.trans (h4.mono hb3.size); replace hb4 := hb4.trans (h4.mono hb4.size); clear C0 C1 C2 hb h4; obtain ⟨C0, C1, C2, hb⟩ := HC.out _ hbx)
  clear HI1 HR1 HR2 hb3 hb4 P1 P2
  go_upto_region 6 with (go_at_call 33; (with_reducible refine Calls.mono (Q1.out _ hb) ?_); rintro e X ⟨Ag1, cg1, rfl, hr3, h4⟩; have HR3 := Lib.hid (fun (Z : World) (h : Below X.heap.size X Z) => hr3.below h); clear hr3; replace hbx := hbx.trans (h4.mono hbx.size); clear C0 C1 C2 hb h4; obtain ⟨C0, C1, C2, hb⟩ := HC.out _ hbx; have hb5 : Below X.heap.size X X := Below.refl _ _)
  go_upto_region 7 with (go_at_call 34; (with_reducible refine Calls.mono (Q2.out _ hb) ?_); rintro e X ⟨Ag2, cg2, rfl, hr4, h4⟩; have HR4 := Lib.hid (fun (Z : World) (h : Below X.heap.size X Z) => hr4.below h); clear hr4; replace hbx := hbx.trans (h4.mono hbx.size); replace hb5 := hb5.trans (h4.mono hb5.size); clear C0 C1 C2 hb h4; obtain ⟨C0, C1, C2, hb⟩ := HC.out _ hbx; have hb6 : Below X.heap.size X X := Below.refl _ _)
  have HI2 := Lib.hid (show ∀ Z, _ → _ → Calls Tryz.prog 30 #[.slice Ag1 lw.length cg1, .slice Ag2 lw.length cg2] Z fun e w' => e = .returned (.bool true) ∧ Below Z.heap.size Z w' from fun Z h h' => by
    refine (ints_any (HR3.out Z h) (HR4.out Z h') HLW.out).mono ?_
    rintro e w' ⟨rfl, hq⟩
    rw [decide_eq_true rfl]
    exact ⟨rfl, hq.below _⟩)
  go_upto_region 9 with (go_at_call 30; (with_reducible refine Calls.mono (HI2.out _ hb5 hb6) ?_); rintro e X ⟨rfl, h4⟩; replace hbx := hbx.trans (h4.mono hbx.size); replace hb5 := hb5.trans (h4.mono hb5.size); replace hb6 := hb6.trans (h4.mono hb6.size); clear C0 C1 C2 hb h4; obtain ⟨C0, C1, C2, hb⟩ := HC.out _ hbx)
  clear HI2 HR3 HR4 hb5 hb6 Q1 Q2
  go_upto_region 10 with (go_at_call 35; (with_reducible refine Calls.mono (D1.out _ hb) ?_); rintro e X ⟨n, rfl, hpn, h4⟩; have Hpn := Lib.hid hpn; clear hpn; replace hbx := hbx.trans (h4.mono hbx.size); clear C0 C1 C2 hb h4; obtain ⟨C0, C1, C2, hb⟩ := HC.out _ hbx)
  go_upto_region 11 with (go_at_call 36; (with_reducible refine Calls.mono (D2.out _ hb n Hpn.out) ?_); rintro e X ⟨rfl, h4⟩; replace hbx := hbx.trans (h4.mono hbx.size); clear C0 C1 C2 hb h4; obtain ⟨C0, C1, C2, hb⟩ := HC.out _ hbx)
  have f4 : (n == n) = true := by simp
  go_wp2_with (go_at_call 20; (with_reducible refine Calls.mono (HA.out _ hb) ?_); rintro e X ⟨rfl, h4⟩; replace hbx := hbx.trans (h4.mono hbx.size); clear C0 C1 C2 hb h4; obtain ⟨C0, C1, C2, hb⟩ := HC.out _ hbx)
  go_ret
  exact ⟨rfl, hb⟩
end Go.Proofs.YtajdgdelhlfniaaGreatDoor
