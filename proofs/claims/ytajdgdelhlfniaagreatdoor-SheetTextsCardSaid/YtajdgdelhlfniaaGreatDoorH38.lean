/- Walks of the reference of the layer sheet: Write. -/
import Derived.Test.YtajdgdelhlfniaaGreatDoorH37
import Derived.Test.YtajdgdelhlfniaaGreatDoorH5
import Derived.Test.YtajdgdelhlfniaaGreatDoorH19
set_option linter.unusedSimpArgs false
set_option linter.unusedVariables false
namespace Go.Proofs.YtajdgdelhlfniaaGreatDoor
open Go.RowKit

set_option maxRecDepth 100000 in
set_option maxHeartbeats 1000000 in
theorem rwrite_any {B : Nat} {w : World} {v : Value} {s : ShR} (hs : RdSh B w v s) (hn : Named s) (hB : B ≤ w.heap.size) :
    Calls Tryz.prog 38 #[v] w fun e w' => e = .returned (.tuple #[.string ⟨(writeF s).toArray⟩, .int .i64 (errOf s)]) ∧ Below w.heap.size w w' := by
  obtain ⟨vp, vn, rfl, hp, ho⟩ := id hs
  obtain ⟨W1, hW1, r1, z1, d1⟩ := box_any w #[.int .i64 s.iv, vp, vn] 25
  have HS := Lib.hid hs
  have HB1 := Lib.hid d1
  have HC := Lib.hid (rcheck_any (w := W1) (hs.below (d1.mono hB)) hn (Nat.le_trans hB d1.size))
  have q0 := cellOf r1 0 rfl
  have q1 := cellOf r1 1 rfl
  have q2 := cellOf r1 2 rfl
  unfold checkV at HC
  have heo : errOf s = (check s).2.2 := rfl
  rw [← heo] at HC
  generalize (check s).1 = e1 at *
  generalize (check s).2.1 = e2 at *
  clear heo hs hp ho r1 z1 d1
  by_cases he : errOf s = 0
  · have hne : (errOf s != 0) = false := by simp [he]
    have HR := Lib.hid (show writeF s = textB s by simp [writeF, he])
    have HT := Lib.hid (fun (X : World) (hb : Below W1.heap.size W1 X) => rtext_any (w := X) (HS.out.below ((HB1.out.trans (hb.mono HB1.out.size)).mono hB)) (good_of_valid he) (Nat.le_trans hB (Nat.le_trans HB1.out.size hb.size)))
    have HE := Lib.hid he
    clear he
    go_enter Tryz.func38, Tryz.ntmps38
    go_upto_region 1 with (fail)
    rw [← hW1]
    clear hW1
    go_wp2_with (first | (go_at_call 17; refine HC.out.mono ?_; rintro e w3 ⟨rfl, hb3⟩; have q0 := (hb3.cell (cell_lt q0)).trans q0; have q1 := (hb3.cell (cell_lt q1)).trans q1; have q2 := (hb3.cell (cell_lt q2)).trans q2) | (go_at_call 79; refine (HT.out _ hb3).mono ?_; rintro e w4 ⟨rfl, hb4⟩))
    go_ret2
    exact ⟨by rw [HR.out, HE.out]; rfl, HB1.out.trans ((hb3.trans (hb4.mono hb3.size)).mono HB1.out.size)⟩
  · have hne : (errOf s != 0) = true := by simp [he]
    have HR := Lib.hid (show writeF s = [] by simp [writeF, he])
    clear he
    go_enter Tryz.func38, Tryz.ntmps38
    go_upto_region 1 with (fail)
    rw [← hW1]
    clear hW1
    go_wp2_with (go_at_call 17; refine HC.out.mono ?_; rintro e w3 ⟨rfl, hb3⟩)
    go_ret2
    exact ⟨by rw [HR.out]; rfl, HB1.out.trans (hb3.mono HB1.out.size)⟩
end Go.Proofs.YtajdgdelhlfniaaGreatDoor
