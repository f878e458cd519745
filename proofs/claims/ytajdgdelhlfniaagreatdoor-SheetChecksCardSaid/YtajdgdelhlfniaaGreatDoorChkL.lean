/- The law SheetChecks. -/
import Derived.Test.YtajdgdelhlfniaaGreatDoorAw1
import Derived.Test.YtajdgdelhlfniaaGreatDoorPCheck
import Derived.Test.YtajdgdelhlfniaaGreatDoorGName
set_option linter.unusedSimpArgs false
set_option linter.unusedVariables false
namespace Go.Proofs.YtajdgdelhlfniaaGreatDoor
open Go.RowKit

set_option maxRecDepth 100000 in
theorem checks_any {B : Nat} {w : World} {v : Value} {s : ShR} {nm : ByteArray} (hs : RdSh B w v s) (hn : Named s) (hB : B ≤ w.heap.size) (hnm : nm.size ≤ 9223372036854775807) (hgl : Glob w) :
    Calls Tryz.prog 3 #[v, .string nm] w fun e w' => e = .returned (.bool true) ∧ Below w.heap.size w w' := by
  have HP : ∀ X, Below w.heap.size w X → Calls Tryz.prog 16 #[v] X fun e w' => e = .returned (checkV s) ∧ Below X.heap.size X w' := fun X hb => pcheck_any (hs.below (hb.mono hB)) hn (Nat.le_trans hB hb.size)
  have HR : ∀ X, Below w.heap.size w X → Calls Tryz.prog 17 #[v] X fun e w' => e = .returned (checkV s) ∧ Below X.heap.size X w' := fun X hb => rcheck_any (hs.below (hb.mono hB)) hn (Nat.le_trans hB hb.size)
  have HA : ∀ X, Below w.heap.size w X → Calls Tryz.prog 20 #[] X fun e w' => e = .returned (.bool true) ∧ Below X.heap.size X w' := fun X hb => awake_any (hgl.below hb)
  obtain ⟨vp, vn, rfl, _, _⟩ := hs
  unfold checkV at HP HR
  generalize (check s).1 = a at HP HR
  generalize (check s).2.1 = b at HP HR
  generalize (check s).2.2 = c at HP HR
  generalize s.iv = iv at HP HR
  obtain ⟨W, hW, c0, c1, c2, hz, hb, hrow⟩ := sheet_box w iv vp vn
  have HC : Hid (∀ X : World, Below W.heap.size W X → X.cell? ⟨w.heap.size, 0, none⟩ = some (.int .i64 iv) ∧ X.cell? ⟨w.heap.size, 1, none⟩ = some vp ∧ X.cell? ⟨w.heap.size, 2, none⟩ = some vn ∧ w.heap.size < X.heap.size ∧ Below w.heap.size w X) :=
    Lib.hid fun X h => ⟨(h.cell (cell_lt c0)).trans c0, (h.cell (cell_lt c1)).trans c1, (h.cell (cell_lt c2)).trans c2, by have := h.size; omega, hb.trans (h.mono hb.size)⟩
  have hP := Lib.hid HP; have hR := Lib.hid HR; have hA := Lib.hid HA
  clear HP HR HA hn hrow hb hz hgl c0 c1 c2
  have hbx : Below W.heap.size W W := Below.refl _ _
  obtain ⟨c0, c1, c2, hz, hb⟩ := HC.out _ hbx
  go_enter Tryz.func3, Tryz.ntmps3
  go_upto_region 1 with (fail)
  rw [← hW]
  clear hW
  go_wp2_with (first
    | (go_at_call 16; with_reducible refine Calls.mono (hP.out _ hb) ?_; rintro e X ⟨rfl, h4⟩; replace hbx := hbx.trans (h4.mono hbx.size); clear c0 c1 c2 hz hb h4; obtain ⟨c0, c1, c2, hz, hb⟩ := HC.out _ hbx)
    | (go_at_call 17; with_reducible refine Calls.mono (hR.out _ hb) ?_; rintro e X ⟨rfl, h4⟩; replace hbx := hbx.trans (h4.mono hbx.size); clear c0 c1 c2 hz hb h4; obtain ⟨c0, c1, c2, hz, hb⟩ := HC.out _ hbx)
    | (go_at_call 18; with_reducible refine Calls.mono (name_any nm _ hnm) ?_; rintro e X ⟨rfl, h4⟩; replace hbx := hbx.trans (h4.mono hbx.size); clear c0 c1 c2 hz hb h4; obtain ⟨c0, c1, c2, hz, hb⟩ := HC.out _ hbx)
    | (go_at_call 19; with_reducible refine Calls.mono (nameRef_any nm _ hnm) ?_; rintro e X ⟨rfl, rfl⟩)
    | (go_at_call 20; with_reducible refine Calls.mono (hA.out _ hb) ?_; rintro e X ⟨rfl, h4⟩; replace hbx := hbx.trans (h4.mono hbx.size); clear c0 c1 c2 hz hb h4; obtain ⟨c0, c1, c2, hz, hb⟩ := HC.out _ hbx))
  go_ret
  exact ⟨rfl, hb⟩
end Go.Proofs.YtajdgdelhlfniaaGreatDoor
