/- What the walk of SheetWider asks of calls. -/
import Derived.Test.YtajdgdelhlfniaaGreatDoorGAw
import Derived.Test.YtajdgdelhlfniaaGreatDoorGPl
import Derived.Test.YtajdgdelhlfniaaGreatDoorGB
set_option linter.unusedSimpArgs false
set_option linter.unusedVariables false
namespace Go.Proofs.YtajdgdelhlfniaaGreatDoor
open Go.RowKit

theorem fits_atW {B : Nat} {w : World} {v : Value} {s : ShR} {f : Bool} {er : Int} (hf : fitsB s = f) (he : errOf s = er) (hs : RdSh B w v s) (hn : Named s) (hB : B ≤ w.heap.size) :
    Calls Tryz.prog 21 #[v] w fun e w' => e = .returned (.tuple #[.bool f, .int .i64 er]) ∧ Below w.heap.size w w' := by
  subst hf he
  exact fits_any hs hn hB
theorem wider_atW {B : Nat} {w : World} {v : Value} {s : ShR} (he : errOf s = 0) (hs : RdSh B w v s) (hn : Named s) (hB : B ≤ w.heap.size) :
    Calls Tryz.prog 35 #[v] w fun e w' => ∃ n, e = .returned (.tuple #[.int .i64 n, .int .i64 0]) ∧ IsWider s n ∧ Below w.heap.size w w' := by
  refine (wider_any hs hn hB).mono ?_
  rintro e w' ⟨n, rfl, _, h, hb⟩
  rw [he]
  exact ⟨n, rfl, h he, hb⟩
theorem truth_atW {B Bx : Nat} {w : World} {v vx : Value} {s : ShR} {l : List Int} (hs : RdSh B w v s) (hx : Rd U16At 1 Bx w vx l) (hl : ∀ x ∈ l, 0 ≤ x ∧ x ≤ 65535) (hB : B ≤ w.heap.size) (hBx : Bx ≤ w.heap.size) (hpl : s.pts.length ≤ 1000) :
    Calls Tryz.prog 45 #[v, vx] w fun e w' => ∃ A c, e = .returned (.slice A s.pts.length c) ∧ Rd IntAt 1 w'.heap.size w' (.slice A s.pts.length c) (truthL l s.pts.length) ∧ Below w.heap.size w w' := by
  refine (truth_any (hs.mono hB) (hx.mono hBx) hl (Nat.le_refl _) hpl).mono ?_
  rintro e w' ⟨A, c, rfl, ho, hb⟩
  refine ⟨A, c, rfl, ?_, hb⟩
  have := ho.rd
  exact this
end Go.Proofs.YtajdgdelhlfniaaGreatDoor
