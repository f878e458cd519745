/- Plain: whether a sheet fits, by its truths. -/
import Derived.Test.YtajdgdelhlfniaaGreatDoorGEv
set_option linter.unusedSimpArgs false
set_option linter.unusedVariables false
namespace Go.Proofs.YtajdgdelhlfniaaGreatDoor

/-- a truth of notes that are wider -/
def TruthOf (s : ShR) (wd : Int) (y : Nat → Int) : Prop := Sol 9 freeM y ∧ ∀ x ∈ s.notes, Says s.iv wd x y
theorem bounds_fine {s : ShR} (hg : Good s) (wd : Int) : Fine (boundsF s wd).1 := allM_fine hg.plen.2 (fun x hx => hg.notes x hx) free_fine
theorem bounds_sol {s : ShR} (hg : Good s) {wd : Int} (h : (boundsF s wd).2 = true) (y : Nat → Int) : Sol 9 (boundsF s wd).1 y ↔ TruthOf s wd y := allM_sol hg.plen.2 (fun x hx => hg.notes x hx) free_fine h y
theorem fit_iff {s : ShR} (hg : Good s) (wd : Int) : (boundsF s wd).2 = true ↔ ∃ y, TruthOf s wd y := by
  constructor
  · intro h
    obtain ⟨y, hy, _⟩ := (bounds_fine hg wd).closed.reach (i := 0) (k := 0) (by omega) (by omega)
    exact ⟨y, (bounds_sol hg h y).1 hy⟩
  · rintro ⟨y, hy⟩
    cases h : (boundsF s wd).2 with
    | true => rfl
    | false => exact absurd hy (allM_no hg.plen.2 (fun x hx => hg.notes x hx) free_fine h y)
theorem Says.wider {iv wd wd' : Int} {x : NoteR} {y : Nat → Int} (h : Says iv wd x y) (hw : wd ≤ wd') : Says iv wd' x y := by
  unfold Says at *
  omega
theorem TruthOf.wider {s : ShR} {wd wd' : Int} {y : Nat → Int} (h : TruthOf s wd y) (hw : wd ≤ wd') : TruthOf s wd' y := ⟨h.1, fun x hx => (h.2 x hx).wider hw⟩
theorem fit_mono {s : ShR} (hg : Good s) {wd wd' : Int} (h : (boundsF s wd).2 = true) (hw : wd ≤ wd') : (boundsF s wd').2 = true := by
  obtain ⟨y, hy⟩ := (fit_iff hg wd).1 h
  exact (fit_iff hg wd').2 ⟨y, hy.wider hw⟩
theorem isWider_eq {s : ShR} (hg : Good s) {n k : Int} (h : IsWider s n) (hk0 : 0 ≤ k) (hk : k ≤ 9000) (hy : (boundsF s k).2 = true) (hn : k = 0 ∨ (boundsF s (k - 1)).2 = false) : n = k := by
  have h0 := h.ge
  have h9 := h.le
  have hyes := h.yes
  have hno := h.no
  rcases Int.lt_trichotomy n k with hlt | he | hgt
  · exfalso
    rcases hyes with rfl | hyes
    · omega
    · rcases hn with rfl | hn
      · omega
      · have := fit_mono hg hyes (wd' := k - 1) (by omega)
        rw [hn] at this; cases this
  · exact he
  · exfalso
    rcases hno with rfl | hno
    · omega
    · have := fit_mono hg hy (wd' := n - 1) (by omega)
      rw [hno] at this; cases this
theorem goodB : Good (sheetX [stX]) := good_of_valid errB
theorem widB {n : Int} (h : IsWider (sheetX [stX]) n) : n = 60 :=
  isWider_eq goodB h (by omega) (by omega) ((rep_all rep_free ptB).2.trans (by kernel_rfl)) (.inr ((rep_all rep_free ptB).2.trans (by kernel_rfl)))
end Go.Proofs.YtajdgdelhlfniaaGreatDoor
