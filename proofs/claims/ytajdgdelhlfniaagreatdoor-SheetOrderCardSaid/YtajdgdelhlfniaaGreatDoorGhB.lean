/- The ghost law's bookkeeping where every operation leaves what there was: what each has yielded. -/
import Derived.Test.YtajdgdelhlfniaaGreatDoorGWi
set_option linter.unusedSimpArgs false
set_option linter.unusedVariables false
namespace Go.Proofs.YtajdgdelhlfniaaGreatDoor
open Go.RowKit

structure BlI (W : World) (F : Nat → Value → World → Prop) (L : Nat → Bool) (vs : Nat → Value) (X : World) : Prop where
  bel : Below W.heap.size W X
  fs : ∀ k, L k = true → F k (vs k) X
/-- what is said of the values stays true -/
def Keeps (F : Nat → Value → World → Prop) : Prop := ∀ k v X X', F k v X → Below X.heap.size X X' → F k v X'
theorem BlI.start {W : World} {F : Nat → Value → World → Prop} : BlI W F (fun _ => false) (fun _ => undef) W.drew := ⟨(Below.refl _ _).drew, fun _ h => (by cases h)⟩
theorem BlI.step {W : World} {F : Nat → Value → World → Prop} {L : Nat → Bool} {vs : Nat → Value} {X X' : World} {i : Nat} {v : Value} (h : BlI W F L vs X) (hF : Keeps F) (hb : Below X.heap.size X X') (hv : F i v X') : BlI W F (updB L i) (updV vs i v) X' := by
  refine ⟨h.bel.trans (hb.mono h.bel.size), fun k hk => ?_⟩
  by_cases e : k = i
  · subst e; rw [updV_self]; exact hv
  · rw [updV_other _ _ e]
    rw [updB_other _ e] at hk
    exact hF _ _ _ _ (h.fs k hk) hb
theorem BlI.read {W : World} {F : Nat → Value → World → Prop} {L : Nat → Bool} {vs : Nat → Value} {X : World} {i : Nat} {v : Value} (h : BlI W F L vs X) (hF : Keeps F) (hv : F i v X) : BlI W F (updB L i) (updV vs i v) X := h.step hF (Below.refl _ _) hv
/-- some values read as a sheet, all others are known -/
def FS (sh : Nat → Bool) (t : ShR) (val : Nat → Value) (k : Nat) (v : Value) (X : World) : Prop := (sh k = true → RdSh X.heap.size X v t) ∧ (sh k = false → v = val k)
theorem FS.keeps (sh : Nat → Bool) (t : ShR) (val : Nat → Value) : Keeps (FS sh t val) := fun _ _ _ _ h hb => ⟨fun hs => ((h.1 hs).below hb).mono hb.size, h.2⟩
theorem FS.known {sh : Nat → Bool} {t : ShR} {val : Nat → Value} {k : Nat} {X : World} (hk : sh k = false) : FS sh t val k (val k) X := ⟨fun h => (by rw [hk] at h; cases h), fun _ => rfl⟩
/-- one more: some values read as numbers -/
def FI (ns : Nat → Option (List Int)) (val : Nat → Value) (k : Nat) (v : Value) (X : World) : Prop := (∀ l, ns k = some l → Rd IntAt 1 X.heap.size X v l) ∧ (ns k = none → v = val k)
theorem FI.keeps (ns : Nat → Option (List Int)) (val : Nat → Value) : Keeps (FI ns val) := fun _ _ _ _ h hb => ⟨fun l hs => ((h.1 l hs).below hb).mono hb.size, h.2⟩
theorem GO.move {α : Type} {At : World → Addr → α → Prop} {sz : Nat} [E : Enc α At sz] {base : Nat} {T : TypeId} {W X : World} {own : Nat → Bool} {con : Nat → Nat} {L : Nat → Bool} {xs : Nat → List α} {vs : Nat → Value} {i j : Nat} (h : GO base T W (lv own con L) xs vs X) (hj : lv own con L j) (hc : con j = i) (hx : xs i = xs j) :
    GO base T W (lv own con (updB L i)) xs (updV vs i (vs j)) X :=
  h.app hj hc (hx ▸ h.own j hj) ⟨rfl, rfl, rfl, Nat.le_refl _, fun _ _ _ => rfl⟩ (.inl rfl)
end Go.Proofs.YtajdgdelhlfniaaGreatDoor
