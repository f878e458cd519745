/- The ghost law's bookkeeping where every operation leaves what there was: what each has yielded. Parts of a slice: what they read as. Plain: what Proof and Wrong answer. -/
import Derived.Test.YtajdgdelhlfniaaGreatDoorGWi
import Derived.DataElems
set_option linter.unusedSimpArgs false
set_option linter.unusedVariables false
namespace Go.Proofs.YtajdgdelhlfniaaGreatDoor
open Go.RowKit

structure BlI (W : World) (F : Nat → Value → World → Prop) (L : Nat → Bool) (vs : Nat → Value) (X : World) : Prop where
  bel : Below W.heap.size W X
  fs : ∀ k, L k = true → F k (vs k) X
/-- what is said of the values stays true -/
def Keeps (F : Nat → Value → World → Prop) : Prop := ∀ k v X X', F k v X → Below X.heap.size X X' → F k v X'
theorem BlI.start {W : World} {F : Nat → Value → World → Prop} : BlI W F (fun _ => false) (fun _ => undef) W.drew := ⟨(Below.refl _ _).drew, fun _ h => (by cases h)⟩
theorem BlI.step {W : World} {F : Nat → Value → World → Prop} {L : Nat → Bool} {vs : Nat → Value} {X X' : World} {i : Nat} {v : Value} (h : BlI W F L vs X) (hF : Keeps F) (hb : Below X.heap.size X X') (hv : F i v X') : BlI W F (updB L i) (updV vs i v) X' := by
  refine ⟨h.bel.trans (hb.mono h.bel.size), fun k hk => ?_⟩
  by_cases e : k = i
  · subst e; rw [updV_self]; exact hv
  · rw [updV_other _ _ e]
    rw [updB_other _ e] at hk
    exact hF _ _ _ _ (h.fs k hk) hb
theorem BlI.read {W : World} {F : Nat → Value → World → Prop} {L : Nat → Bool} {vs : Nat → Value} {X : World} {i : Nat} {v : Value} (h : BlI W F L vs X) (hF : Keeps F) (hv : F i v X) : BlI W F (updB L i) (updV vs i v) X := h.step hF (Below.refl _ _) hv
/-- some values read as a sheet, all others are known -/
def FS (sh : Nat → Bool) (t : ShR) (val : Nat → Value) (k : Nat) (v : Value) (X : World) : Prop := (sh k = true → RdSh X.heap.size X v t) ∧ (sh k = false → v = val k)
theorem FS.keeps (sh : Nat → Bool) (t : ShR) (val : Nat → Value) : Keeps (FS sh t val) := fun _ _ _ _ h hb => ⟨fun hs => ((h.1 hs).below hb).mono hb.size, h.2⟩
theorem FS.known {sh : Nat → Bool} {t : ShR} {val : Nat → Value} {k : Nat} {X : World} (hk : sh k = false) : FS sh t val k (val k) X := ⟨fun h => (by rw [hk] at h; cases h), fun _ => rfl⟩
/-- one more: some values read as numbers -/
def FI (ns : Nat → Option (List Int)) (val : Nat → Value) (k : Nat) (v : Value) (X : World) : Prop := (∀ l, ns k = some l → Rd IntAt 1 X.heap.size X v l) ∧ (ns k = none → v = val k)
theorem FI.keeps (ns : Nat → Option (List Int)) (val : Nat → Value) : Keeps (FI ns val) := fun _ _ _ _ h hb => ⟨fun l hs => ((h.1 l hs).below hb).mono hb.size, h.2⟩
theorem GO.move {α : Type} {At : World → Addr → α → Prop} {sz : Nat} [E : Enc α At sz] {base : Nat} {T : TypeId} {W X : World} {own : Nat → Bool} {con : Nat → Nat} {L : Nat → Bool} {xs : Nat → List α} {vs : Nat → Value} {i j : Nat} (h : GO base T W (lv own con L) xs vs X) (hj : lv own con L j) (hc : con j = i) (hx : xs i = xs j) :
    GO base T W (lv own con (updB L i)) xs (updV vs i (vs j)) X :=
  h.app hj hc (hx ▸ h.own j hj) ⟨rfl, rfl, rfl, Nat.le_refl _, fun _ _ _ => rfl⟩ (.inl rfl)
end Go.Proofs.YtajdgdelhlfniaaGreatDoor
namespace Go.Proofs.YtajdgdelhlfniaaGreatDoor
open Go.RowKit

theorem Rd.takeP {α : Type} {At : World → Addr → α → Prop} {sz B : Nat} {w : World} {A : Option Addr} {n c : Nat} {xs : List α} (h : Rd At sz B w (.slice A n c) xs) {k : Nat} (hk : k ≤ xs.length) : Rd At sz B w (.slice A k c) (xs.take k) := by
  obtain ⟨A', cap, e, h1, h2, h3⟩ := h
  injection e with e0 e1 e2
  subst e0 e2
  refine ⟨A, c, by rw [List.length_take, Nat.min_eq_left hk], by rw [List.length_take]; omega, h2, fun i y hy => ?_⟩
  have hi := (List.getElem?_eq_some_iff.1 hy).1
  rw [List.length_take] at hi
  exact h3 i y (by rw [List.getElem?_take, if_pos (by omega)] at hy; exact hy)
theorem Rd.dropP {α : Type} {At : World → Addr → α → Prop} {sz B : Nat} {w : World} {a : Addr} {n c : Nat} {xs : List α} (h : Rd At sz B w (.slice (some a) n c) xs) {k : Nat} (_hk : k ≤ xs.length) : Rd At sz B w (.slice (some (a.add (k * sz))) (n - k) (c - k)) (xs.drop k) := by
  obtain ⟨A', cap, e, h1, h2, h3⟩ := h
  injection e with e0 e1 e2
  subst e0 e1 e2
  refine ⟨some (a.add (k * sz)), c - k, by rw [List.length_drop], by rw [List.length_drop]; omega, by omega, fun i y hy => ?_⟩
  rw [List.getElem?_drop] at hy
  obtain ⟨ad, e, hb, hat⟩ := h3 (k + i) y hy
  cases e
  refine ⟨_, rfl, by rw [block_add]; exact hb, ?_⟩
  rw [Addr.add_add, ← Nat.add_mul]
  exact hat

/-! ### plain: what Proof answers -/
theorem less_inR {n : Nat} {l : List Int} (h : InR n 0 l) (k : Nat) : InR n 0 (l.take k ++ l.drop (k + 1)) :=
  h.sub (by
    conv => rhs; rw [← List.take_append_drop k l]
    refine List.Sublist.append (List.Sublist.refl _) ?_
    rw [← List.drop_drop]
    exact List.drop_sublist _ _)
structure ProofP (s : ShR) (l : List Int) : Prop where
  asc : ascB l s.notes.length = true
  bad : fitsB (someS s l true) = false
  least : ∀ m, InR s.notes.length 0 m → fitsB (someS s m true) = false → l.length ≤ m.length
  one : ∀ k, k < l.length → fitsB (someS s (l.take k ++ l.drop (k + 1)) true) = true
  few : l.length ≤ s.notes.length
theorem inR_len {n : Nat} : ∀ {l : List Int} {i : Nat}, InR n i l → l.length + i ≤ n ∨ l = [] := by
  intro l
  induction l with
  | nil => intro i _; exact .inr rfl
  | cons x l ih =>
    intro i h
    obtain ⟨h1, h2, h3⟩ := h
    left
    rcases ih h3 with h | rfl
    · simp only [List.length_cons]; omega
    · simp only [List.length_cons, List.length_nil]; omega
theorem proof_law {s : ShR} (hg : Good s) (h : fitsB s = false) : ProofP s (searchF s false) := by
  have hL := search_right hg (idxL_inR _) (bad_all hg h)
  generalize searchF s false = l at *
  have hbad : ∀ m, InR s.notes.length 0 m → fitsB (someS s m true) = false → BadL s m := fun m hm hf => by
    refine Classical.byContradiction fun hn => ?_
    rw [(fits_in hg hm).2 hn] at hf
    cases hf
  refine ⟨hL.inr.asc, ?_, fun m hm hf => (hL.least m hm (hbad m hm hf)).le, fun k hk => ?_, by rcases inR_len hL.inr with h | rfl <;> simp_all⟩
  · cases hf : fitsB (someS s l true) with
    | false => rfl
    | true => exact absurd hL.ok ((fits_in hg hL.inr).1 hf)
  · cases hf : fitsB (someS s (l.take k ++ l.drop (k + 1)) true) with
    | true => rfl
    | false =>
      have := (hL.least _ (less_inR hL.inr k) (hbad _ (less_inR hL.inr k) hf)).le
      rw [List.length_append, List.length_take, List.length_drop] at this
      omega
theorem proof_ok {s : ShR} (hg : Good s) (h : fitsB s = true) : proofE s = 4 ∧ proofF s = [] := by
  unfold proofE proofF
  simp [errOf_good hg, h]
theorem proof_bad {s : ShR} (hg : Good s) (h : fitsB s = false) : proofE s = 0 ∧ proofF s = searchF s false := by
  unfold proofE proofF
  simp [errOf_good hg, h]
theorem proof_err {s : ShR} (h : errOf s ≠ 0) : proofE s = errOf s ∧ proofF s = [] ∧ wrongF s = [] := by
  unfold proofE proofF wrongF
  rw [if_pos h, if_pos h, if_pos h]
  exact ⟨rfl, rfl, rfl⟩

/-! ### plain: what Wrong answers -/
structure WrongP (s : ShR) (l : List Int) : Prop where
  asc : ascB l s.notes.length = true
  good : fitsB (someS s l false) = true
  least : ∀ m, InR s.notes.length 0 m → fitsB (someS s m false) = true → l.length ≤ m.length
  none_ : fitsB s = true → l = []
  hit : fitsB s = false → ∃ k, k < (searchF s false).length ∧ (searchF s false)[k]?.getD 0 ∈ l
  few : l.length ≤ s.notes.length
theorem wrong_law {s : ShR} (hg : Good s) : wrongF s = searchF s true ∧ WrongP s (searchF s true) := by
  refine ⟨by unfold wrongF; rw [if_neg (by simp [errOf_good hg])], ?_⟩
  have hL := search_left hg (idxL_inR _) (goodW_all s)
  generalize searchF s true = l at *
  refine ⟨hL.inr.asc, (fits_out hg).2 hL.ok, fun m hm hf => (hL.least m hm ((fits_out hg).1 hf)).le, fun hf => ?_, fun hf => ?_, by rcases inR_len hL.inr with h | rfl <;> simp_all⟩
  · have := (hL.least [] trivial (goodW_nil hg hf)).le
    exact List.length_eq_zero_iff.1 (by simpa using this)
  · have hR := search_right hg (idxL_inR _) (bad_all hg hf)
    refine Classical.byContradiction fun hn => ?_
    obtain ⟨y, hy, hs⟩ := hL.ok
    refine hR.ok y ⟨hy, fun j hj => ?_⟩
    obtain ⟨k, hk, e⟩ := List.getElem_of_mem hj
    have hm := hR.inr.mem j hj
    have := hs j.toNat (by omega) (fun hjl => hn ⟨k, hk, by rw [List.getElem?_eq_getElem hk, e]; rw [show ((j.toNat : Nat) : Int) = j by omega] at hjl; exact hjl⟩)
    rwa [show ((j.toNat : Nat) : Int) = j by omega] at this
end Go.Proofs.YtajdgdelhlfniaaGreatDoor
