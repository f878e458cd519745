/- Parts of the proof of TpP: Pure, Base. -/
import Derived.Test.YthnimhnlnddnoaaGreatDoorProg
import Derived.WalkKit
import Derived.Deep.AppendLies
import Derived.Deep.Draws
import Derived.Deep.Quiet
import Derived.Lib.Hide
import Derived.BigQuiet
import Derived.Deep.QuietTactic
import Derived.StillTailTactics
import Derived.WalkSpells
import Derived.WalkLawsBesides
import Derived.WalkSmall
import Derived.KernelRfl
set_option linter.unusedSimpArgs false
set_option linter.unusedVariables false
set_option maxRecDepth 100000
set_option maxHeartbeats 8000000
namespace Go.Proofs.YthnimhnlnddnoaaGreatDoor
structure NoteR where
 kind : Int
 a : Int
 b : Int
 lo : Int
 hi : Int
 deriving DecidableEq
structure ShR where
 iv : Int
 pts : List ByteArray
 notes : List NoteR
instance : Inhabited NoteR := ⟨⟨0, 0, 0, 0, 0⟩⟩
def inB (n lo hi : Int) : Bool := decide (lo ≤ n) && decide (n ≤ hi)
def outB (lo hi : Int) (l : List Int) : Bool := l.any fun n => decide (n < lo) || decide (hi < n)
theorem inB_iff {n lo hi : Int} : inB n lo hi = true ↔ lo ≤ n ∧ n ≤ hi := by simp [inB]
theorem inB_false {n lo hi : Int} : inB n lo hi = false ↔ ¬ (lo ≤ n ∧ n ≤ hi) := by rw [← inB_iff]; simp
def loB (c : UInt8) : Bool := decide (97 ≤ c.toNat) && decide (c.toNat ≤ 122)
def restB (c : UInt8) : Bool := loB c || (decide (48 ≤ c.toNat) && decide (c.toNat ≤ 57)) || c.toNat == 45
def nameL (l : List UInt8) : Bool :=
 match l with
 | [] => false
 | c :: r => loB c && r.all restB && decide (l.length ≤ 16)
def nameB (s : ByteArray) : Bool := nameL s.data.toList
def fst? (n : Nat) (p : Nat → Bool) : Option Nat := (List.range n).find? p
theorem fst?_some {n k : Nat} {p : Nat → Bool} (hk : k < n) (hp : p k = true) (hb : ∀ j, j < k → p j = false) : fst? n p = some k := by
 unfold fst?
 rw [List.find?_range_eq_some]
 refine ⟨hp, by simpa using hk, fun j hj => by simp [hb j hj]⟩
theorem fst?_none {n : Nat} {p : Nat → Bool} (hb : ∀ j, j < n → p j = false) : fst? n p = none := by
 unfold fst?
 rw [List.find?_eq_none]
 intro x hx
 simp [hb x (by simpa using hx)]
theorem fst?_spec {n k : Nat} {p : Nat → Bool} (h : fst? n p = some k) : k < n ∧ p k = true ∧ ∀ j, j < k → p j = false := by
 unfold fst? at h
 rw [List.find?_range_eq_some] at h
 obtain ⟨h1, h2, h3⟩ := h
 exact ⟨by simpa using h2, h1, fun j hj => by simpa using h3 j hj⟩
theorem fst?_none_spec {n : Nat} {p : Nat → Bool} (h : fst? n p = none) : ∀ j, j < n → p j = false := by
 unfold fst? at h
 rw [List.find?_eq_none] at h
 intro j hj
 simpa using h j (by simpa using hj)
theorem getD_at {α : Type} {l : List α} {i : Nat} (h : i < l.length) (d : α) : l.getD i d = l[i] := by
 rw [List.getD_eq_getElem?_getD, List.getElem?_eq_getElem h]; rfl
theorem getD_mem {α : Type} {l : List α} {i : Nat} (h : i < l.length) (d : α) : l.getD i d ∈ l := by
 rw [getD_at h]; exact List.getElem_mem h
theorem take_succ_getD {α : Type} {l : List α} {k : Nat} (h : k < l.length) (d : α) : l.take (k + 1) = l.take k ++ [l.getD k d] := by
 rw [getD_at h, List.take_succ_eq_append_getElem h]
def freshErr (s : ByteArray) (l : List ByteArray) : Int := if nameB s = false then 6 else if (l.any fun x => x.toList == s.toList) then 5 else 0
def rangeErr (lo hi low high : Int) : Int := if inB lo low high = false ∨ inB hi low high = false then 7 else if hi < lo then 2 else 0
def noteErr (np : Nat) (iv : Int) (x : NoteR) : Int :=
 if inB x.kind 1 4 = false then 6
 else if inB x.a 0 ((np : Int) - 1) = false ∨ inB x.b 0 ((np : Int) - 1) = false then 4
 else if ((x.kind = 3 ∨ x.kind = 4) ∧ x.a = x.b) ∨ (¬ (x.kind = 3 ∨ x.kind = 4) ∧ x.b ≠ 0) then 2
 else if x.kind = 1 then rangeErr x.lo x.hi 0 9000
 else if x.kind = 4 then rangeErr x.lo x.hi (-9000) 9000
 else if x.kind = 3 then rangeErr x.lo x.hi 0 0
 else if rangeErr x.lo x.hi 0 (9000 / iv) ≠ 0 then rangeErr x.lo x.hi 0 (9000 / iv)
 else if x.lo = x.hi then 2 else 0
def ptErr (s : ShR) (i : Nat) : Int := freshErr (s.pts.getD i ByteArray.empty) (s.pts.take i)
def check (s : ShR) : Int × Int × Int :=
 if inB s.iv 1 1000 = false then (1, 0, 7)
 else if inB s.pts.length 1 8 = false then (2, 0, 3)
 else match fst? s.pts.length fun i => ptErr s i != 0 with
 | some i => (2, i, ptErr s i)
 | none =>
 if 12 < s.notes.length then (3, 0, 3)
 else match fst? s.notes.length fun i => noteErr s.pts.length s.iv (s.notes.getD i default) != 0 with
 | some i => (3, i, noteErr s.pts.length s.iv (s.notes.getD i default))
 | none => (0, 0, 0)
def errOf (s : ShR) : Int := (check s).2.2
def Valid (s : ShR) : Prop := errOf s = 0
structure NoteOK (np : Nat) (iv : Int) (x : NoteR) : Prop where
 kind : 1 ≤ x.kind ∧ x.kind ≤ 4
 a : 0 ≤ x.a ∧ x.a < np
 b : 0 ≤ x.b ∧ x.b < np
 two : (x.kind = 3 ∨ x.kind = 4) → x.a ≠ x.b
 one : (x.kind = 1 ∨ x.kind = 2) → x.b = 0
 le : x.lo ≤ x.hi
 spot : x.kind = 1 → 0 ≤ x.lo ∧ x.hi ≤ 9000
 band : x.kind = 2 → 0 ≤ x.lo ∧ x.hi * iv ≤ 9000 ∧ x.lo < x.hi
 lake : x.kind = 3 → x.lo = 0 ∧ x.hi = 0
 slope : x.kind = 4 → -9000 ≤ x.lo ∧ x.hi ≤ 9000
structure Good (s : ShR) : Prop where
 iv : 1 ≤ s.iv ∧ s.iv ≤ 1000
 plen : 1 ≤ s.pts.length ∧ s.pts.length ≤ 8
 names : ∀ p ∈ s.pts, nameB p = true
 fresh : ∀ i, i < s.pts.length → ((s.pts.take i).any fun x => x.toList == (s.pts.getD i ByteArray.empty).toList) = false
 nlen : s.notes.length ≤ 12
 notes : ∀ x ∈ s.notes, NoteOK s.pts.length s.iv x
theorem rangeErr_zero {lo hi low high : Int} : rangeErr lo hi low high = 0 ↔ low ≤ lo ∧ hi ≤ high ∧ lo ≤ hi := by
 unfold rangeErr
 simp only [inB_false]
 split
 ·constructor
  ·intro h; omega
  ·intro h; omega
 ·split <;> omega
theorem noteErr_zero {np : Nat} {iv : Int} {x : NoteR} (hiv : 1 ≤ iv) : noteErr np iv x = 0 ↔ NoteOK np iv x := by
 have hdiv : ∀ k : Int, k ≤ 9000 / iv ↔ k * iv ≤ 9000 := fun k => Int.le_ediv_iff_mul_le (by omega)
 unfold noteErr
 simp only [inB_false]
 by_cases h1 : ¬ (1 ≤ x.kind ∧ x.kind ≤ 4)
 ·rw [if_pos h1]
  exact ⟨fun h => by omega, fun h => absurd h.kind h1⟩
 rw [if_neg h1]
 by_cases h2 : ¬ (0 ≤ x.a ∧ x.a ≤ (np : Int) - 1) ∨ ¬ (0 ≤ x.b ∧ x.b ≤ (np : Int) - 1)
 ·rw [if_pos h2]
  exact ⟨fun h => by omega, fun h => by have := h.a; have := h.b; omega⟩
 rw [if_neg h2]
 by_cases h3 : ((x.kind = 3 ∨ x.kind = 4) ∧ x.a = x.b) ∨ (¬ (x.kind = 3 ∨ x.kind = 4) ∧ x.b ≠ 0)
 ·rw [if_pos h3]
  exact ⟨fun h => by omega, fun h => by have := h.two; have := h.one; have := h.kind; omega⟩
 rw [if_neg h3]
 have base : ∀ (le : x.lo ≤ x.hi) (spot : x.kind = 1 → 0 ≤ x.lo ∧ x.hi ≤ 9000) (band : x.kind = 2 → 0 ≤ x.lo ∧ x.hi * iv ≤ 9000 ∧ x.lo < x.hi) (lake : x.kind = 3 → x.lo = 0 ∧ x.hi = 0) (slope : x.kind = 4 → -9000 ≤ x.lo ∧ x.hi ≤ 9000), NoteOK np iv x :=
  fun le spot band lake slope => ⟨by omega, by omega, by omega, by omega, by omega, le, spot, band, lake, slope⟩
 by_cases k1 : x.kind = 1
 ·rw [if_pos k1, rangeErr_zero]
  exact ⟨fun h => base (by omega) (by omega) (by omega) (by omega) (by omega), fun h => ⟨(h.spot k1).1, (h.spot k1).2, h.le⟩⟩
 rw [if_neg k1]
 by_cases k4 : x.kind = 4
 ·rw [if_pos k4, rangeErr_zero]
  exact ⟨fun h => base (by omega) (by omega) (by omega) (by omega) (by omega), fun h => ⟨(h.slope k4).1, (h.slope k4).2, h.le⟩⟩
 rw [if_neg k4]
 by_cases k3 : x.kind = 3
 ·rw [if_pos k3, rangeErr_zero]
  exact ⟨fun h => base (by omega) (by omega) (by omega) (by omega) (by omega), fun h => by have := h.lake k3; omega⟩
 rw [if_neg k3]
 have k2 : x.kind = 2 := by omega
 by_cases h4 : rangeErr x.lo x.hi 0 (9000 / iv) ≠ 0
 ·rw [if_pos h4]
  refine ⟨fun h => absurd h h4, fun h => absurd (rangeErr_zero.2 ⟨(h.band k2).1, (hdiv _).2 (h.band k2).2.1, h.le⟩) h4⟩
 rw [if_neg h4]
 have h5 := rangeErr_zero.1 (Classical.byContradiction h4)
 by_cases h6 : x.lo = x.hi
 ·rw [if_pos h6]
  exact ⟨fun h => by omega, fun h => by have := h.band k2; omega⟩
 ·rw [if_neg h6]
  exact ⟨fun _ => base (by omega) (by omega) (fun _ => ⟨h5.1, (hdiv _).1 h5.2.1, by omega⟩) (by omega) (by omega), fun _ => rfl⟩
theorem freshErr_zero {s : ByteArray} {l : List ByteArray} : freshErr s l = 0 ↔ nameB s = true ∧ (l.any fun x => x.toList == s.toList) = false := by
 unfold freshErr
 by_cases h : nameB s = false
 ·simp [h]
 ·rw [if_neg h]
  cases (l.any fun x => x.toList == s.toList) <;> simp_all
theorem check_cases (s : ShR) :
  (inB s.iv 1 1000 = false ∧ check s = (1, 0, 7)) ∨
  (inB s.iv 1 1000 = true ∧ inB s.pts.length 1 8 = false ∧ check s = (2, 0, 3)) ∨
  (inB s.iv 1 1000 = true ∧ inB s.pts.length 1 8 = true ∧ ∃ i, i < s.pts.length ∧ ptErr s i ≠ 0 ∧ (∀ j, j < i → ptErr s j = 0) ∧ check s = ((2, (i : Int), ptErr s i) : Int × Int × Int)) ∨
  (inB s.iv 1 1000 = true ∧ inB s.pts.length 1 8 = true ∧ (∀ j, j < s.pts.length → ptErr s j = 0) ∧ 12 < s.notes.length ∧ check s = (3, 0, 3)) ∨
  (inB s.iv 1 1000 = true ∧ inB s.pts.length 1 8 = true ∧ (∀ j, j < s.pts.length → ptErr s j = 0) ∧ s.notes.length ≤ 12 ∧
   ∃ i, i < s.notes.length ∧ noteErr s.pts.length s.iv (s.notes.getD i default) ≠ 0 ∧ (∀ j, j < i → noteErr s.pts.length s.iv (s.notes.getD j default) = 0) ∧ check s = ((3, (i : Int), noteErr s.pts.length s.iv (s.notes.getD i default)) : Int × Int × Int)) ∨
  (inB s.iv 1 1000 = true ∧ inB s.pts.length 1 8 = true ∧ (∀ j, j < s.pts.length → ptErr s j = 0) ∧ s.notes.length ≤ 12 ∧ (∀ j, j < s.notes.length → noteErr s.pts.length s.iv (s.notes.getD j default) = 0) ∧ check s = (0, 0, 0)) := by
 by_cases h1 : inB s.iv 1 1000 = false
 ·exact .inl ⟨h1, by unfold check; rw [if_pos h1]⟩
 ·have h1' : inB s.iv 1 1000 = true := by simpa using h1
  refine .inr ?_
  by_cases h2 : inB s.pts.length 1 8 = false
  ·exact .inl ⟨h1', h2, by unfold check; rw [if_neg h1, if_pos h2]⟩
  ·have h2' : inB s.pts.length 1 8 = true := by simpa using h2
   refine .inr ?_
   cases h3 : fst? s.pts.length fun i => ptErr s i != 0 with
   | some i =>
    obtain ⟨a, b, c⟩ := fst?_spec h3
    exact .inl ⟨h1', h2', i, a, by simpa using b, fun j hj => by simpa using c j hj, by unfold check; rw [if_neg h1, if_neg h2, h3]⟩
   | none =>
    have c := fst?_none_spec h3
    have hp : ∀ j, j < s.pts.length → ptErr s j = 0 := fun j hj => by simpa using c j hj
    refine .inr ?_
    by_cases h4 : 12 < s.notes.length
    ·exact .inl ⟨h1', h2', hp, h4, by unfold check; rw [if_neg h1, if_neg h2, h3]; simp only; rw [if_pos h4]⟩
    ·refine .inr ?_
     cases h5 : fst? s.notes.length fun i => noteErr s.pts.length s.iv (s.notes.getD i default) != 0 with
     | some i =>
      obtain ⟨a, b, c⟩ := fst?_spec h5
      exact .inl ⟨h1', h2', hp, by omega, i, a, by simpa using b, fun j hj => by simpa using c j hj, by unfold check; rw [if_neg h1, if_neg h2, h3]; simp only; rw [if_neg h4, h5]⟩
     | none =>
      have c := fst?_none_spec h5
      exact .inr ⟨h1', h2', hp, by omega, fun j hj => by simpa using c j hj, by unfold check; rw [if_neg h1, if_neg h2, h3]; simp only; rw [if_neg h4, h5]⟩
theorem check_iv {s : ShR} (h : inB s.iv 1 1000 = false) : check s = (1, 0, 7) := by unfold check; rw [if_pos h]
theorem check_len {s : ShR} (h : inB s.iv 1 1000 = true) (h2 : inB s.pts.length 1 8 = false) : check s = (2, 0, 3) := by unfold check; rw [if_neg (by simp [h]), if_pos h2]
theorem check_pt {s : ShR} {i : Nat} (h : inB s.iv 1 1000 = true) (h2 : inB s.pts.length 1 8 = true) (hi : i < s.pts.length) (he : ptErr s i ≠ 0) (hb : ∀ j, j < i → ptErr s j = 0) : check s = ((2, (i : Int), ptErr s i) : Int × Int × Int) := by
 unfold check
 rw [if_neg (by simp [h]), if_neg (by simp [h2]), fst?_some (p := fun i => ptErr s i != 0) hi (by simpa using he) (fun j hj => by simpa using hb j hj)]
theorem check_many {s : ShR} (h : inB s.iv 1 1000 = true) (h2 : inB s.pts.length 1 8 = true) (hb : ∀ j, j < s.pts.length → ptErr s j = 0) (hn : 12 < s.notes.length) : check s = (3, 0, 3) := by
 unfold check
 rw [if_neg (by simp [h]), if_neg (by simp [h2]), fst?_none (p := fun i => ptErr s i != 0) (fun j hj => by simpa using hb j hj)]
 simp only
 rw [if_pos hn]
theorem check_note {s : ShR} {i : Nat} (h : inB s.iv 1 1000 = true) (h2 : inB s.pts.length 1 8 = true) (hb : ∀ j, j < s.pts.length → ptErr s j = 0) (hn : ¬ 12 < s.notes.length) (hi : i < s.notes.length)
  (he : noteErr s.pts.length s.iv (s.notes.getD i default) ≠ 0) (hbn : ∀ j, j < i → noteErr s.pts.length s.iv (s.notes.getD j default) = 0) : check s = ((3, (i : Int), noteErr s.pts.length s.iv (s.notes.getD i default)) : Int × Int × Int) := by
 unfold check
 rw [if_neg (by simp [h]), if_neg (by simp [h2]), fst?_none (p := fun i => ptErr s i != 0) (fun j hj => by simpa using hb j hj)]
 simp only
 rw [if_neg hn, fst?_some (p := fun i => noteErr s.pts.length s.iv (s.notes.getD i default) != 0) hi (by simpa using he) (fun j hj => by simpa using hbn j hj)]
theorem check_none {s : ShR} (h : inB s.iv 1 1000 = true) (h2 : inB s.pts.length 1 8 = true) (hb : ∀ j, j < s.pts.length → ptErr s j = 0) (hn : ¬ 12 < s.notes.length)
  (hbn : ∀ j, j < s.notes.length → noteErr s.pts.length s.iv (s.notes.getD j default) = 0) : check s = (0, 0, 0) := by
 unfold check
 rw [if_neg (by simp [h]), if_neg (by simp [h2]), fst?_none (p := fun i => ptErr s i != 0) (fun j hj => by simpa using hb j hj)]
 simp only
 rw [if_neg hn, fst?_none (p := fun i => noteErr s.pts.length s.iv (s.notes.getD i default) != 0) (fun j hj => by simpa using hbn j hj)]
theorem good_of_valid {s : ShR} (h : Valid s) : Good s := by
 unfold Valid errOf at h
 rcases check_cases s with ⟨_, e⟩ | ⟨_, _, e⟩ | ⟨_, _, i, _, h3, _, e⟩ | ⟨_, _, _, _, e⟩ | ⟨_, _, _, _, i, _, h3, _, e⟩ | ⟨h1, h2, h3, h4, h5, e⟩
 ·rw [e] at h; cases h
 ·rw [e] at h; cases h
 ·rw [e] at h; exact absurd h h3
 ·rw [e] at h; cases h
 ·rw [e] at h; exact absurd h h3
 ·have h1 := inB_iff.1 h1
  have h2 := inB_iff.1 h2
  refine ⟨h1, by omega, fun p hp => ?_, fun i hi => (freshErr_zero.1 (h3 i hi)).2, h4, fun x hx => ?_⟩
  ·obtain ⟨i, hi, rfl⟩ := List.getElem_of_mem hp
   have := (freshErr_zero.1 (h3 i hi)).1
   rwa [getD_at hi] at this
  ·obtain ⟨i, hi, rfl⟩ := List.getElem_of_mem hx
   have := (noteErr_zero h1.1).1 (h5 i hi)
   rwa [getD_at hi] at this
theorem valid_of_good {s : ShR} (h : Good s) : Valid s := by
 unfold Valid errOf
 have hi1 := inB_iff.2 h.iv
 have hi2 : inB s.pts.length 1 8 = true := inB_iff.2 (by have := h.plen; omega)
 have hp : ∀ j, j < s.pts.length → ptErr s j = 0 := fun j hj => freshErr_zero.2 ⟨h.names _ (getD_mem hj _), h.fresh j hj⟩
 have hn : ∀ j, j < s.notes.length → noteErr s.pts.length s.iv (s.notes.getD j default) = 0 := fun j hj => (noteErr_zero h.iv.1).2 (h.notes _ (getD_mem hj _))
 have hl := h.nlen
 rcases check_cases s with ⟨g, e⟩ | ⟨_, g, e⟩ | ⟨_, _, i, g1, g2, _, e⟩ | ⟨_, _, _, g, e⟩ | ⟨_, _, _, _, i, g1, g2, _, e⟩ | ⟨_, _, _, _, _, e⟩
 ·rw [hi1] at g; cases g
 ·rw [hi2] at g; cases g
 ·exact absurd (hp i g1) g2
 ·omega
 ·exact absurd (hn i g1) g2
 ·rw [e]
end Go.Proofs.YthnimhnlnddnoaaGreatDoor
namespace Go.Proofs.YthnimhnlnddnoaaGreatDoor
open Go.RowKit
def Qt (w w' : World) : Prop := ∃ n, w' = w.drewN n
theorem Qt.refl (w : World) : Qt w w := ⟨0, rfl⟩
theorem Qt.trans {a b c : World} (h : Qt a b) (k : Qt b c) : Qt a c := by
 obtain ⟨n, rfl⟩ := h
 obtain ⟨m, rfl⟩ := k
 exact ⟨n + m, by rw [World.drewN_drewN]⟩
theorem Qt.below {w w' : World} (h : Qt w w') (B : Nat) : Below B w w' := by
 obtain ⟨n, rfl⟩ := h
 exact below_drewN (Below.refl _ _) n
theorem Qt.cell {w w' : World} (h : Qt w w') {a : Addr} {v : Value} (hc : w.cell? a = some v) : w'.cell? a = some v := by
 obtain ⟨n, rfl⟩ := h
 exact hc
theorem Qt.drewN {w w' : World} (h : Qt w w') (n : Nat) : Qt w (w'.drewN n) := h.trans ⟨n, rfl⟩
theorem ret_int {k : IntKind} {a b : Int} (h : a = b) : Ending.returned (.int k a) = .returned (.int k b) := by rw [h]
theorem ret_bool {a b : Bool} (h : a = b) : Ending.returned (.bool a) = .returned (.bool b) := by rw [h]
theorem block_add (a : Addr) (n : Nat) : (a.add n).block = a.block := by unfold Addr.add; split <;> rfl
class AtKeep {α : Type} (At : World → Addr → α → Prop) : Prop where
 keep : ∀ (w w' : World) (a : Addr) (x : α), (∀ p : Addr, p.block = a.block → w'.cell? p = w.cell? p) → At w a x → At w' a x
 some_ : ∀ (w : World) (a : Addr) (x : α), At w a x → ∃ v, w.cell? a = some v
def IntAt (w : World) (a : Addr) (n : Int) : Prop := w.cell? a = some (.int .i64 n)
def StrAt (w : World) (a : Addr) (s : ByteArray) : Prop := w.cell? a = some (.string s)
def NoteAt (w : World) (a : Addr) (o : NoteR) : Prop :=
 w.cell? a = some (.int .i64 o.kind) ∧ w.cell? ⟨a.block, a.off + 1, none⟩ = some (.int .i64 o.a) ∧ w.cell? ⟨a.block, a.off + 2, none⟩ = some (.int .i64 o.b) ∧ w.cell? ⟨a.block, a.off + 3, none⟩ = some (.int .i64 o.lo) ∧ w.cell? ⟨a.block, a.off + 4, none⟩ = some (.int .i64 o.hi)
def SpanAt (w : World) (a : Addr) (c : Int × Int) : Prop :=
 w.cell? a = some (.int .i64 c.1) ∧ w.cell? ⟨a.block, a.off + 1, none⟩ = some (.int .i64 c.2)
instance : AtKeep IntAt := ⟨fun _ _ a _ h k => (h a rfl).trans k, fun _ _ _ h => ⟨_, h⟩⟩
instance : AtKeep StrAt := ⟨fun _ _ a _ h k => (h a rfl).trans k, fun _ _ _ h => ⟨_, h⟩⟩
instance : AtKeep NoteAt := ⟨fun _ _ a _ h ⟨h0, h1, h2, h3, h4⟩ => ⟨(h a rfl).trans h0, (h ⟨a.block, a.off + 1, none⟩ rfl).trans h1, (h ⟨a.block, a.off + 2, none⟩ rfl).trans h2, (h ⟨a.block, a.off + 3, none⟩ rfl).trans h3, (h ⟨a.block, a.off + 4, none⟩ rfl).trans h4⟩, fun _ _ _ h => ⟨_, h.1⟩⟩
instance : AtKeep SpanAt := ⟨fun _ _ a _ h ⟨h0, h1⟩ => ⟨(h a rfl).trans h0, (h ⟨a.block, a.off + 1, none⟩ rfl).trans h1⟩, fun _ _ _ h => ⟨_, h.1⟩⟩
def Rd {α : Type} (At : World → Addr → α → Prop) (sz B : Nat) (w : World) (v : Value) (xs : List α) : Prop :=
 ∃ A cap, v = .slice A xs.length cap ∧ xs.length ≤ cap ∧ cap ≤ 9223372036854775807 ∧ ∀ i x, xs[i]? = some x → ∃ ad, A = some ad ∧ ad.block < B ∧ At w (ad.add (i * sz)) x
section
variable {α : Type} {At : World → Addr → α → Prop} {sz B B' : Nat} {w w' : World} {v : Value} {xs : List α}
theorem Rd.keep [AtKeep At] (h : Rd At sz B w v xs) (hk : ∀ p : Addr, p.block < B → w'.cell? p = w.cell? p) : Rd At sz B w' v xs := by
 obtain ⟨A, cap, e, h1, h2, h3⟩ := h
 refine ⟨A, cap, e, h1, h2, fun i x hx => ?_⟩
 obtain ⟨ad, e2, hb, ha⟩ := h3 i x hx
 exact ⟨ad, e2, hb, AtKeep.keep w w' _ x (fun p hp => hk p (by rw [hp, block_add]; exact hb)) ha⟩
theorem Rd.mono (h : Rd At sz B w v xs) (hB : B ≤ B') : Rd At sz B' w v xs := by
 obtain ⟨A, cap, e, h1, h2, h3⟩ := h
 exact ⟨A, cap, e, h1, h2, fun i x hx => by obtain ⟨ad, e2, hb, ha⟩ := h3 i x hx; exact ⟨ad, e2, by omega, ha⟩⟩
theorem Rd.below [AtKeep At] (h : Rd At sz B w v xs) (hb : Below B w w') : Rd At sz B w' v xs := h.keep fun _ hp => hb.cell hp
theorem Rd.qt [AtKeep At] (h : Rd At sz B w v xs) (hb : Qt w w') : Rd At sz B w' v xs := h.below (hb.below B)
theorem Rd.alloc [AtKeep At] (h : Rd At sz B w v xs) (hB : B ≤ w.heap.size) (o : Obj) : Rd At sz B (w.alloc o) v xs := h.keep fun p hp => World.cell?_alloc_lt w o p (by omega)
theorem Rd.nil (B : Nat) (w : World) : Rd At sz B w (.slice none 0 0) ([] : List α) := ⟨none, 0, rfl, by simp, by omega, by simp⟩
theorem Rd.len (h : Rd At sz B w v xs) : xs.length ≤ 9223372036854775807 := by
 obtain ⟨A, cap, e, h1, h2, h3⟩ := h
 omega
end
theorem Rd.int {B i : Nat} {w : World} {A : Option Addr} {n cap : Nat} {xs : List Int} (h : Rd IntAt 1 B w (.slice A n cap) xs) (hi : i < xs.length) :
  ∃ ad, A = some ad ∧ ad.block < B ∧ w.cell? (ad.add i) = some (.int .i64 (xs[i]?.getD 0)) := by
 obtain ⟨A', cap', e, h1, h2, h3⟩ := h
 obtain ⟨ad, e2, hb, ha⟩ := h3 i xs[i] (List.getElem?_eq_getElem hi)
 injection e with e e' e''
 subst e
 exact ⟨ad, e2, hb, by rw [Nat.mul_one] at ha; simpa [List.getElem?_eq_getElem hi, IntAt] using ha⟩
theorem Rd.note {B i : Nat} {w : World} {A : Option Addr} {n cap : Nat} {xs : List NoteR} (h : Rd NoteAt 5 B w (.slice A n cap) xs) (hi : i < xs.length) :
  ∃ ad, A = some ad ∧ ad.block < B ∧ NoteAt w (ad.add (i * 5)) (xs[i]?.getD default) := by
 obtain ⟨A', cap', e, h1, h2, h3⟩ := h
 obtain ⟨ad, e2, hb, ha⟩ := h3 i xs[i] (List.getElem?_eq_getElem hi)
 injection e with e e' e''
 subst e
 exact ⟨ad, e2, hb, by simpa [List.getElem?_eq_getElem hi] using ha⟩
theorem Rd.span {B i : Nat} {w : World} {A : Option Addr} {n cap : Nat} {xs : List (Int × Int)} (h : Rd SpanAt 2 B w (.slice A n cap) xs) (hi : i < xs.length) :
  ∃ ad, A = some ad ∧ ad.block < B ∧ SpanAt w (ad.add (i * 2)) (xs[i]?.getD default) := by
 obtain ⟨A', cap', e, h1, h2, h3⟩ := h
 obtain ⟨ad, e2, hb, ha⟩ := h3 i xs[i] (List.getElem?_eq_getElem hi)
 injection e with e e' e''
 subst e
 exact ⟨ad, e2, hb, by simpa [List.getElem?_eq_getElem hi] using ha⟩
theorem Rd.one (w : World) (x : Int) : Rd IntAt 1 (w.heap.size + 1) (w.alloc (.cells #[.int .i64 x] 3)) (.slice (some ⟨w.heap.size, 0, none⟩) 1 1) [x] := by
 refine ⟨_, _, rfl, by simp, by omega, fun i y hy => ?_⟩
 match i, hy with
 | 0, hy =>
  simp at hy
  subst hy
  exact ⟨_, rfl, by simp, (cell_of_row _ _ 0 _ _ _ (heap_alloc_new w _)).trans rfl⟩
def RdSh (B : Nat) (w : World) (v : Value) (s : ShR) : Prop :=
 ∃ vp vn, v = .agg #[.int .i64 s.iv, vp, vn] ∧ Rd StrAt 1 B w vp s.pts ∧ Rd NoteAt 5 B w vn s.notes
section
variable {B B' : Nat} {w w' : World} {v : Value} {s : ShR}
theorem RdSh.keep (h : RdSh B w v s) (hk : ∀ p : Addr, p.block < B → w'.cell? p = w.cell? p) : RdSh B w' v s := by
 obtain ⟨vp, vo, e, h2, h3⟩ := h
 exact ⟨vp, vo, e, h2.keep hk, h3.keep hk⟩
theorem RdSh.mono (h : RdSh B w v s) (hB : B ≤ B') : RdSh B' w v s := by
 obtain ⟨vp, vo, e, h2, h3⟩ := h
 exact ⟨vp, vo, e, h2.mono hB, h3.mono hB⟩
theorem RdSh.below (h : RdSh B w v s) (hb : Below B w w') : RdSh B w' v s := h.keep fun _ hp => hb.cell hp
end
def noteV (x : NoteR) : Value := .agg #[.int .i64 x.kind, .int .i64 x.a, .int .i64 x.b, .int .i64 x.lo, .int .i64 x.hi]
theorem box_any (w : World) (cs : Array Value) (t : TypeId) : ∃ W, W = w.alloc (.cells cs t) ∧ W.heap[w.heap.size]? = some (.cells cs t) ∧ W.heap.size = w.heap.size + 1 ∧ Below w.heap.size w W :=
 ⟨_, rfl, heap_alloc_new w _, by simp, (Below.refl _ _).alloc (Nat.le_refl _) _⟩
theorem cellOf {w : World} {b : Nat} {cs : Array Value} {t : TypeId} (h : w.heap[b]? = some (.cells cs t)) (i : Nat) {v : Value} (hv : cs[i]? = some v) : w.cell? ⟨b, i, none⟩ = some v :=
 (cell_of_row _ _ i _ _ _ h).trans hv
class Enc (α : Type) (At : outParam (World → Addr → α → Prop)) (sz : outParam Nat) where
 enc : α → List Value
 len : ∀ x, (enc x).length = sz
 at_ : ∀ (w : World) (b o : Nat) (x : α), (∀ j u, (enc x)[j]? = some u → w.cell? ⟨b, o + j, none⟩ = some u) → At w ⟨b, o, none⟩ x
instance : Enc Int IntAt 1 := ⟨fun n => [.int .i64 n], fun _ => rfl, fun _ _ _ _ h => h 0 _ rfl⟩
instance : Enc ByteArray StrAt 1 := ⟨fun s => [.string s], fun _ => rfl, fun _ _ _ _ h => h 0 _ rfl⟩
instance : Enc NoteR NoteAt 5 := ⟨fun o => [.int .i64 o.kind, .int .i64 o.a, .int .i64 o.b, .int .i64 o.lo, .int .i64 o.hi], fun _ => rfl, fun _ _ _ _ h => ⟨h 0 _ rfl, h 1 _ rfl, h 2 _ rfl, h 3 _ rfl, h 4 _ rfl⟩⟩
instance : Enc (Int × Int) SpanAt 2 := ⟨fun c => [.int .i64 c.1, .int .i64 c.2], fun _ => rfl, fun _ _ _ _ h => ⟨h 0 _ rfl, h 1 _ rfl⟩⟩
section
variable {α : Type} {At : World → Addr → α → Prop} {sz : Nat} [E : Enc α At sz]
theorem flat_len (xs : List α) : (xs.flatMap E.enc).length = xs.length * sz := by
 induction xs with
 | nil => simp
 | cons x xs ih => simp [ih, E.len, Nat.add_mul]; omega
theorem flat_at {xs : List α} {i : Nat} {x : α} (hx : xs[i]? = some x) {j : Nat} {u : Value} (hu : (E.enc x)[j]? = some u) : (xs.flatMap E.enc)[i * sz + j]? = some u := by
 induction xs generalizing i with
 | nil => simp at hx
 | cons y xs ih =>
  cases i with
  | zero =>
   simp at hx
   subst hx
   rw [List.flatMap_cons, List.getElem?_append_left (by have := (List.getElem?_eq_some_iff.1 hu).1; omega)]
   simpa using hu
  | succ i =>
   simp at hx
   rw [List.flatMap_cons, List.getElem?_append_right (by rw [E.len, Nat.add_mul]; omega), E.len, show (i + 1) * sz + j - sz = i * sz + j by rw [Nat.add_mul]; omega]
   exact ih hx
def Own (base : Nat) (e : TypeId) (w : World) (v : Value) (xs : List α) : Prop := w.ownsRow base e sz v xs.length (xs.flatMap E.enc)
theorem Own.rd {base : Nat} {e : TypeId} {w : World} {v : Value} {xs : List α} (h : Own base e w v xs) : Rd At sz w.heap.size w v xs := by
 rcases id h with ⟨hl, ⟨rfl, h0⟩ | ⟨g, cap, cur, rfl, hb, hh, hn, hc, hsz, hx⟩⟩
 ·have : xs = [] := List.eq_nil_of_length_eq_zero h0
  subst this
  exact Rd.nil _ _
 ·refine ⟨_, _, rfl, hn, hc, fun i x hi => ⟨_, rfl, lt_of_block hh, ?_⟩⟩
  have hadd : (⟨g, 0, none⟩ : Addr).add (i * sz) = ⟨g, i * sz, none⟩ := by unfold Addr.add; split <;> simp_all
  rw [hadd]
  refine E.at_ w g _ x fun j u hu => ?_
  have hlt : i * sz + j < xs.length * sz := by
   have h1 := (List.getElem?_eq_some_iff.1 (flat_at hi hu)).1
   rwa [flat_len] at h1
  rw [World.ownsRow.cellAt h _ hlt]
  exact flat_at hi hu
theorem Own.below {base : Nat} {e : TypeId} {w w' : World} {v : Value} {xs : List α} (h : Own base e w v xs) (hb : Below w.heap.size w w') : Own base e w' v xs := by
 rcases h with ⟨hl, h0 | ⟨g, cap, cur, rfl, hbb, hh, r⟩⟩
 ·exact ⟨hl, .inl h0⟩
 ·exact ⟨hl, .inr ⟨g, cap, cur, rfl, hbb, (hb.block g (lt_of_block hh)).trans hh, r⟩⟩
theorem Own.alloc {base : Nat} {e : TypeId} {w : World} {v : Value} {xs : List α} (h : Own base e w v xs) (o : Obj) : Own base e (w.alloc o) v xs := h.below ((Below.refl _ _).alloc (Nat.le_refl _) _)
theorem Own.qt {base : Nat} {e : TypeId} {w w' : World} {v : Value} {xs : List α} (h : Own base e w v xs) (hb : Qt w w') : Own base e w' v xs := h.below (hb.below _)
theorem Own.nil (base : Nat) (e : TypeId) (w : World) : Own base e w (.slice none 0 0) ([] : List α) := World.ownsRow_nil w base e sz
theorem Own.mono {base base' : Nat} {e : TypeId} {w : World} {v : Value} {xs : List α} (h : Own base e w v xs) (hb : base' ≤ base) : Own base' e w v xs := by
 rcases h with ⟨hl, h0 | ⟨g, cap, cur, rfl, hbb, r⟩⟩
 ·exact ⟨hl, .inl h0⟩
 ·exact ⟨hl, .inr ⟨g, cap, cur, rfl, by omega, r⟩⟩
theorem Own.of_append {base : Nat} {e : TypeId} {w : World} {v : Value} {xs ys : List α} {n : Nat} (hn : n = xs.length + ys.length) (h : w.ownsRow base e sz v n (xs.flatMap E.enc ++ ys.flatMap E.enc)) : Own base e w v (xs ++ ys) := by
 subst hn
 unfold Own
 rwa [List.length_append, List.flatMap_append]
end
theorem Rd.str {B i : Nat} {w : World} {A : Option Addr} {n cap : Nat} {xs : List ByteArray} (h : Rd StrAt 1 B w (.slice A n cap) xs) (hi : i < xs.length) :
  ∃ ad, A = some ad ∧ ad.block < B ∧ w.cell? (ad.add i) = some (.string (xs[i]?.getD ByteArray.empty)) := by
 obtain ⟨A', cap', e, h1, h2, h3⟩ := h
 obtain ⟨ad, e2, hb, ha⟩ := h3 i xs[i] (List.getElem?_eq_getElem hi)
 injection e with e e' e''
 subst e
 exact ⟨ad, e2, hb, by rw [Nat.mul_one] at ha; simpa [List.getElem?_eq_getElem hi, StrAt] using ha⟩
theorem cell_lt {w : World} {a : Addr} {v : Value} (h : w.cell? a = some v) : a.block < w.heap.size := by
 rcases Nat.lt_or_ge a.block w.heap.size with h' | h'
 ·exact h'
 ·simp [World.cell?, Array.getElem?_eq_none h'] at h
def Aft (w : World) : Type := { x : World // Below w.heap.size w x }
instance (w : World) : Nonempty (Aft w) := ⟨⟨w, Below.refl _ _⟩⟩
theorem Aft.cell {w : World} {a : Addr} {v : Value} (h : w.cell? a = some v) : ∀ x : Aft w, x.1.cell? a = some v := fun x => (x.2.cell (cell_lt h)).trans h
theorem Aft.call {P : Program} {f : FuncId} {args : Array Value} {w : World} {x : Aft w} {v : Value} (h : Calls P f args x.1 fun e w' => e = .returned v ∧ Below x.1.heap.size x.1 w') :
  Calls P f args x.1 fun e w' => e = .returned v ∧ ∃ y : Aft w, w' = y.1 :=
 h.mono fun _ w' ⟨he, hb⟩ => ⟨he, ⟨w', x.2.trans (hb.mono x.2.size)⟩, rfl⟩
theorem Aft.call_same {P : Program} {f : FuncId} {args : Array Value} {w : World} {x : Aft w} {v : Value} (h : Calls P f args x.1 fun e w' => e = .returned v ∧ w' = x.1) :
  Calls P f args x.1 fun e w' => e = .returned v ∧ ∃ y : Aft w, w' = y.1 :=
 h.mono fun _ _ ⟨he, hb⟩ => ⟨he, x, hb⟩
theorem wp_region_aft {P : Program} {id : Nat} {Q : Exit → Act → World → Prop} {a : Act} {w : World} {l : List Oper} (hm : P.follows .mixedOrders = true) (hB : Region.lexB .any l.toArray = true)
  (h : wpQuiet P l.toArray (fun w' => ∃ x : Aft w, w' = x.1) (fun a' => ∀ w', (∃ x : Aft w, w' = x.1) → Q .normal a' w') l a) : (Code.region id l.toArray true).wp P Q a w :=
 wp_region_quiet (C := fun w' => ∃ x : Aft w, w' = x.1) hm hB ⟨⟨w.drew, (Below.refl _ _).drew⟩, rfl⟩ (by simpa using h)
theorem getD_some {α : Type} {xs : List α} {i : Nat} {x d : α} (h : xs[i]? = some x) : xs[i]?.getD d = x := by rw [h]; rfl
end Go.Proofs.YthnimhnlnddnoaaGreatDoor
