/-  Plain functions for the layer sheet: what the Go functions compute, with no program in sight. -/
import Derived.Shelf.Strings.BuilderK
import Derived.Test.YtajdgdelhlfniaaGreatDoorH1
set_option linter.unusedSimpArgs false
set_option linter.unusedVariables false
namespace Go.Proofs
open Go.Shelf Go.RowKit
theorem Tryz.Builder_WriteString (B b : Nat) (bs : List Value) (s : ByteArray) (w : World) (h : Lib.IsBuilder 151 5 B b bs w) (hlen : bs.length + s.size ≤ 140737488355328) (hBw : B ≤ w.heap.size) :
    Calls Tryz.prog 103 #[.pointer (some ⟨b, 0, none⟩), .string s] w fun e w' => e = .returned (.tuple #[.int .i64 s.size, .nilIface]) ∧ (Lib.BuilderAt 151 5 B b (.pointer (some ⟨b, 0, none⟩)) (bs ++ Lib.strCells s) w' ∧ Below B w w') :=
  Any.Builder_WriteString { Tryz.lays156 with } Tryz.Builder_Extra_156 B b bs s w h hlen hBw
theorem Tryz.Builder_WriteString_k (B b : Nat) (bs : List Value) (s : ByteArray) (w : World) (h : Lib.IsBuilderF 151 5 B b bs w) (hlen : bs.length + s.size ≤ 140737488355328) (hBw : B ≤ w.heap.size) :
    Calls Tryz.prog 103 #[.pointer (some ⟨b, 0, none⟩), .string s] w fun e w' => e = .returned (.tuple #[.int .i64 s.size, .nilIface]) ∧ (Lib.BuilderAtF 151 5 B b (.pointer (some ⟨b, 0, none⟩)) (bs ++ Lib.strCells s) w' ∧ Below B w w' ∧ Lib.OthersKept 5 (some b) w w') :=
  Any.Builder_WriteString_k { Tryz.lays156 with } Tryz.Builder_Extra_156 B b bs s w h hlen hBw
theorem Tryz.Builder_String_any_k (B b : Nat) (l : List UInt8) (w : World) (h : Lib.IsBuilderF 151 5 B b (Lib.byteCells l) w) (hBw : B ≤ w.heap.size) :
    Calls Tryz.prog 106 #[.pointer (some ⟨b, 0, none⟩)] w fun e w' => e = .returned (.string ⟨l.toArray⟩) ∧ (Lib.IsBuilderF 151 5 B b (Lib.byteCells l) w' ∧ Below B w w' ∧ Lib.OthersKept 5 (some b) w w') :=
  Any.Builder_String_any_k { Tryz.lays156 with } Tryz.Builder_Extra_156 B b l w h hBw
end Go.Proofs
namespace Go.Proofs.YtajdgdelhlfniaaGreatDoor

structure NoteR where
  kind : Int
  a : Int
  b : Int
  lo : Int
  hi : Int
  deriving DecidableEq
structure ShR where
  iv : Int
  pts : List ByteArray
  notes : List NoteR

instance : Inhabited NoteR := ⟨⟨0, 0, 0, 0, 0⟩⟩

/-- n is from lo to hi -/
def inB (n lo hi : Int) : Bool := decide (lo ≤ n) && decide (n ≤ hi)
/-- some number is not from lo to hi -/
def outB (lo hi : Int) (l : List Int) : Bool := l.any fun n => decide (n < lo) || decide (hi < n)
theorem inB_iff {n lo hi : Int} : inB n lo hi = true ↔ lo ≤ n ∧ n ≤ hi := by simp [inB]
theorem inB_false {n lo hi : Int} : inB n lo hi = false ↔ ¬ (lo ≤ n ∧ n ≤ hi) := by rw [← inB_iff]; simp

def loB (c : UInt8) : Bool := decide (97 ≤ c.toNat) && decide (c.toNat ≤ 122)
def restB (c : UInt8) : Bool := loB c || (decide (48 ≤ c.toNat) && decide (c.toNat ≤ 57)) || c.toNat == 45
def nameL (l : List UInt8) : Bool :=
  match l with
  | [] => false
  | c :: r => loB c && r.all restB && decide (l.length ≤ 16)
def nameB (s : ByteArray) : Bool := nameL s.data.toList

/-- the first number below n that does -/
def fst? (n : Nat) (p : Nat → Bool) : Option Nat := (List.range n).find? p

theorem fst?_some {n k : Nat} {p : Nat → Bool} (hk : k < n) (hp : p k = true) (hb : ∀ j, j < k → p j = false) : fst? n p = some k := by
  unfold fst?
  rw [List.find?_range_eq_some]
  refine ⟨hp, by simpa using hk, fun j hj => by simp [hb j hj]⟩
theorem fst?_none {n : Nat} {p : Nat → Bool} (hb : ∀ j, j < n → p j = false) : fst? n p = none := by
  unfold fst?
  rw [List.find?_eq_none]
  intro x hx
  simp [hb x (by simpa using hx)]
theorem fst?_spec {n k : Nat} {p : Nat → Bool} (h : fst? n p = some k) : k < n ∧ p k = true ∧ ∀ j, j < k → p j = false := by
  unfold fst? at h
  rw [List.find?_range_eq_some] at h
  obtain ⟨h1, h2, h3⟩ := h
  exact ⟨by simpa using h2, h1, fun j hj => by simpa using h3 j hj⟩
theorem fst?_none_spec {n : Nat} {p : Nat → Bool} (h : fst? n p = none) : ∀ j, j < n → p j = false := by
  unfold fst? at h
  rw [List.find?_eq_none] at h
  intro j hj
  simpa using h j (by simpa using hj)

theorem getD_at {α : Type} {l : List α} {i : Nat} (h : i < l.length) (d : α) : l.getD i d = l[i] := by
  rw [List.getD_eq_getElem?_getD, List.getElem?_eq_getElem h]; rfl
theorem getD_mem {α : Type} {l : List α} {i : Nat} (h : i < l.length) (d : α) : l.getD i d ∈ l := by
  rw [getD_at h]; exact List.getElem_mem h
theorem take_succ_getD {α : Type} {l : List α} {k : Nat} (h : k < l.length) (d : α) : l.take (k + 1) = l.take k ++ [l.getD k d] := by
  rw [getD_at h, List.take_succ_eq_append_getElem h]

/-- the error of a string that shall be a fresh name -/
def freshErr (s : ByteArray) (l : List ByteArray) : Int := if nameB s = false then 6 else if (l.any fun x => x.toList == s.toList) then 5 else 0

/-- the error of a span -/
def rangeErr (lo hi low high : Int) : Int := if inB lo low high = false ∨ inB hi low high = false then 7 else if hi < lo then 2 else 0

/-- the error of a note: np points, intervals of iv -/
def noteErr (np : Nat) (iv : Int) (x : NoteR) : Int :=
  if inB x.kind 1 4 = false then 6
  else if inB x.a 0 ((np : Int) - 1) = false ∨ inB x.b 0 ((np : Int) - 1) = false then 4
  else if ((x.kind = 3 ∨ x.kind = 4) ∧ x.a = x.b) ∨ (¬ (x.kind = 3 ∨ x.kind = 4) ∧ x.b ≠ 0) then 2
  else if x.kind = 1 then rangeErr x.lo x.hi 0 9000
  else if x.kind = 4 then rangeErr x.lo x.hi (-9000) 9000
  else if x.kind = 3 then rangeErr x.lo x.hi 0 0
  else if rangeErr x.lo x.hi 0 (9000 / iv) ≠ 0 then rangeErr x.lo x.hi 0 (9000 / iv)
  else if x.lo = x.hi then 2 else 0

def ptErr (s : ShR) (i : Nat) : Int := freshErr (s.pts.getD i ByteArray.empty) (s.pts.take i)
/-- the part, the index and the error of a sheet -/
def check (s : ShR) : Int × Int × Int :=
  if inB s.iv 1 1000 = false then (1, 0, 7)
  else if inB s.pts.length 1 8 = false then (2, 0, 3)
  else match fst? s.pts.length fun i => ptErr s i != 0 with
  | some i => (2, i, ptErr s i)
  | none =>
  if 12 < s.notes.length then (3, 0, 3)
  else match fst? s.notes.length fun i => noteErr s.pts.length s.iv (s.notes.getD i default) != 0 with
  | some i => (3, i, noteErr s.pts.length s.iv (s.notes.getD i default))
  | none => (0, 0, 0)
def errOf (s : ShR) : Int := (check s).2.2
def Valid (s : ShR) : Prop := errOf s = 0

/-- a note of a valid sheet -/
structure NoteOK (np : Nat) (iv : Int) (x : NoteR) : Prop where
  kind : 1 ≤ x.kind ∧ x.kind ≤ 4
  a : 0 ≤ x.a ∧ x.a < np
  b : 0 ≤ x.b ∧ x.b < np
  two : (x.kind = 3 ∨ x.kind = 4) → x.a ≠ x.b
  one : (x.kind = 1 ∨ x.kind = 2) → x.b = 0
  le : x.lo ≤ x.hi
  spot : x.kind = 1 → 0 ≤ x.lo ∧ x.hi ≤ 9000
  band : x.kind = 2 → 0 ≤ x.lo ∧ x.hi * iv ≤ 9000 ∧ x.lo < x.hi
  lake : x.kind = 3 → x.lo = 0 ∧ x.hi = 0
  slope : x.kind = 4 → -9000 ≤ x.lo ∧ x.hi ≤ 9000
/-- a valid sheet -/
structure Good (s : ShR) : Prop where
  iv : 1 ≤ s.iv ∧ s.iv ≤ 1000
  plen : 1 ≤ s.pts.length ∧ s.pts.length ≤ 8
  names : ∀ p ∈ s.pts, nameB p = true
  fresh : ∀ i, i < s.pts.length → ((s.pts.take i).any fun x => x.toList == (s.pts.getD i ByteArray.empty).toList) = false
  nlen : s.notes.length ≤ 12
  notes : ∀ x ∈ s.notes, NoteOK s.pts.length s.iv x

theorem rangeErr_zero {lo hi low high : Int} : rangeErr lo hi low high = 0 ↔ low ≤ lo ∧ hi ≤ high ∧ lo ≤ hi := by
  unfold rangeErr
  simp only [inB_false]
  split
  · constructor
    · intro h; omega
    · intro h; omega
  · split <;> omega

theorem noteErr_zero {np : Nat} {iv : Int} {x : NoteR} (hiv : 1 ≤ iv) : noteErr np iv x = 0 ↔ NoteOK np iv x := by
  have hdiv : ∀ k : Int, k ≤ 9000 / iv ↔ k * iv ≤ 9000 := fun k => Int.le_ediv_iff_mul_le (by omega)
  unfold noteErr
  simp only [inB_false]
  by_cases h1 : ¬ (1 ≤ x.kind ∧ x.kind ≤ 4)
  · rw [if_pos h1]
    exact ⟨fun h => by omega, fun h => absurd h.kind h1⟩
  rw [if_neg h1]
  by_cases h2 : ¬ (0 ≤ x.a ∧ x.a ≤ (np : Int) - 1) ∨ ¬ (0 ≤ x.b ∧ x.b ≤ (np : Int) - 1)
  · rw [if_pos h2]
    exact ⟨fun h => by omega, fun h => by have := h.a; have := h.b; omega⟩
  rw [if_neg h2]
  by_cases h3 : ((x.kind = 3 ∨ x.kind = 4) ∧ x.a = x.b) ∨ (¬ (x.kind = 3 ∨ x.kind = 4) ∧ x.b ≠ 0)
  · rw [if_pos h3]
    exact ⟨fun h => by omega, fun h => by have := h.two; have := h.one; have := h.kind; omega⟩
  rw [if_neg h3]
  have base : ∀ (le : x.lo ≤ x.hi) (spot : x.kind = 1 → 0 ≤ x.lo ∧ x.hi ≤ 9000) (band : x.kind = 2 → 0 ≤ x.lo ∧ x.hi * iv ≤ 9000 ∧ x.lo < x.hi) (lake : x.kind = 3 → x.lo = 0 ∧ x.hi = 0) (slope : x.kind = 4 → -9000 ≤ x.lo ∧ x.hi ≤ 9000), NoteOK np iv x :=
    fun le spot band lake slope => ⟨by omega, by omega, by omega, by omega, by omega, le, spot, band, lake, slope⟩
  by_cases k1 : x.kind = 1
  · rw [if_pos k1, rangeErr_zero]
    exact ⟨fun h => base (by omega) (by omega) (by omega) (by omega) (by omega), fun h => ⟨(h.spot k1).1, (h.spot k1).2, h.le⟩⟩
  rw [if_neg k1]
  by_cases k4 : x.kind = 4
  · rw [if_pos k4, rangeErr_zero]
    exact ⟨fun h => base (by omega) (by omega) (by omega) (by omega) (by omega), fun h => ⟨(h.slope k4).1, (h.slope k4).2, h.le⟩⟩
  rw [if_neg k4]
  by_cases k3 : x.kind = 3
  · rw [if_pos k3, rangeErr_zero]
    exact ⟨fun h => base (by omega) (by omega) (by omega) (by omega) (by omega), fun h => by have := h.lake k3; omega⟩
  rw [if_neg k3]
  have k2 : x.kind = 2 := by omega
  by_cases h4 : rangeErr x.lo x.hi 0 (9000 / iv) ≠ 0
  · rw [if_pos h4]
    refine ⟨fun h => absurd h h4, fun h => absurd (rangeErr_zero.2 ⟨(h.band k2).1, (hdiv _).2 (h.band k2).2.1, h.le⟩) h4⟩
  rw [if_neg h4]
  have h5 := rangeErr_zero.1 (Classical.byContradiction h4)
  by_cases h6 : x.lo = x.hi
  · rw [if_pos h6]
    exact ⟨fun h => by omega, fun h => by have := h.band k2; omega⟩
  · rw [if_neg h6]
    exact ⟨fun _ => base (by omega) (by omega) (fun _ => ⟨h5.1, (hdiv _).1 h5.2.1, by omega⟩) (by omega) (by omega), fun _ => rfl⟩

theorem freshErr_zero {s : ByteArray} {l : List ByteArray} : freshErr s l = 0 ↔ nameB s = true ∧ (l.any fun x => x.toList == s.toList) = false := by
  unfold freshErr
  by_cases h : nameB s = false
  · simp [h]
  · rw [if_neg h]
    cases (l.any fun x => x.toList == s.toList) <;> simp_all

theorem check_cases (s : ShR) :
    (inB s.iv 1 1000 = false ∧ check s = (1, 0, 7)) ∨
    (inB s.iv 1 1000 = true ∧ inB s.pts.length 1 8 = false ∧ check s = (2, 0, 3)) ∨
    (inB s.iv 1 1000 = true ∧ inB s.pts.length 1 8 = true ∧ ∃ i, i < s.pts.length ∧ ptErr s i ≠ 0 ∧ (∀ j, j < i → ptErr s j = 0) ∧ check s = ((2, (i : Int), ptErr s i) : Int × Int × Int)) ∨
    (inB s.iv 1 1000 = true ∧ inB s.pts.length 1 8 = true ∧ (∀ j, j < s.pts.length → ptErr s j = 0) ∧ 12 < s.notes.length ∧ check s = (3, 0, 3)) ∨
    (inB s.iv 1 1000 = true ∧ inB s.pts.length 1 8 = true ∧ (∀ j, j < s.pts.length → ptErr s j = 0) ∧ s.notes.length ≤ 12 ∧
      ∃ i, i < s.notes.length ∧ noteErr s.pts.length s.iv (s.notes.getD i default) ≠ 0 ∧ (∀ j, j < i → noteErr s.pts.length s.iv (s.notes.getD j default) = 0) ∧ check s = ((3, (i : Int), noteErr s.pts.length s.iv (s.notes.getD i default)) : Int × Int × Int)) ∨
    (inB s.iv 1 1000 = true ∧ inB s.pts.length 1 8 = true ∧ (∀ j, j < s.pts.length → ptErr s j = 0) ∧ s.notes.length ≤ 12 ∧ (∀ j, j < s.notes.length → noteErr s.pts.length s.iv (s.notes.getD j default) = 0) ∧ check s = (0, 0, 0)) := by
  by_cases h1 : inB s.iv 1 1000 = false
  · exact .inl ⟨h1, by unfold check; rw [if_pos h1]⟩
  · have h1' : inB s.iv 1 1000 = true := by simpa using h1
    refine .inr ?_
    by_cases h2 : inB s.pts.length 1 8 = false
    · exact .inl ⟨h1', h2, by unfold check; rw [if_neg h1, if_pos h2]⟩
    · have h2' : inB s.pts.length 1 8 = true := by simpa using h2
      refine .inr ?_
      cases h3 : fst? s.pts.length fun i => ptErr s i != 0 with
      | some i =>
        obtain ⟨a, b, c⟩ := fst?_spec h3
        exact .inl ⟨h1', h2', i, a, by simpa using b, fun j hj => by simpa using c j hj, by unfold check; rw [if_neg h1, if_neg h2, h3]⟩
      | none =>
        have c := fst?_none_spec h3
        have hp : ∀ j, j < s.pts.length → ptErr s j = 0 := fun j hj => by simpa using c j hj
        refine .inr ?_
        by_cases h4 : 12 < s.notes.length
        · exact .inl ⟨h1', h2', hp, h4, by unfold check; rw [if_neg h1, if_neg h2, h3]; simp only; rw [if_pos h4]⟩
        · refine .inr ?_
          cases h5 : fst? s.notes.length fun i => noteErr s.pts.length s.iv (s.notes.getD i default) != 0 with
          | some i =>
            obtain ⟨a, b, c⟩ := fst?_spec h5
            exact .inl ⟨h1', h2', hp, by omega, i, a, by simpa using b, fun j hj => by simpa using c j hj, by unfold check; rw [if_neg h1, if_neg h2, h3]; simp only; rw [if_neg h4, h5]⟩
          | none =>
            have c := fst?_none_spec h5
            exact .inr ⟨h1', h2', hp, by omega, fun j hj => by simpa using c j hj, by unfold check; rw [if_neg h1, if_neg h2, h3]; simp only; rw [if_neg h4, h5]⟩

theorem check_iv {s : ShR} (h : inB s.iv 1 1000 = false) : check s = (1, 0, 7) := by unfold check; rw [if_pos h]
theorem check_len {s : ShR} (h : inB s.iv 1 1000 = true) (h2 : inB s.pts.length 1 8 = false) : check s = (2, 0, 3) := by unfold check; rw [if_neg (by simp [h]), if_pos h2]
theorem check_pt {s : ShR} {i : Nat} (h : inB s.iv 1 1000 = true) (h2 : inB s.pts.length 1 8 = true) (hi : i < s.pts.length) (he : ptErr s i ≠ 0) (hb : ∀ j, j < i → ptErr s j = 0) : check s = ((2, (i : Int), ptErr s i) : Int × Int × Int) := by
  unfold check
  rw [if_neg (by simp [h]), if_neg (by simp [h2]), fst?_some (p := fun i => ptErr s i != 0) hi (by simpa using he) (fun j hj => by simpa using hb j hj)]
theorem check_many {s : ShR} (h : inB s.iv 1 1000 = true) (h2 : inB s.pts.length 1 8 = true) (hb : ∀ j, j < s.pts.length → ptErr s j = 0) (hn : 12 < s.notes.length) : check s = (3, 0, 3) := by
  unfold check
  rw [if_neg (by simp [h]), if_neg (by simp [h2]), fst?_none (p := fun i => ptErr s i != 0) (fun j hj => by simpa using hb j hj)]
  simp only
  rw [if_pos hn]
theorem check_note {s : ShR} {i : Nat} (h : inB s.iv 1 1000 = true) (h2 : inB s.pts.length 1 8 = true) (hb : ∀ j, j < s.pts.length → ptErr s j = 0) (hn : ¬ 12 < s.notes.length) (hi : i < s.notes.length)
    (he : noteErr s.pts.length s.iv (s.notes.getD i default) ≠ 0) (hbn : ∀ j, j < i → noteErr s.pts.length s.iv (s.notes.getD j default) = 0) : check s = ((3, (i : Int), noteErr s.pts.length s.iv (s.notes.getD i default)) : Int × Int × Int) := by
  unfold check
  rw [if_neg (by simp [h]), if_neg (by simp [h2]), fst?_none (p := fun i => ptErr s i != 0) (fun j hj => by simpa using hb j hj)]
  simp only
  rw [if_neg hn, fst?_some (p := fun i => noteErr s.pts.length s.iv (s.notes.getD i default) != 0) hi (by simpa using he) (fun j hj => by simpa using hbn j hj)]
theorem check_none {s : ShR} (h : inB s.iv 1 1000 = true) (h2 : inB s.pts.length 1 8 = true) (hb : ∀ j, j < s.pts.length → ptErr s j = 0) (hn : ¬ 12 < s.notes.length)
    (hbn : ∀ j, j < s.notes.length → noteErr s.pts.length s.iv (s.notes.getD j default) = 0) : check s = (0, 0, 0) := by
  unfold check
  rw [if_neg (by simp [h]), if_neg (by simp [h2]), fst?_none (p := fun i => ptErr s i != 0) (fun j hj => by simpa using hb j hj)]
  simp only
  rw [if_neg hn, fst?_none (p := fun i => noteErr s.pts.length s.iv (s.notes.getD i default) != 0) (fun j hj => by simpa using hbn j hj)]

theorem good_of_valid {s : ShR} (h : Valid s) : Good s := by
  unfold Valid errOf at h
  rcases check_cases s with ⟨_, e⟩ | ⟨_, _, e⟩ | ⟨_, _, i, _, h3, _, e⟩ | ⟨_, _, _, _, e⟩ | ⟨_, _, _, _, i, _, h3, _, e⟩ | ⟨h1, h2, h3, h4, h5, e⟩
  · rw [e] at h; cases h
  · rw [e] at h; cases h
  · rw [e] at h; exact absurd h h3
  · rw [e] at h; cases h
  · rw [e] at h; exact absurd h h3
  · have h1 := inB_iff.1 h1
    have h2 := inB_iff.1 h2
    refine ⟨h1, by omega, fun p hp => ?_, fun i hi => (freshErr_zero.1 (h3 i hi)).2, h4, fun x hx => ?_⟩
    · obtain ⟨i, hi, rfl⟩ := List.getElem_of_mem hp
      have := (freshErr_zero.1 (h3 i hi)).1
      rwa [getD_at hi] at this
    · obtain ⟨i, hi, rfl⟩ := List.getElem_of_mem hx
      have := (noteErr_zero h1.1).1 (h5 i hi)
      rwa [getD_at hi] at this
theorem valid_of_good {s : ShR} (h : Good s) : Valid s := by
  unfold Valid errOf
  have hi1 := inB_iff.2 h.iv
  have hi2 : inB s.pts.length 1 8 = true := inB_iff.2 (by have := h.plen; omega)
  have hp : ∀ j, j < s.pts.length → ptErr s j = 0 := fun j hj => freshErr_zero.2 ⟨h.names _ (getD_mem hj _), h.fresh j hj⟩
  have hn : ∀ j, j < s.notes.length → noteErr s.pts.length s.iv (s.notes.getD j default) = 0 := fun j hj => (noteErr_zero h.iv.1).2 (h.notes _ (getD_mem hj _))
  have hl := h.nlen
  rcases check_cases s with ⟨g, e⟩ | ⟨_, g, e⟩ | ⟨_, _, i, g1, g2, _, e⟩ | ⟨_, _, _, g, e⟩ | ⟨_, _, _, _, i, g1, g2, _, e⟩ | ⟨_, _, _, _, _, e⟩
  · rw [hi1] at g; cases g
  · rw [hi2] at g; cases g
  · exact absurd (hp i g1) g2
  · omega
  · exact absurd (hn i g1) g2
  · rw [e]
theorem valid_iff {s : ShR} : Valid s ↔ Good s := ⟨good_of_valid, valid_of_good⟩
theorem check_ok {s : ShR} (h : Valid s) : check s = (0, 0, 0) := by
  unfold Valid errOf at h
  rcases check_cases s with ⟨_, e⟩ | ⟨_, _, e⟩ | ⟨_, _, i, _, h3, _, e⟩ | ⟨_, _, _, _, e⟩ | ⟨_, _, _, _, i, _, h3, _, e⟩ | ⟨h1, h2, h3, h4, h5, e⟩
  · rw [e] at h; cases h
  · rw [e] at h; cases h
  · rw [e] at h; exact absurd h h3
  · rw [e] at h; cases h
  · rw [e] at h; exact absurd h h3
  · exact e
end Go.Proofs.YtajdgdelhlfniaaGreatDoor
