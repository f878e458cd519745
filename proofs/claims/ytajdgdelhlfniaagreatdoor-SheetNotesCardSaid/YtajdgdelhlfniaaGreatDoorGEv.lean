/- Bounds as lists of numbers: what the program's bounds come to, reckoned. What the examples of the layer sheet come to. -/
import Derived.Test.YtajdgdelhlfniaaGreatDoorSrch5
import Derived.Test.YtajdgdelhlfniaaGreatDoorWider
import Derived.Test.YtajdgdelhlfniaaGreatDoorGHigh
import Derived.Test.YtajdgdelhlfniaaGreatDoorHlp
set_option linter.unusedSimpArgs false
set_option linter.unusedVariables false
namespace Go.Proofs.YtajdgdelhlfniaaGreatDoor

def atL (l : List Int) (i k : Nat) : Int := l.getD (9 * i + k) 0
/-- bounds and their list -/
def Rep (b : Mat) (l : List Int) : Prop := ∀ i k, i < 9 → k < 9 → b i k = atL l i k
def bindL (f t : Nat) (m : Int) (l : List Int) : List Int :=
  if atL l f t ≤ m then l else if 0 ≤ m + atL l t f then (List.range 81).map fun n => min (atL l (n / 9) (n % 9)) (atL l (n / 9) f + m + atL l t (n % 9)) else l
def bindLB (f t : Nat) (m : Int) (l : List Int) : Bool := decide (atL l f t ≤ m) || decide (0 ≤ m + atL l t f)
theorem rep_bind {b : Mat} {l : List Int} {f t : Nat} {m : Int} (h : Rep b l) (hf : f < 9) (ht : t < 9) : Rep (bindR f t m b) (bindL f t m l) ∧ bindB f t m b = bindLB f t m l := by
  have h1 := h f t hf ht
  have h2 := h t f ht hf
  refine ⟨?_, by unfold bindB bindLB; rw [h1, h2]⟩
  unfold bindR bindL
  rw [h1, h2]
  split
  · exact h
  · split
    · intro i k hi hk
      unfold bindM
      rw [h i k hi hk, h i f hi hf, h t k ht hk]
      have : 9 * i + k < 81 := by omega
      have e1 : (9 * i + k) / 9 = i := by omega
      have e2 : (9 * i + k) % 9 = k := by omega
      show _ = List.getD _ (9 * i + k) 0
      rw [List.getD_eq_getElem?_getD, List.getElem?_map, List.getElem?_range this]
      simp only [Option.map_some, Option.getD_some, e1, e2]
    · exact h
def freeL : List Int := (List.range 81).map fun n => if n / 9 = n % 9 ∨ n % 9 = 8 then 0 else 9000
theorem rep_free : Rep freeM freeL := by
  intro i k hi hk
  have : 9 * i + k < 81 := by omega
  have e1 : (9 * i + k) / 9 = i := by omega
  have e2 : (9 * i + k) % 9 = k := by omega
  unfold atL freeL
  rw [List.getD_eq_getElem?_getD, List.getElem?_map, List.getElem?_range this]
  simp only [Option.map_some, Option.getD_some, e1, e2]
  rfl
def withL (iv wd : Int) (l : List Int) (x : NoteR) : List Int × Bool :=
  match bnd iv wd x 0, bnd iv wd x 1 with
  | (f0, t0, m0), (f1, t1, m1) => if bindLB f0 t0 m0 l = false then (bindL f0 t0 m0 l, false) else (bindL f1 t1 m1 (bindL f0 t0 m0 l), bindLB f1 t1 m1 (bindL f0 t0 m0 l))
def PtOK (x : NoteR) : Prop := x.a.toNat < 9 ∧ othN x < 9
theorem bnd_ok {iv wd : Int} {x : NoteR} (h : PtOK x) (k : Nat) : (bnd iv wd x k).1 < 9 ∧ (bnd iv wd x k).2.1 < 9 := by
  cases k with
  | zero => exact ⟨h.2, h.1⟩
  | succ k => exact ⟨h.1, h.2⟩
theorem rep_with {iv wd : Int} {b : Mat} {l : List Int} {x : NoteR} (h : Rep b l) (hx : PtOK x) : Rep (withM iv wd b x).1 (withL iv wd l x).1 ∧ (withM iv wd b x).2 = (withL iv wd l x).2 := by
  have o0 := bnd_ok (iv := iv) (wd := wd) hx 0
  have o1 := bnd_ok (iv := iv) (wd := wd) hx 1
  obtain ⟨r0, e0⟩ := rep_bind (m := (bnd iv wd x 0).2.2) h o0.1 o0.2
  obtain ⟨r1, e1⟩ := rep_bind (m := (bnd iv wd x 1).2.2) r0 o1.1 o1.2
  unfold withM withL
  have b0 : bndB iv wd x b 0 = bindLB (bnd iv wd x 0).1 (bnd iv wd x 0).2.1 (bnd iv wd x 0).2.2 l := e0
  have b1 : bndB iv wd x b 1 = bindLB (bnd iv wd x 1).1 (bnd iv wd x 1).2.1 (bnd iv wd x 1).2.2 (bindL (bnd iv wd x 0).1 (bnd iv wd x 0).2.1 (bnd iv wd x 0).2.2 l) := e1
  have m1 : bndM iv wd x b 1 = bindR (bnd iv wd x 0).1 (bnd iv wd x 0).2.1 (bnd iv wd x 0).2.2 b := rfl
  have m2 : bndM iv wd x b 2 = bindR (bnd iv wd x 1).1 (bnd iv wd x 1).2.1 (bnd iv wd x 1).2.2 (bndM iv wd x b 1) := rfl
  rw [b0, b1, m2, m1]
  simp only
  split
  · exact ⟨r0, rfl⟩
  · split
    · rename_i hb
      exact ⟨r1, hb.symm⟩
    · rename_i hb
      exact ⟨r1, by simpa using hb⟩
def allL (iv wd : Int) : List NoteR → List Int → List Int × Bool
  | [], l => (l, true)
  | x :: r, l => match withL iv wd l x with
    | (l', true) => allL iv wd r l'
    | (l', false) => (l', false)
theorem rep_all {iv wd : Int} : ∀ {xs : List NoteR} {b : Mat} {l : List Int}, Rep b l → (∀ x ∈ xs, PtOK x) → Rep (allM iv wd xs b).1 (allL iv wd xs l).1 ∧ (allM iv wd xs b).2 = (allL iv wd xs l).2 := by
  intro xs
  induction xs with
  | nil => intro b l h _; exact ⟨h, rfl⟩
  | cons x xs ih =>
    intro b l h hx
    obtain ⟨r, e⟩ := rep_with (iv := iv) (wd := wd) h (hx x (List.mem_cons_self ..))
    rw [allM_cons]
    unfold allL
    rw [e]
    split
    · rename_i hf
      split
      · rename_i hw; rw [hw] at hf; cases hf
      · rename_i hw; rw [hw] at r; exact ⟨r, rfl⟩
    · rename_i hf
      split
      · rename_i hw
        rw [hw] at r
        exact ih r fun y hy => hx y (List.mem_cons_of_mem _ hy)
      · rename_i hw; rw [hw] at hf; exact absurd rfl hf
def tryL (iv : Int) (notes : List NoteR) (left : Bool) : Nat → List Int → Bool → List Int → Bool × List Int → Bool × List Int
  | 0, _, bad, cur, st => if (st.1 && decide (st.2.length ≤ cur.length)) || (left && bad) then st else if bad || left then (true, cur) else st
  | r + 1, b, bad, cur, st =>
    if (st.1 && decide (st.2.length ≤ cur.length)) || (left && bad) then st else if bad then (true, cur)
    else match withL iv 0 b (notes.getD (notes.length - (r + 1)) default) with
    | (b', ok) =>
      if left then tryL iv notes left r b' (!ok) cur (tryL iv notes left r b false (cur ++ [((notes.length - (r + 1) : Nat) : Int)]) st)
      else tryL iv notes left r b false cur (tryL iv notes left r b' (!ok) (cur ++ [((notes.length - (r + 1) : Nat) : Int)]) st)
theorem rep_try {iv : Int} {notes : List NoteR} {left : Bool} (hx : ∀ x ∈ notes, PtOK x) : ∀ (r : Nat) (b : Mat) (l : List Int) (bad : Bool) (cur : List Int) (st : Bool × List Int), r ≤ notes.length → Rep b l → tryS iv notes left r b bad cur st = tryL iv notes left r l bad cur st := by
  intro r
  induction r with
  | zero => intro b l bad cur st _ _; rfl
  | succ r ih =>
    intro b l bad cur st hr h
    have hmem : notes.getD (notes.length - (r + 1)) default ∈ notes := getD_mem (by omega) _
    obtain ⟨r1, e1⟩ := rep_with (iv := iv) (wd := 0) h (hx _ hmem)
    unfold tryS tryL
    rw [e1]
    simp only [ih _ _ _ _ _ (by omega) h, ih _ _ _ _ _ (by omega) r1]
end Go.Proofs.YtajdgdelhlfniaaGreatDoor
namespace Go.Proofs.YtajdgdelhlfniaaGreatDoor

def stX : NoteR := ⟨4, 1, 0, 0, 10⟩
def gnX : NoteR := ⟨4, 1, 2, -40, -10⟩
theorem errS : errOf (sheetX []) = 0 := by kernel_rfl
theorem errB : errOf (sheetX [stX]) = 0 := by kernel_rfl
theorem errT : errOf (sheetX [gnX]) = 0 := by kernel_rfl
theorem ptS : ∀ x ∈ (sheetX []).notes, PtOK x := by unfold PtOK; decide
theorem ptB : ∀ x ∈ (sheetX [stX]).notes, PtOK x := by unfold PtOK; decide
theorem ptT : ∀ x ∈ (sheetX [gnX]).notes, PtOK x := by unfold PtOK; decide
theorem okS : (boundsF (sheetX []) 0).2 = true := (rep_all rep_free ptS).2.trans (by kernel_rfl)
theorem okT : (boundsF (sheetX [gnX]) 0).2 = true := (rep_all rep_free ptT).2.trans (by kernel_rfl)
theorem noB : (boundsF (sheetX [stX]) 0).2 = false := (rep_all rep_free ptB).2.trans (by kernel_rfl)
theorem openS : openE (sheetX []) = 0 := by rw [openE_ok errS, okS]; rfl
theorem openT : openE (sheetX [gnX]) = 0 := by rw [openE_ok errT, okT]; rfl
theorem openB : openE (sheetX [stX]) = 9 := by rw [openE_ok errB, noB]; rfl
theorem fitS : fitsB (sheetX []) = true := by unfold fitsB; rw [openS]; rfl
theorem fitB : fitsB (sheetX [stX]) = false := by unfold fitsB; rw [openB]; rfl
theorem heiT_l : [(- atL (allL 100 0 (sheetX [gnX]).notes freeL).1 0 8, atL (allL 100 0 (sheetX [gnX]).notes freeL).1 8 0), (- atL (allL 100 0 (sheetX [gnX]).notes freeL).1 1 8, atL (allL 100 0 (sheetX [gnX]).notes freeL).1 8 1), (- atL (allL 100 0 (sheetX [gnX]).notes freeL).1 2 8, atL (allL 100 0 (sheetX [gnX]).notes freeL).1 8 2), (- atL (allL 100 0 (sheetX [gnX]).notes freeL).1 3 8, atL (allL 100 0 (sheetX [gnX]).notes freeL).1 8 3)] = [(1180, 1200), (900, 940), (910, 950), (900, 940)] := by kernel_rfl
theorem heiT : heightsF (sheetX [gnX]) = [(1180, 1200), (900, 940), (910, 950), (900, 940)] := by
  unfold heightsF
  rw [if_neg (by simp [openT])]
  have h := (rep_all (iv := 100) (wd := 0) rep_free ptT).1
  have e : openM (sheetX [gnX]) = (allM 100 0 (sheetX [gnX]).notes freeM).1 := by unfold openM; rw [if_neg (by simp [errT])]; rfl
  rw [e]
  unfold spansL
  rw [show (sheetX [gnX]).pts.length = 4 from rfl, show List.range 4 = [0, 1, 2, 3] from rfl]
  simp only [List.map_cons, List.map_nil]
  rw [h 0 8 (by decide) (by decide), h 8 0 (by decide) (by decide), h 1 8 (by decide) (by decide), h 8 1 (by decide) (by decide), h 2 8 (by decide) (by decide), h 8 2 (by decide) (by decide), h 3 8 (by decide) (by decide), h 8 3 (by decide) (by decide)]
  exact heiT_l
theorem heiB : heightsF (sheetX [stX]) = [] := by unfold heightsF; rw [if_pos (by simp [openB])]
theorem apaT_l : ((- atL (allL 100 0 (sheetX [gnX]).notes freeL).1 2 1, atL (allL 100 0 (sheetX [gnX]).notes freeL).1 1 2), orderF (- atL (allL 100 0 (sheetX [gnX]).notes freeL).1 2 1) (atL (allL 100 0 (sheetX [gnX]).notes freeL).1 1 2), (0 : Int)) = ((10, 40), 2, 0) := by kernel_rfl
theorem apaT : apartF (sheetX [gnX]) 2 1 = ((10, 40), 2, 0) := by
  unfold apartF
  rw [if_neg (by simp [errT]), if_neg (by decide), if_neg (by simp [openT])]
  have h := (rep_all (iv := 100) (wd := 0) rep_free ptT).1
  have e : openM (sheetX [gnX]) = (allM 100 0 (sheetX [gnX]).notes freeM).1 := by unfold openM; rw [if_neg (by simp [errT])]; rfl
  rw [e, show (2 : Int).toNat = 2 from rfl, show (1 : Int).toNat = 1 from rfl, h 2 1 (by decide) (by decide), h 1 2 (by decide) (by decide)]
  exact apaT_l
theorem proB : proofF (sheetX [stX]) = [0, 1, 4] := by
  unfold proofF
  rw [if_neg (by simp [errB]), if_neg (by simp [fitB])]
  unfold searchF
  rw [rep_try ptB _ _ _ _ _ _ (Nat.le_refl _) rep_free]
  kernel_rfl
theorem proEB : proofE (sheetX [stX]) = 0 := by unfold proofE; rw [if_neg (by simp [errB]), if_neg (by simp [fitB])]
theorem proES : proofE (sheetX []) = 4 := by unfold proofE; rw [if_neg (by simp [errS]), if_pos fitS]
theorem proS : proofF (sheetX []) = [] := by unfold proofF; rw [if_neg (by simp [errS]), if_pos fitS]
theorem wroB : wrongF (sheetX [stX]) = [0] := by
  unfold wrongF
  rw [if_neg (by simp [errB])]
  unfold searchF
  rw [rep_try ptB _ _ _ _ _ _ (Nat.le_refl _) rep_free]
  kernel_rfl
theorem wriS : (⟨(writeF (sheetX [])).toArray⟩ : ByteArray) = textX := by kernel_rfl
theorem reaS : readF textX = (sheetX [], 0) := by kernel_rfl
end Go.Proofs.YtajdgdelhlfniaaGreatDoor
