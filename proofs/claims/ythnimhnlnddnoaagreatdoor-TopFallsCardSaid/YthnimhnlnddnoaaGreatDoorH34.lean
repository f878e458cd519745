/- Parts of the proof of TpP: Eval, FitL, SrL, Bit, Asc, Adj, Tru, TruL, SvP. -/
import Derived.Test.YthnimhnlnddnoaaGreatDoorH33
import Derived.Test.YthnimhnlnddnoaaGreatDoorH29
import Derived.Test.YthnimhnlnddnoaaGreatDoorH32
import Derived.Test.YthnimhnlnddnoaaGreatDoorH5
import Derived.Test.YthnimhnlnddnoaaGreatDoorH9
import Derived.Test.YthnimhnlnddnoaaGreatDoorH2
import Derived.Test.YthnimhnlnddnoaaGreatDoorH16
import Derived.Test.YthnimhnlnddnoaaGreatDoorH8
set_option linter.unusedSimpArgs false
set_option linter.unusedVariables false
set_option maxRecDepth 100000
set_option maxHeartbeats 8000000
namespace Go.Proofs.YthnimhnlnddnoaaGreatDoor
def stX : NoteR := ⟨4, 1, 0, 0, 10⟩
def gnX : NoteR := ⟨4, 1, 2, -40, -10⟩
theorem errS : errOf (sheetX []) = 0 := by kernel_rfl
theorem errB : errOf (sheetX [stX]) = 0 := by kernel_rfl
theorem errT : errOf (sheetX [gnX]) = 0 := by kernel_rfl
theorem ptS : ∀ x ∈ (sheetX []).notes, PtOK x := by unfold PtOK; decide
theorem ptB : ∀ x ∈ (sheetX [stX]).notes, PtOK x := by unfold PtOK; decide
theorem ptT : ∀ x ∈ (sheetX [gnX]).notes, PtOK x := by unfold PtOK; decide
theorem okS : (boundsF (sheetX []) 0).2 = true := (rep_all rep_free ptS).2.trans (by kernel_rfl)
theorem okT : (boundsF (sheetX [gnX]) 0).2 = true := (rep_all rep_free ptT).2.trans (by kernel_rfl)
theorem noB : (boundsF (sheetX [stX]) 0).2 = false := (rep_all rep_free ptB).2.trans (by kernel_rfl)
theorem openS : openE (sheetX []) = 0 := by rw [openE_ok errS, okS]; rfl
theorem openT : openE (sheetX [gnX]) = 0 := by rw [openE_ok errT, okT]; rfl
theorem openB : openE (sheetX [stX]) = 9 := by rw [openE_ok errB, noB]; rfl
theorem fitS : fitsB (sheetX []) = true := by unfold fitsB; rw [openS]; rfl
theorem fitB : fitsB (sheetX [stX]) = false := by unfold fitsB; rw [openB]; rfl
theorem heiT_l : [(- atL (allL 100 0 (sheetX [gnX]).notes freeL).1 0 8, atL (allL 100 0 (sheetX [gnX]).notes freeL).1 8 0), (- atL (allL 100 0 (sheetX [gnX]).notes freeL).1 1 8, atL (allL 100 0 (sheetX [gnX]).notes freeL).1 8 1), (- atL (allL 100 0 (sheetX [gnX]).notes freeL).1 2 8, atL (allL 100 0 (sheetX [gnX]).notes freeL).1 8 2), (- atL (allL 100 0 (sheetX [gnX]).notes freeL).1 3 8, atL (allL 100 0 (sheetX [gnX]).notes freeL).1 8 3)] = [(1180, 1200), (900, 940), (910, 950), (900, 940)] := by kernel_rfl
theorem heiT : heightsF (sheetX [gnX]) = [(1180, 1200), (900, 940), (910, 950), (900, 940)] := by
 unfold heightsF
 rw [if_neg (by simp [openT])]
 have h := (rep_all (iv := 100) (wd := 0) rep_free ptT).1
 have e : openM (sheetX [gnX]) = (allM 100 0 (sheetX [gnX]).notes freeM).1 := by unfold openM; rw [if_neg (by simp [errT])]; rfl
 rw [e]
 unfold spansL
 rw [show (sheetX [gnX]).pts.length = 4 from rfl, show List.range 4 = [0, 1, 2, 3] from rfl]
 simp only [List.map_cons, List.map_nil]
 rw [h 0 8 (by decide) (by decide), h 8 0 (by decide) (by decide), h 1 8 (by decide) (by decide), h 8 1 (by decide) (by decide), h 2 8 (by decide) (by decide), h 8 2 (by decide) (by decide), h 3 8 (by decide) (by decide), h 8 3 (by decide) (by decide)]
 exact heiT_l
theorem heiB : heightsF (sheetX [stX]) = [] := by unfold heightsF; rw [if_pos (by simp [openB])]
theorem apaT_l : ((- atL (allL 100 0 (sheetX [gnX]).notes freeL).1 2 1, atL (allL 100 0 (sheetX [gnX]).notes freeL).1 1 2), orderF (- atL (allL 100 0 (sheetX [gnX]).notes freeL).1 2 1) (atL (allL 100 0 (sheetX [gnX]).notes freeL).1 1 2), (0 : Int)) = ((10, 40), 2, 0) := by kernel_rfl
theorem apaT : apartF (sheetX [gnX]) 2 1 = ((10, 40), 2, 0) := by
 unfold apartF
 rw [if_neg (by simp [errT]), if_neg (by decide), if_neg (by simp [openT])]
 have h := (rep_all (iv := 100) (wd := 0) rep_free ptT).1
 have e : openM (sheetX [gnX]) = (allM 100 0 (sheetX [gnX]).notes freeM).1 := by unfold openM; rw [if_neg (by simp [errT])]; rfl
 rw [e, show (2 : Int).toNat = 2 from rfl, show (1 : Int).toNat = 1 from rfl, h 2 1 (by decide) (by decide), h 1 2 (by decide) (by decide)]
 exact apaT_l
theorem proB : proofF (sheetX [stX]) = [0, 1, 4] := by
 unfold proofF
 rw [if_neg (by simp [errB]), if_neg (by simp [fitB])]
 unfold searchF
 rw [rep_try ptB _ _ _ _ _ _ (Nat.le_refl _) rep_free]
 kernel_rfl
theorem proEB : proofE (sheetX [stX]) = 0 := by unfold proofE; rw [if_neg (by simp [errB]), if_neg (by simp [fitB])]
theorem proES : proofE (sheetX []) = 4 := by unfold proofE; rw [if_neg (by simp [errS]), if_pos fitS]
theorem proS : proofF (sheetX []) = [] := by unfold proofF; rw [if_neg (by simp [errS]), if_pos fitS]
theorem wroB : wrongF (sheetX [stX]) = [0] := by
 unfold wrongF
 rw [if_neg (by simp [errB])]
 unfold searchF
 rw [rep_try ptB _ _ _ _ _ _ (Nat.le_refl _) rep_free]
 kernel_rfl
theorem wriS : (⟨(writeF (sheetX [])).toArray⟩ : ByteArray) = textX := by kernel_rfl
theorem reaS : readF textX = (sheetX [], 0) := by kernel_rfl
end Go.Proofs.YthnimhnlnddnoaaGreatDoor
namespace Go.Proofs.YthnimhnlnddnoaaGreatDoor
def TruthOf (s : ShR) (wd : Int) (y : Nat → Int) : Prop := Sol 9 freeM y ∧ ∀ x ∈ s.notes, Says s.iv wd x y
theorem bounds_fine {s : ShR} (hg : Good s) (wd : Int) : Fine (boundsF s wd).1 := allM_fine hg.plen.2 (fun x hx => hg.notes x hx) free_fine
theorem bounds_sol {s : ShR} (hg : Good s) {wd : Int} (h : (boundsF s wd).2 = true) (y : Nat → Int) : Sol 9 (boundsF s wd).1 y ↔ TruthOf s wd y := allM_sol hg.plen.2 (fun x hx => hg.notes x hx) free_fine h y
theorem fit_iff {s : ShR} (hg : Good s) (wd : Int) : (boundsF s wd).2 = true ↔ ∃ y, TruthOf s wd y := by
 constructor
 ·intro h
  obtain ⟨y, hy, _⟩ := (bounds_fine hg wd).closed.reach (i := 0) (k := 0) (by omega) (by omega)
  exact ⟨y, (bounds_sol hg h y).1 hy⟩
 ·rintro ⟨y, hy⟩
  cases h : (boundsF s wd).2 with
  | true => rfl
  | false => exact absurd hy (allM_no hg.plen.2 (fun x hx => hg.notes x hx) free_fine h y)
theorem Says.wider {iv wd wd' : Int} {x : NoteR} {y : Nat → Int} (h : Says iv wd x y) (hw : wd ≤ wd') : Says iv wd' x y := by
 unfold Says at *
 omega
theorem TruthOf.wider {s : ShR} {wd wd' : Int} {y : Nat → Int} (h : TruthOf s wd y) (hw : wd ≤ wd') : TruthOf s wd' y := ⟨h.1, fun x hx => (h.2 x hx).wider hw⟩
theorem fit_mono {s : ShR} (hg : Good s) {wd wd' : Int} (h : (boundsF s wd).2 = true) (hw : wd ≤ wd') : (boundsF s wd').2 = true := by
 obtain ⟨y, hy⟩ := (fit_iff hg wd).1 h
 exact (fit_iff hg wd').2 ⟨y, hy.wider hw⟩
theorem isWider_eq {s : ShR} (hg : Good s) {n k : Int} (h : IsWider s n) (hk0 : 0 ≤ k) (hk : k ≤ 9000) (hy : (boundsF s k).2 = true) (hn : k = 0 ∨ (boundsF s (k - 1)).2 = false) : n = k := by
 have h0 := h.ge
 have h9 := h.le
 have hyes := h.yes
 have hno := h.no
 rcases Int.lt_trichotomy n k with hlt | he | hgt
 ·exfalso
  rcases hyes with rfl | hyes
  ·omega
  ·rcases hn with rfl | hn
   ·omega
   ·have := fit_mono hg hyes (wd' := k - 1) (by omega)
    rw [hn] at this; cases this
 ·exact he
 ·exfalso
  rcases hno with rfl | hno
  ·omega
  ·have := fit_mono hg hy (wd' := n - 1) (by omega)
   rw [hno] at this; cases this
theorem goodB : Good (sheetX [stX]) := good_of_valid errB
theorem widB {n : Int} (h : IsWider (sheetX [stX]) n) : n = 60 :=
 isWider_eq goodB h (by omega) (by omega) ((rep_all rep_free ptB).2.trans (by kernel_rfl)) (.inr ((rep_all rep_free ptB).2.trans (by kernel_rfl)))
end Go.Proofs.YthnimhnlnddnoaaGreatDoor
namespace Go.Proofs.YthnimhnlnddnoaaGreatDoor
def InR (n : Nat) : Nat → List Int → Prop
 | _, [] => True
 | i, x :: l => (i : Int) ≤ x ∧ x < n ∧ InR n (x.toNat + 1) l
def lexLe : List Int → List Int → Prop
 | [], _ => True
 | _ :: _, [] => False
 | a :: m, b :: l => a < b ∨ (a = b ∧ lexLe m l)
def Lx (m l : List Int) : Prop := m.length < l.length ∨ (m.length = l.length ∧ lexLe m l)
structure Least (Q : List Int → Prop) (n : Nat) (m : List Int) : Prop where
 inr : InR n 0 m
 ok : Q m
 least : ∀ l, InR n 0 l → Q l → Lx m l
end Go.Proofs.YthnimhnlnddnoaaGreatDoor
namespace Go.Proofs.YthnimhnlnddnoaaGreatDoor
open Go.RowKit
end Go.Proofs.YthnimhnlnddnoaaGreatDoor
namespace Go.Proofs.YthnimhnlnddnoaaGreatDoor
open Go.RowKit
end Go.Proofs.YthnimhnlnddnoaaGreatDoor
namespace Go.Proofs.YthnimhnlnddnoaaGreatDoor
theorem fitsB_iff {s : ShR} (hg : Good s) : fitsB s = true ↔ ∃ y, TruthOf s 0 y := by
 rw [← fit_iff hg 0]
 unfold fitsB
 rw [decide_eq_true_iff, openE_ok (valid_of_good hg)]
 cases (boundsF s 0).2 <;> simp
theorem errOf_good {s : ShR} (hg : Good s) : errOf s = 0 := valid_of_good hg
theorem openE_fit {s : ShR} (hg : Good s) (h : ∃ y, TruthOf s 0 y) : openE s = 0 := by
 have := (fitsB_iff hg).2 h
 unfold fitsB at this
 exact of_decide_eq_true this
theorem open_bounds {s : ShR} (h : openE s = 0) : openM s = (boundsF s 0).1 ∧ (boundsF s 0).2 = true := by
 have hg := good_of_open h
 rw [openE_ok (errOf_good hg)] at h
 refine ⟨by unfold openM; rw [if_neg (by simp [errOf_good hg])], ?_⟩
 cases hb : (boundsF s 0).2 with
 | true => rfl
 | false => rw [hb] at h; simp at h
theorem open_sol {s : ShR} (h : openE s = 0) (y : Nat → Int) : Sol 9 (openM s) y ↔ TruthOf s 0 y := by
 obtain ⟨e, hb⟩ := open_bounds h
 rw [e]
 exact bounds_sol (good_of_open h) hb y
theorem ends_spot {s : ShR} (h : openE s = 0) {a : Nat} (ha : a < 8) : (0 ≤ - openM s a 8 ∧ - openM s a 8 ≤ 9000) ∧ 0 ≤ openM s 8 a ∧ openM s 8 a ≤ 9000 := by
 have hf := openM_fine h
 obtain ⟨y, hy, _⟩ := hf.closed.reach (i := 8) (k := a) (by omega) (by omega)
 have k1 : openM s a 8 ≤ freeM a 8 := closed_le hf.closed (fun y hy => ((open_sol h y).1 hy).1) (by omega) (by omega)
 have k2 := hf.closed.lo (i := 8) (k := a) (by omega) (by omega)
 have k3 := hf.le 8 a (by omega) (by omega)
 unfold freeM at k1
 rw [if_pos (.inr rfl)] at k1
 omega
end Go.Proofs.YthnimhnlnddnoaaGreatDoor
namespace Go.Proofs.YthnimhnlnddnoaaGreatDoor
open Go.RowKit
end Go.Proofs.YthnimhnlnddnoaaGreatDoor
namespace Go.Proofs.YthnimhnlnddnoaaGreatDoor
def hgt (h : List Int) : Nat → Int := fun j => if j < h.length then h.getD j 0 else 0
theorem hgt_sol {h : List Int} (hn : h.length ≤ 8) (hb : ∀ x ∈ h, 0 ≤ x ∧ x ≤ 9000) : Sol 9 freeM (hgt h) := by
 rw [free_sol]
 intro i hi
 have h8 : hgt h 8 = 0 := by unfold hgt; rw [if_neg (by omega)]
 rw [h8]
 unfold hgt
 split
 ·rename_i hl
  have := hb _ (getD_mem hl 0)
  omega
 ·omega
theorem says_1 {iv wd a b lo hi : Int} {y : Nat → Int} : Says iv wd ⟨1, a, b, lo, hi⟩ y ↔ lo - wd ≤ y a.toNat - y 8 ∧ y a.toNat - y 8 ≤ hi + wd := by simp [Says, nlo, nhi, othN]
theorem says_4 {iv wd a b lo hi : Int} {y : Nat → Int} : Says iv wd ⟨4, a, b, lo, hi⟩ y ↔ lo - wd ≤ y a.toNat - y b.toNat ∧ y a.toNat - y b.toNat ≤ hi + wd := by simp [Says, nlo, nhi, othN]
end Go.Proofs.YthnimhnlnddnoaaGreatDoor
namespace Go.Proofs.YthnimhnlnddnoaaGreatDoor
def byR (off : List Int) (i : Nat) : Int := if off.length = 0 then 0 else off.getD (i % off.length) 0
theorem byR_nn {off : List Int} (h : ∀ x ∈ off, 0 ≤ x) (i : Nat) : 0 ≤ byR off i := by
 unfold byR
 split
 ·exact Int.le_refl _
 ·rename_i hn
  exact h _ (getD_mem (Nat.mod_lt _ (by omega)) 0)
def survN (r : List RvR) (h off : List Int) (i : Nat) : NoteR :=
 if rvD r i = -1 then ⟨1, i, 0, max 0 (h.getD i 0 - byR off i), min 9000 (h.getD i 0 + byR off i)⟩
 else ⟨4, i, rvD r i, rvL r i, min 9000 (h.getD i 0 - h.getD (rvD r i).toNat 0 + byR off i)⟩
def survS (r : List RvR) (h off : List Int) : ShR := ⟨100, r.map (·.name), (List.range r.length).map (survN r h off)⟩
structure Runs (r : List RvR) (h : List Int) : Prop where
 len : h.length = r.length
 run : RunsD r (fun i => h.getD i 0)
 lim : ∀ i, i < r.length → 0 ≤ h.getD i 0 ∧ h.getD i 0 ≤ 9000
theorem pts_at {r : List RvR} {j : Nat} (hj : j < r.length) (d : ByteArray) : (r.map (·.name)).getD j d = rvN r j := by
 unfold rvN
 rw [List.getD_eq_getElem?_getD, List.getElem?_map, List.getElem?_eq_getElem hj, List.getD_eq_getElem?_getD, List.getElem?_eq_getElem hj]
 rfl
theorem surv_good {r : List RvR} (hg : RGood r) (h8 : r.length ≤ 8) {h off : List Int} (hr : Runs r h) (ho : ∀ x ∈ off, 0 ≤ x) : Good (survS r h off) := by
 have hl : (survS r h off).pts.length = r.length := List.length_map _
 refine ⟨⟨by show (1 : Int) ≤ 100; omega, by show (100 : Int) ≤ 1000; omega⟩, by rw [hl]; exact ⟨hg.len.1, h8⟩, fun p hp => ?_, fun i hi => ?_, ?_, fun x hx => ?_⟩
 ·obtain ⟨x, hx, rfl⟩ := List.mem_map.1 hp
  obtain ⟨i, hi, rfl⟩ := List.mem_iff_getElem.1 hx
  have := hg.names i hi
  unfold rvN at this
  rwa [List.getD_eq_getElem?_getD, List.getElem?_eq_getElem hi] at this
 ·rw [hl] at hi
  rw [List.any_eq_false]
  intro x hx
  obtain ⟨j, hj, rfl⟩ := List.mem_iff_getElem.1 hx
  rw [List.length_take] at hj
  have hj1 : j < i := by omega
  have hj2 : j < (survS r h off).pts.length := by omega
  have e1 : ((survS r h off).pts.take i)[j] = rvN r j := by
   rw [List.getElem_take]
   have := pts_at (show j < r.length by omega) ByteArray.empty
   rwa [List.getD_eq_getElem?_getD, List.getElem?_eq_getElem (by rw [← hl] at *; exact hj2)] at this
  have e2 : (survS r h off).pts.getD i ByteArray.empty = rvN r i := pts_at hi _
  rw [e1, e2]
  intro e
  have e3 : (rvN r j).toList = (rvN r i).toList := by simpa using e
  rw [ByteArray.toList_eq, ByteArray.toList_eq] at e3
  exact hg.fresh i hi j hj1 (ByteArray.ext (Array.toList_inj.1 e3))
 ·show ((List.range r.length).map (survN r h off)).length ≤ 12
  simp
  omega
 ·obtain ⟨i, hi, rfl⟩ := List.mem_map.1 hx
  have hi : i < r.length := by simpa using hi
  have hb := byR_nn ho i
  have hdn := hg.down i hi
  have hls := hg.least i hi
  have hlm := hr.lim i hi
  rw [hl]
  unfold survN
  by_cases hd : rvD r i = -1
  ·rw [if_pos hd]
   refine ⟨by simp, by simp; omega, by simp; omega, fun hk => by simp at hk, fun _ => rfl, by simp only; omega, fun _ => by simp only; omega, fun hk => by simp at hk, fun hk => by simp at hk, fun hk => by simp at hk⟩
  ·have hrn := hr.run i hi hd
   simp only at hrn
   rw [if_neg hd]
   refine ⟨by simp, by simp; omega, by simp; omega, fun _ => by simp; omega, fun hk => by simp at hk, by simp only; omega, fun hk => by simp at hk, fun hk => by simp at hk, fun hk => by simp at hk, fun _ => by simp only; omega⟩
theorem surv_truth {r : List RvR} (hg : RGood r) (h8 : r.length ≤ 8) {h off : List Int} (hr : Runs r h) (ho : ∀ x ∈ off, 0 ≤ x) : TruthOf (survS r h off) 0 (hgt h) := by
 have hl := hr.len
 have hh : ∀ j, j < r.length → hgt h j = h.getD j 0 := fun j hj => by unfold hgt; rw [if_pos (by omega)]
 have hh8 : hgt h 8 = 0 := by unfold hgt; rw [if_neg (by omega)]
 refine ⟨hgt_sol (by omega) (fun x hx => ?_), fun x hx => ?_⟩
 ·obtain ⟨i, hi, rfl⟩ := List.mem_iff_getElem.1 hx
  have := hr.lim i (by omega)
  rwa [List.getD_eq_getElem?_getD, List.getElem?_eq_getElem hi] at this
 ·obtain ⟨i, hi, rfl⟩ := List.mem_map.1 hx
  have hi : i < r.length := by simpa using hi
  have hb := byR_nn ho i
  have hlm := hr.lim i hi
  unfold survN
  by_cases hd : rvD r i = -1
  ·rw [if_pos hd, says_1, Int.toNat_natCast, hh8, hh i hi]
   omega
  ·have hrn := hr.run i hi hd
   have hlm2 := hr.lim _ (down_lt hg hi hd)
   simp only at hrn
   have hls := hg.least i hi
   rw [if_neg hd, says_4, Int.toNat_natCast, hh i hi, hh _ (down_lt hg hi hd)]
   omega
theorem truth_runs {r : List RvR} (hg : RGood r) (h8 : r.length ≤ 8) {h off : List Int} {y : Nat → Int} (hy : TruthOf (survS r h off) 0 y) : RunsD r y := by
 intro i hi hd
 have := hy.2 (survN r h off i) (List.mem_map.2 ⟨i, by simpa using hi, rfl⟩)
 unfold survN at this
 rw [if_neg hd, says_4, Int.toNat_natCast] at this
 omega
theorem lows_sol {m : Mat} (hm : Closed 9 m) : Sol 9 m (fun i => - m i 8) := fun i k hi hk => by
 have := hm.tri i k 8 hi hk (by omega)
 show - m k 8 - - m i 8 ≤ m i k
 omega
theorem tops_sol {m : Mat} (hm : Closed 9 m) : Sol 9 m (fun i => m 8 i) := fun i k hi hk => by
 have := hm.tri 8 i k (by omega) hi hk
 show m 8 k - m 8 i ≤ m i k
 omega
def lowsR (s : ShR) : List Int := (heightsF s).map (·.1)
def topsR (s : ShR) : List Int := (heightsF s).map (·.2)
theorem hts_at {s : ShR} (h : openE s = 0) {i : Nat} (hi : i < s.pts.length) : (heightsF s)[i]? = some (- openM s i 8, openM s 8 i) := by
 unfold heightsF spansL
 rw [if_neg (by simp [h]), List.getElem?_map, List.getElem?_range hi]
 rfl
theorem hts_len {s : ShR} (h : openE s = 0) : (heightsF s).length = s.pts.length := by
 unfold heightsF
 rw [if_neg (by simp [h]), spansL_len]
theorem lows_at {s : ShR} (h : openE s = 0) {i : Nat} (hi : i < s.pts.length) : (lowsR s).getD i 0 = - openM s i 8 := by
 unfold lowsR
 rw [List.getD_eq_getElem?_getD, List.getElem?_map, hts_at h hi]
 rfl
theorem tops_at {s : ShR} (h : openE s = 0) {i : Nat} (hi : i < s.pts.length) : (topsR s).getD i 0 = openM s 8 i := by
 unfold topsR
 rw [List.getD_eq_getElem?_getD, List.getElem?_map, hts_at h hi]
 rfl
structure SurvP (r : List RvR) (h off : List Int) : Prop where
 good : Good (survS r h off)
 opened : openE (survS r h off) = 0
 low : Runs r (lowsR (survS r h off))
 top : Runs r (topsR (survS r h off))
 inside : ∀ i, i < r.length → (lowsR (survS r h off)).getD i 0 ≤ h.getD i 0 ∧ h.getD i 0 ≤ (topsR (survS r h off)).getD i 0
theorem surv_all {r : List RvR} (hg : RGood r) (h8 : r.length ≤ 8) {h off : List Int} (hr : Runs r h) (ho : ∀ x ∈ off, 0 ≤ x) : SurvP r h off := by
 have hgd := surv_good hg h8 hr ho
 have ht := surv_truth hg h8 hr ho
 have he := openE_fit hgd ⟨_, ht⟩
 have hl : (survS r h off).pts.length = r.length := List.length_map _
 have hcl := (openM_fine he).closed
 have s1 := (open_sol he _).1 (lows_sol hcl)
 have s2 := (open_sol he _).1 (tops_sol hcl)
 have r1 := truth_runs hg h8 s1
 have r2 := truth_runs hg h8 s2
 have hs := (open_sol he _).2 ht
 have hh8 : hgt h 8 = 0 := by unfold hgt; rw [if_neg (by have := hr.len; omega)]
 refine ⟨hgd, he, ⟨by unfold lowsR; rw [List.length_map, hts_len he, hl], fun i hi hd => ?_, fun i hi => ?_⟩, ⟨by unfold topsR; rw [List.length_map, hts_len he, hl], fun i hi hd => ?_, fun i hi => ?_⟩, fun i hi => ?_⟩
 ·have := r1 i hi hd
  simp only at this ⊢
  rw [lows_at he (by rw [hl]; exact down_lt hg hi hd), lows_at he (by rw [hl]; exact hi)]
  exact this
 ·rw [lows_at he (by rw [hl]; exact hi)]
  exact (ends_spot he (by omega)).1
 ·have := r2 i hi hd
  simp only at this ⊢
  rw [tops_at he (by rw [hl]; exact down_lt hg hi hd), tops_at he (by rw [hl]; exact hi)]
  exact this
 ·rw [tops_at he (by rw [hl]; exact hi)]
  exact (ends_spot he (by omega)).2
 ·rw [lows_at he (by rw [hl]; exact hi), tops_at he (by rw [hl]; exact hi)]
  have a := hs i 8 (by omega) (by omega)
  have b := hs 8 i (by omega) (by omega)
  have hhi : hgt h i = h.getD i 0 := by unfold hgt; rw [if_pos (by have := hr.len; omega)]
  rw [hh8, hhi] at a b
  omega
end Go.Proofs.YthnimhnlnddnoaaGreatDoor
