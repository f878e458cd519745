/- Parts of the proof of TpP: RvB, RvC, RvO, RvQ. -/
import Derived.Test.YthnimhnlnddnoaaGreatDoorH5
import Derived.Test.YthnimhnlnddnoaaGreatDoorH3
set_option linter.unusedSimpArgs false
set_option linter.unusedVariables false
set_option maxRecDepth 100000
set_option maxHeartbeats 8000000
namespace Go.Proofs.YthnimhnlnddnoaaGreatDoor
open Go.RowKit
def RvAt (w : World) (a : Addr) (x : RvR) : Prop :=
 w.cell? a = some (.string x.name) ∧ w.cell? ⟨a.block, a.off + 1, none⟩ = some (.int .i64 x.down) ∧ w.cell? ⟨a.block, a.off + 2, none⟩ = some (.int .i64 x.least) ∧ w.cell? ⟨a.block, a.off + 3, none⟩ = some (.int .i64 x.hgt)
instance : AtKeep RvAt := ⟨fun _ _ a _ h ⟨h0, h1, h2, h3⟩ => ⟨(h a rfl).trans h0, (h ⟨a.block, a.off + 1, none⟩ rfl).trans h1, (h ⟨a.block, a.off + 2, none⟩ rfl).trans h2, (h ⟨a.block, a.off + 3, none⟩ rfl).trans h3⟩, fun _ _ _ h => ⟨_, h.1⟩⟩
instance : Enc RvR RvAt 4 := ⟨fun x => [.string x.name, .int .i64 x.down, .int .i64 x.least, .int .i64 x.hgt], fun _ => rfl, fun _ _ _ _ h => ⟨h 0 _ rfl, h 1 _ rfl, h 2 _ rfl, h 3 _ rfl⟩⟩
theorem Rd.rv {B i : Nat} {w : World} {A : Option Addr} {n cap : Nat} {xs : List RvR} (h : Rd RvAt 4 B w (.slice A n cap) xs) (hi : i < xs.length) :
  ∃ ad, A = some ad ∧ ad.block < B ∧ RvAt w (ad.add (i * 4)) (xs.getD i default) := by
 obtain ⟨A', cap', e, h1, h2, h3⟩ := h
 obtain ⟨ad, e2, hb, ha⟩ := h3 i xs[i] (List.getElem?_eq_getElem hi)
 injection e with e e' e''
 subst e
 exact ⟨ad, e2, hb, by rw [List.getD_eq_getElem?_getD]; simpa [List.getElem?_eq_getElem hi] using ha⟩
end Go.Proofs.YthnimhnlnddnoaaGreatDoor
namespace Go.Proofs.YthnimhnlnddnoaaGreatDoor
open Go.RowKit Go.Maps Go.WideMaps
theorem CntAt.lookupN {w : World} {b : Nat} {l : List ByteArray} (h : CntAt w b l) (s : ByteArray) (hs : s.size ≤ maxLen) : (Instr.lookup 140 (.map (some b)) (.string s) false).run Tryz.prog w = .ok (.int .i64 (cnt l s)) w := by
 obtain ⟨D, h1, _, h3⟩ := h
 obtain ⟨c, hr, hat, _⟩ := h1.lookup_int lawS Tryz.underlying140 Tryz.underlying3 (zero3 w) (keyOf_string_mk Tryz.underlying9 hs)
 rw [h3] at hat
 cases hat
 exact hr
theorem CntAt.updateN {w : World} {b : Nat} {l : List ByteArray} (h : CntAt w b l) (s : ByteArray) (hs : s.size ≤ maxLen) (hl : l.length ≤ 1000) {n : Int} (hn : n = cnt l s + 1) :
  ∃ w', (Instr.mapUpdate 140 (.map (some b)) (.string s) (.int .i64 n)).run Tryz.prog w = .ok () w' ∧ CntAt w' b (l ++ [s]) ∧ w.grownBy w' (some b) := by
 obtain ⟨D, h1, h2, h3⟩ := h
 have hb := cnt_le l s
 have hb0 := cnt_nonneg l s
 have hwf : (Lit.int .i64 n).wf = true := by
  have e1 : IntKind.min .i64 = -9223372036854775808 := by decide
  have e2 : IntKind.max .i64 = 9223372036854775807 := by decide
  simp only [Lit.wf, e1, e2, Bool.and_eq_true, decide_eq_true_eq]
  omega
 obtain ⟨w', hr, ho, hg⟩ := h1.update lawS Tryz.underlying140 (by unfold maxLen; omega) (keyOf_string_mk Tryz.underlying9 hs) (plainElem_int Tryz.underlying3 hwf)
 refine ⟨w', hr, ⟨_, by simpa using ho, h2.put _ _, fun x => ?_⟩, hg⟩
 by_cases hx : s.data.toList = x.data.toList
 ·rw [← hx, atKey_put_same h2 (by simp [WideAt.IsKeyLit]), hn, cnt_congr (l := l ++ [s]) hx.symm, cnt_snoc_same]
 ·rw [atKey_put_other (lit_ne (Ne.symm hx)), h3, cnt_snoc_other hx]
theorem met_any {w : World} {b : Nat} {l : List ByteArray} (s : ByteArray) (h : CntAt w b l) (hs : s.size ≤ maxLen) (hl : l.length ≤ 1000) :
  Calls Tryz.prog 84 #[.map (some b), .string s] w fun e w' => e = .returned (.int .i64 (cnt l s + 1)) ∧ CntAt w' b (l ++ [s]) ∧ w.grownBy w' (some b) := by
 have h1 := h.lookupN s hs
 obtain ⟨w', h2, h3, h4⟩ := h.updateN s hs hl rfl
 have h5 := h3.lookupN s hs
 rw [cnt_snoc_same] at h5
 have c0 := cnt_nonneg l s
 have c1 := cnt_le l s
 have HF := Lib.hid (And.intro h3 h4)
 clear h h3 h4
 generalize cnt l s = n at *
 have hw : IntKind.i64.wrap (n + 1) = n + 1 := IntWalk.i64_in _ (by omega)
 go_enter Tryz.func84, Tryz.ntmps84
 go_wp2
 go_ret
 exact ⟨rfl, HF.out⟩
end Go.Proofs.YthnimhnlnddnoaaGreatDoor
namespace Go.Proofs.YthnimhnlnddnoaaGreatDoor
open Go.RowKit
theorem rout1_any (n lo hi : Int) (a b : Addr) (w : World) (ha : w.cell? a = some (.int .i64 lo)) (hb : w.cell? b = some (.int .i64 hi)) :
  Calls Tryz.prog 112 #[.int .i64 n, .pointer (some a), .pointer (some b)] w fun e w' => e = .returned (.bool (outP lo hi n)) ∧ w' = w := by
 by_cases h : n < lo
 ·go_enter Tryz.func112, Tryz.ntmps112
  go_wp2
  go_ret
  exact ⟨ret_bool (by simp [outP, h]), rfl⟩
 ·by_cases h2 : hi < n
  ·go_enter Tryz.func112, Tryz.ntmps112
   go_wp2
   go_ret
   exact ⟨ret_bool (by simp [outP, h2]), rfl⟩
  ·go_enter Tryz.func112, Tryz.ntmps112
   go_wp2
   go_ret
   exact ⟨ret_bool (by simp [outP, h, h2]), rfl⟩
theorem ridxOut_any {B : Nat} {w : World} {v : Value} {xs : List Int} (lo hi : Int) (a b : Addr) (hv : Rd IntAt 1 B w v xs) (ha : w.cell? a = some (.int .i64 lo)) (hb : w.cell? b = some (.int .i64 hi)) :
  Calls Tryz.prog 113 #[v, .func (.func 112) #[] #[.pointer (some a), .pointer (some b)]] w fun e w' => e = .returned (.int .i64 (idxOf xs.length fun i => outP lo hi (xs[i]?.getD 0))) ∧ w' = w := by
 have hlen := hv.len
 obtain ⟨A, cap, rfl, h1, h2, _⟩ := id hv
 go_enter Tryz.func113, Tryz.ntmps113
 go_wp2
 go_loop [8] (fun i => ∃ k : Nat, k ≤ xs.length ∧ i = .int .i64 k ∧ (∀ j, j < k → outP lo hi (xs[j]?.getD 0) = false)) (fun i => xs.length - (intOf i).toNat)
 case atStart => exact ⟨0, Nat.zero_le _, rfl, fun _ h => by omega⟩
 case round =>
  obtain ⟨k, hk, rfl, hno⟩ := hrel
  have Hno := Lib.hid hno
  clear hno
  by_cases hlt : k < xs.length
  ·obtain ⟨ad, rfl, _, hc⟩ := hv.int hlt
   clear hv
   by_cases ho : outP lo hi (xs[k]?.getD 0) = true
   ·have hr := Lib.hid (idxOf_some (fst?_some hlt (p := fun i => outP lo hi (xs[i]?.getD 0)) ho Hno.out))
    generalize xs[k]?.getD 0 = x at ho hc
    go_wp2_with (go_at_call 112; refine (rout1_any _ lo hi a b _ ha hb).mono ?_; rintro e w' ⟨rfl, rfl⟩)
    go_ret
    exact ⟨ret_int hr.out.symm, rfl⟩
   ·have ho := Bool.eq_false_iff.2 ho
    have Ho := Lib.hid ho
    generalize xs[k]?.getD 0 = x at ho hc
    go_wp2_with (go_at_call 112; refine (rout1_any _ lo hi a b _ ha hb).mono ?_; rintro e w' ⟨rfl, rfl⟩)
    go_round
    case rel => exact ⟨k + 1, by omega, by go_num, fun j hj => by
     by_cases h : j < k
     ·exact Hno.out j h
     ·obtain rfl : j = k := by omega
      exact Ho.out⟩
    case measure => simp [intOf]; omega
  ·have hr := Lib.hid (idxOf_none (fst?_none (n := xs.length) (p := fun i => outP lo hi (xs[i]?.getD 0)) (fun j hj => Hno.out j (by omega))))
   clear hv
   go_wp2
   go_ret
   exact ⟨ret_int hr.out.symm, rfl⟩
theorem rcontOut_any {B : Nat} {w : World} {v : Value} {xs : List Int} (lo hi : Int) (a b : Addr) (hv : Rd IntAt 1 B w v xs) (ha : w.cell? a = some (.int .i64 lo)) (hb : w.cell? b = some (.int .i64 hi)) :
  Calls Tryz.prog 76 #[v, .func (.func 112) #[] #[.pointer (some a), .pointer (some b)]] w fun e w' => e = .returned (.bool (outB lo hi xs)) ∧ w' = w := by
 have e := Lib.hid (outB_idx lo hi xs)
 have h := Lib.hid (ridxOut_any lo hi a b hv ha hb)
 generalize (idxOf xs.length fun i => outP lo hi (xs[i]?.getD 0)) = n at *
 go_enter Tryz.func76, Tryz.ntmps76
 go_wp2_with (go_at_call 113; refine h.out.mono ?_; rintro e w' ⟨rfl, rfl⟩)
 go_ret
 exact ⟨ret_bool e.out, rfl⟩
theorem rout_any {B : Nat} {w : World} {v : Value} {xs : List Int} (lo hi : Int) (hv : Rd IntAt 1 B w v xs) (hB : B ≤ w.heap.size) :
  Calls Tryz.prog 72 #[.int .i64 lo, .int .i64 hi, v] w fun e w' => e = .returned (.bool (outB lo hi xs)) ∧ Below w.heap.size w w' := by
 obtain ⟨W1, hW1, r1, z1, b1⟩ := box_any w #[.int .i64 lo] 3
 obtain ⟨W2, hW2, r2, z2, b2⟩ := box_any W1 #[.int .i64 hi] 3
 have c1 := (b2.cell (p := ⟨w.heap.size, 0, none⟩) (by simp; omega)).trans (cellOf r1 0 rfl)
 have c2 := cellOf r2 0 rfl
 have hv2 := hv.below ((b1.mono hB).trans (b2.mono (by omega)))
 have hbb := b1.trans (b2.mono (by omega : w.heap.size ≤ W1.heap.size))
 rw [z1] at c2
 have h := Lib.hid (rcontOut_any lo hi _ _ hv2 c1 c2)
 go_enter Tryz.func72, Tryz.ntmps72
 go_upto_region 1 with (fail)
 rw [← hW1, ← hW2]
 clear hW1 hW2
 go_wp2_with (go_at_call 76; refine h.out.mono ?_; rintro e w' ⟨rfl, rfl⟩)
 go_ret
 exact ⟨rfl, hbb⟩
end Go.Proofs.YthnimhnlnddnoaaGreatDoor
namespace Go.Proofs.YthnimhnlnddnoaaGreatDoor
def belL (r : List RvR) (i : Nat) : List (Nat × Int) := belowF r (r.length + 1) i 0
theorem bel_first (r : List RvR) (i : Nat) : (belL r i)[0]? = some (i, 0) := by
 unfold belL
 simp [belowF]
theorem bel_step (r : List RvR) : ∀ (f i : Nat) (d : Int) (k : Nat) (p : Nat × Int), (belowF r f i d)[k]? = some p → rvD r p.1 ≠ -1 → k + 1 < f → (belowF r f i d)[k + 1]? = some ((rvD r p.1).toNat, p.2 + rvL r p.1)
 | 0, _, _, _, _, h, _, _ => by simp [belowF] at h
 | f + 1, i, d, 0, p, h, hp, hf => by
  have h : (i, d) = p := by simpa [belowF] using h
  subst h
  have hp : rvD r i ≠ -1 := hp
  obtain ⟨g, rfl⟩ : ∃ g, f = g + 1 := ⟨f - 1, by omega⟩
  simp only [belowF, if_neg hp, List.getElem?_cons_succ, List.getElem?_cons_zero]
 | f + 1, i, d, k + 1, p, h, hp, hf => by
  rw [belowF, List.getElem?_cons_succ] at h
  rw [belowF, List.getElem?_cons_succ]
  by_cases hd : rvD r i = -1
  ·simp [hd] at h
  ·rw [if_neg hd] at h ⊢
   exact bel_step r f _ _ k p h hp (by omega)
theorem bel_last (r : List RvR) : ∀ (f i : Nat) (d : Int) (k : Nat) (p : Nat × Int), (belowF r f i d)[k]? = some p → rvD r p.1 = -1 → (belowF r f i d).length = k + 1
 | 0, _, _, _, _, h, _ => by simp [belowF] at h
 | f + 1, i, d, 0, p, h, hp => by
  have h : (i, d) = p := by simpa [belowF] using h
  subst h
  have hp : rvD r i = -1 := hp
  simp [belowF, hp]
 | f + 1, i, d, k + 1, p, h, hp => by
  rw [belowF, List.getElem?_cons_succ] at h
  rw [belowF, List.length_cons]
  by_cases hd : rvD r i = -1
  ·simp [hd] at h
  ·rw [if_neg hd] at h ⊢
   rw [bel_last r f _ _ k p h hp]
theorem bel_lt {r : List RvR} (hg : RGood r) : ∀ (f i : Nat) (d : Int), i < r.length → depth r i < f → (belowF r f i d).length = depth r i + 1
 | 0, _, _, _, h => absurd h (by omega)
 | f + 1, i, d, hi, h => by
  rw [belowF, List.length_cons]
  by_cases hd : rvD r i = -1
  ·rw [if_pos hd, depth_mouth hg hd]
   rfl
  ·have := depth_down hg hi hd
   rw [if_neg hd, bel_lt hg f _ _ (down_lt hg hi hd) (by omega)]
   omega
theorem belL_len {r : List RvR} (hg : RGood r) {i : Nat} (hi : i < r.length) : (belL r i).length = depth r i + 1 ∧ (belL r i).length ≤ r.length := by
 have := depth_lt hg hi
 unfold belL
 rw [bel_lt hg _ _ _ hi (by omega)]
 exact ⟨rfl, by omega⟩
theorem belL_at {r : List RvR} (hg : RGood r) {i k : Nat} (hi : i < r.length) {p : Nat × Int} (h : (belL r i)[k]? = some p) :
  p.1 < r.length ∧ 0 ≤ p.2 ∧ p.2 ≤ 5000 ∧ (rvD r p.1 = -1 → (belL r i).length = k + 1) ∧ (rvD r p.1 ≠ -1 → (belL r i)[k + 1]? = some ((rvD r p.1).toNat, p.2 + rvL r p.1)) := by
 have hm := List.mem_of_getElem? h
 have hl := belL_len hg hi
 have h1 := (List.getElem?_eq_some_iff.1 h).1
 have h2 := below_le hg _ _ _ hi p hm
 have h3 := below_nn hg _ _ _ hi p hm
 have := hg.len
 exact ⟨(below_depth hg _ _ _ hi p hm).1, h3, by omega, bel_last r _ _ _ _ _ h, fun hd => bel_step r _ _ _ _ _ h hd (by omega)⟩
def runsB (r : List RvR) (i : Nat) : Bool := decide (rvD r i = -1) || decide (rvH r (rvD r i).toNat + rvL r i ≤ rvH r i)
def idxL (n : Nat) (p : Nat → Bool) : List Int := ((List.range n).filter p).map fun i : Nat => (i : Int)
theorem idxL_succ (n : Nat) (p : Nat → Bool) : idxL (n + 1) p = if p n = true then idxL n p ++ [(n : Int)] else idxL n p := by
 unfold idxL
 rw [List.range_succ, List.filter_append]
 by_cases h : p n = true
 ·rw [if_pos h]
  simp [h]
 ·rw [if_neg h]
  simp [h]
theorem idxL_len (n : Nat) (p : Nat → Bool) : (idxL n p).length ≤ n := by
 unfold idxL
 rw [List.length_map]
 have := List.length_filter_le p (List.range n)
 simpa using this
def badR (r : List RvR) : List Int := idxL r.length fun i => !runsB r i
theorem bad_runs {r : List RvR} (hy : RunsD r (rvH r)) : badR r = [] := by
 unfold badR idxL
 rw [List.map_eq_nil_iff, List.filter_eq_nil_iff]
 intro i hi
 have hi : i < r.length := by simpa using hi
 by_cases h : rvD r i = -1
 ·simp [runsB, h]
 ·have := hy i hi h
  simp [runsB, this]
def pourL (r : List RvR) : List (Nat × Int) → List Int
 | [] => []
 | p :: l => (p.1 : Int) :: (if runsB r p.1 then pourL r l else [])
def pouredR (r : List RvR) (i : Nat) : List Int := pourL r (belL r i)
def fillK (r : List RvR) (i k : Nat) : Int := (((belL r i).take k).map fun p => rvH r p.1 + p.2).foldl max 0
theorem fillK_step {r : List RvR} {i k : Nat} {p : Nat × Int} (h : (belL r i)[k]? = some p) : fillK r i (k + 1) = max (fillK r i k) (rvH r p.1 + p.2) := by
 have hlt := (List.getElem?_eq_some_iff.1 h).1
 unfold fillK
 rw [List.take_succ_eq_append_getElem hlt, List.map_append, List.foldl_append, (List.getElem?_eq_some_iff.1 h).2]
 rfl
theorem fillK_all (r : List RvR) (i : Nat) : fillK r i (belL r i).length = fillR r i := by
 unfold fillK fillR
 rw [List.take_length]
 rfl
theorem fillK_le {r : List RvR} (hg : RGood r) {i : Nat} (hi : i < r.length) (k : Nat) : 0 ≤ fillK r i k ∧ fillK r i k ≤ 14000 := by
 unfold fillK
 refine ⟨foldl_max_ge (.inl (Int.le_refl _)), foldl_max_le (by omega) fun x hx => ?_⟩
 obtain ⟨p, hp, rfl⟩ := List.mem_map.1 hx
 obtain ⟨j, hj, e⟩ := List.getElem_of_mem (List.mem_of_mem_take hp)
 obtain ⟨h1, h2, h3, _⟩ := belL_at hg hi ((List.getElem?_eq_getElem hj).trans (congrArg some e))
 have := hg.hgt _ h1
 omega
def fillL (r : List RvR) : List Int := (List.range r.length).map (fillR r)
def carve1 (h : Int) : List (Nat × Int) → List Int → List Int
 | [], l => l
 | p :: t, l => carve1 h t (l.set p.1 (min (l.getD p.1 0) (h - p.2)))
def carveK (r : List RvR) : Nat → List Int
 | 0 => List.replicate r.length 9000
 | i + 1 => carve1 (rvH r i) (belL r i) (carveK r i)
def carveL (r : List RvR) : List Int := carveK r r.length
def CarveOK (r : List RvR) : Prop := ∀ i, i < r.length → ∀ p ∈ belL r i, p.2 ≤ rvH r i
theorem carve1_len (h : Int) : ∀ (t : List (Nat × Int)) (l : List Int), (carve1 h t l).length = l.length
 | [], _ => rfl
 | p :: t, l => by rw [carve1, carve1_len h t, List.length_set]
theorem carveK_len (r : List RvR) : ∀ k, (carveK r k).length = r.length
 | 0 => by simp [carveK]
 | k + 1 => by rw [carveK, carve1_len, carveK_len r k]
theorem carve1_between {h : Int} {f : Nat → Int} : ∀ (t : List (Nat × Int)) (l : List Int), (∀ p ∈ t, f p.1 ≤ h - p.2) → (∀ k, k < l.length → f k ≤ l.getD k 0 ∧ l.getD k 0 ≤ 9000) → ∀ k, k < l.length → f k ≤ (carve1 h t l).getD k 0 ∧ (carve1 h t l).getD k 0 ≤ 9000
 | [], _, _, hl, k, hk => hl k hk
 | p :: t, l, ht, hl, k, hk => by
  rw [carve1]
  refine carve1_between t _ (fun q hq => ht q (List.mem_cons_of_mem _ hq)) (fun j hj => ?_) k (by rw [List.length_set]; exact hk)
  rw [List.length_set] at hj
  by_cases hp : p.1 < l.length
  ·rw [getD_set hp]
   split
   ·rename_i e
    rw [e]
    have := hl j hj
    have := ht p (List.mem_cons_self ..)
    rw [e] at this
    omega
   ·exact hl j hj
  ·rw [List.set_eq_of_length_le (by omega)]
   exact hl j hj
theorem carve1_le {h : Int} : ∀ (t : List (Nat × Int)) (l : List Int) (k : Nat), k < l.length → (carve1 h t l).getD k 0 ≤ l.getD k 0
 | [], _, _, _ => Int.le_refl _
 | p :: t, l, k, hk => by
  rw [carve1]
  refine Int.le_trans (carve1_le t _ k (by rw [List.length_set]; exact hk)) ?_
  by_cases hp : p.1 < l.length
  ·rw [getD_set hp]
   split
   ·rename_i e
    rw [e]
    omega
   ·exact Int.le_refl _
  ·rw [List.set_eq_of_length_le (by omega)]
   exact Int.le_refl _
theorem carveK_mono (r : List RvR) {k : Nat} (hk : k < r.length) : ∀ (n m : Nat), (carveK r (m + n)).getD k 0 ≤ (carveK r m).getD k 0
 | 0, _ => Int.le_refl _
 | n + 1, m => by
  refine Int.le_trans ?_ (carveK_mono r hk n m)
  show (carve1 _ _ (carveK r (m + n))).getD k 0 ≤ _
  exact carve1_le _ _ _ (by rw [carveK_len]; exact hk)
theorem carveK_between {r : List RvR} {f : Nat → Int} (hf : ∀ i, i < r.length → ∀ p ∈ belL r i, f p.1 ≤ rvH r i - p.2) (h9 : ∀ k, k < r.length → f k ≤ 9000) : ∀ i, i ≤ r.length → ∀ k, k < r.length → f k ≤ (carveK r i).getD k 0 ∧ (carveK r i).getD k 0 ≤ 9000
 | 0, _, k, hk => by
  have : (carveK r 0).getD k 0 = 9000 := by simp [carveK, List.getD_eq_getElem?_getD, hk]
  rw [this]
  exact ⟨h9 k hk, Int.le_refl _⟩
 | i + 1, hi, k, hk => carve1_between _ _ (hf i (by omega)) (fun j hj => carveK_between hf h9 i (by omega) j (by rw [carveK_len] at hj; exact hj)) k (by rw [carveK_len]; exact hk)
theorem carveL_runs {r : List RvR} (hg : RGood r) (hy : RunsD r (rvH r)) {k : Nat} (hk : k < r.length) : (carveL r).getD k 0 = rvH r k := by
 have hb := carveK_between (r := r) (f := rvH r) (fun i hi p hp => by
  have := (runs_below hg hy _ i 0 hi p hp).2.1
  omega) (fun j hj => (hg.hgt j hj).2)
 refine Int.le_antisymm ?_ (hb r.length (Nat.le_refl _) k hk).1
 have h1 := carveK_mono r hk (r.length - (k + 1)) (k + 1)
 rw [show k + 1 + (r.length - (k + 1)) = r.length by omega] at h1
 refine Int.le_trans h1 ?_
 show (carve1 (rvH r k) (belL r k) (carveK r k)).getD k 0 ≤ _
 have hl : k < (carveK r k).length := by rw [carveK_len]; exact hk
 unfold belL
 rw [belowF, carve1]
 refine Int.le_trans (carve1_le _ _ _ (by rw [List.length_set]; exact hl)) ?_
 rw [getD_set hl, if_pos rfl]
 omega
theorem fillL_runs {r : List RvR} (hg : RGood r) (hy : RunsD r (rvH r)) : fillL r = r.map (·.hgt) := by
 refine List.ext_getElem (by simp [fillL]) fun i h1 h2 => ?_
 have hi : i < r.length := by simpa [fillL] using h1
 simp only [fillL, List.getElem_map, List.getElem_range]
 rw [fill_runs hg hy hi, rvH, getD_at hi]
def listF (set : Nat) : List Int := idxL 9 fun i => set.testBit i
def popF (set : Nat) : Nat := (listF set).length
def corrStep (r : List RvR) (st : Nat × List Nat) (set : Nat) : Nat × List Nat :=
 if st.1 < popF set ∨ corrR r set = false then st else if popF set < st.1 then (popF set, [set]) else (st.1, st.2 ++ [set])
def corrsK (r : List RvR) (k : Nat) : Nat × List Nat := (List.range k).foldl (corrStep r) (r.length, [])
theorem corrsK_succ (r : List RvR) (k : Nat) : corrsK r (k + 1) = corrStep r (corrsK r k) k := by
 unfold corrsK
 rw [List.range_succ, List.foldl_append]
 rfl
def corrsR (r : List RvR) : List Nat := (corrsK r (2 ^ r.length)).2
theorem idxL_more (p : Nat → Bool) {n : Nat} (h : ∀ i, n ≤ i → p i = false) : ∀ m, idxL (n + m) p = idxL n p
 | 0 => rfl
 | m + 1 => by rw [← Nat.add_assoc, idxL_succ, if_neg (by simp [h (n + m) (by omega)]), idxL_more p h m]
theorem popF_le {n k : Nat} (hn : n ≤ 9) (hk : k < 2 ^ n) : popF k ≤ n := by
 have h : ∀ i, n ≤ i → k.testBit i = false := fun i hi => Nat.testBit_lt_two_pow (Nat.lt_of_lt_of_le hk (Nat.pow_le_pow_right (by omega) hi))
 unfold popF listF
 have := idxL_more _ h (9 - n)
 rw [show n + (9 - n) = 9 by omega] at this
 rw [this]
 exact idxL_len _ _
theorem listF_le (k : Nat) : popF k ≤ 9 := idxL_len _ _
structure CorrI (r : List RvR) (k : Nat) (st : Nat × List Nat) : Prop where
 most : st.1 ≤ r.length
 len : st.2.length ≤ k
 mem : ∀ s ∈ st.2, s < k ∧ corrR r s = true ∧ popF s = st.1
 least : ∀ s, s < k → corrR r s = true → st.1 ≤ popF s
 none : st.2 = [] → st.1 = r.length ∧ ∀ s, s < k → corrR r s = false
theorem corrI_step {r : List RvR} {k : Nat} (hp : popF k ≤ r.length) {st : Nat × List Nat} (h : CorrI r k st) : CorrI r (k + 1) (corrStep r st k) := by
 obtain ⟨h1, h0, h2, h3, h4⟩ := h
 unfold corrStep
 by_cases hc : st.1 < popF k ∨ corrR r k = false
 ·rw [if_pos hc]
  refine ⟨h1, by omega, fun s hs => ⟨by have := (h2 s hs).1; omega, (h2 s hs).2⟩, fun s hs hr => ?_, fun he => ⟨(h4 he).1, fun s hs => ?_⟩⟩
  ·by_cases e : s = k
   ·subst e
    rcases hc with hc | hc
    ·omega
    ·rw [hr] at hc; cases hc
   ·exact h3 s (by omega) hr
  ·by_cases e : s = k
   ·subst e
    rcases hc with hc | hc
    ·have := (h4 he).1
     omega
    ·exact hc
   ·exact (h4 he).2 s (by omega)
 ·rw [if_neg hc]
  have hk : corrR r k = true := by
   cases h : corrR r k with
   | true => rfl
   | false => exact absurd (.inr h) hc
  by_cases hl : popF k < st.1
  ·rw [if_pos hl]
   refine ⟨hp, by simp, fun s hs => ?_, fun s hs hr => ?_, fun he => by cases he⟩
   ·obtain rfl : s = k := by simpa using hs
    exact ⟨by omega, hk, rfl⟩
   ·show popF k ≤ _
    by_cases e : s = k
    ·rw [e]
     exact Nat.le_refl _
    ·have := h3 s (by omega) hr
     omega
  ·rw [if_neg hl]
   have he : popF k = st.1 := by have : ¬ st.1 < popF k := fun h => hc (.inl h); omega
   refine ⟨h1, by simp; omega, fun s hs => ?_, fun s hs hr => ?_, fun h => by simp at h⟩
   ·rcases List.mem_append.1 hs with hs | hs
    ·exact ⟨by have := (h2 s hs).1; omega, (h2 s hs).2⟩
    ·obtain rfl : s = k := by simpa using hs
     exact ⟨by omega, hk, he⟩
   ·show st.1 ≤ _
    by_cases e : s = k
    ·rw [e]; omega
    ·exact h3 s (by omega) hr
theorem corrI_all {r : List RvR} (h9 : r.length ≤ 9) : ∀ k, k ≤ 2 ^ r.length → CorrI r k (corrsK r k)
 | 0, _ => ⟨Nat.le_refl _, Nat.le_refl _, fun s hs => (by cases hs), fun s hs => absurd hs (by omega), fun _ => ⟨rfl, fun s hs => absurd hs (by omega)⟩⟩
 | k + 1, hk => by
  rw [corrsK_succ]
  exact corrI_step (popF_le h9 (by omega)) (corrI_all h9 k (by omega))
theorem corr_full (r : List RvR) : corrR r (2 ^ r.length - 1) = true := by
 unfold corrR
 rw [List.all_eq_true]
 intro i hi
 have hi : i < r.length := by simpa using hi
 have : bitR (2 ^ r.length - 1) i = true := by
  unfold bitR
  rw [Nat.testBit_two_pow_sub_one]
  simpa using hi
 rw [this]
 rfl
theorem pow_pos2 (n : Nat) : 1 ≤ 2 ^ n := Nat.pos_of_ne_zero (by simp)
theorem corrs_spec {r : List RvR} (h9 : r.length ≤ 9) : corrsR r ≠ [] ∧ (corrsR r).length ≤ 512 ∧ ∀ s ∈ corrsR r, s < 2 ^ r.length ∧ corrR r s = true ∧ ∀ t, t < 2 ^ r.length → corrR r t = true → popF s ≤ popF t := by
 obtain ⟨h1, h0, h2, h3, h4⟩ := corrI_all h9 (2 ^ r.length) (Nat.le_refl _)
 have hp : 2 ^ r.length ≤ 2 ^ 9 := Nat.pow_le_pow_right (by omega) h9
 refine ⟨fun he => ?_, by unfold corrsR; omega, fun s hs => ?_⟩
 ·have := (h4 he).2 (2 ^ r.length - 1) (by have := pow_pos2 r.length; omega)
  rw [corr_full] at this
  cases this
 ·obtain ⟨a, b, c⟩ := h2 s hs
  exact ⟨a, b, fun t ht hr => by rw [c]; exact h3 t ht hr⟩
def cmpL : List Int → List Int → Int
 | [], [] => 0
 | [], _ :: _ => -1
 | _ :: _, [] => 1
 | x :: l, y :: m => if x < y then -1 else if y < x then 1 else cmpL l m
def cmpF (a b : Nat) : Int := cmpL (listF a) (listF b)
def firstK (l : List Nat) : Nat → Nat
 | 0 => 0
 | k + 1 => if k = 0 ∨ cmpF (l.getD k 0) (firstK l k) < 0 then l.getD k 0 else firstK l k
def firstF (l : List Nat) : Nat := firstK l l.length
theorem firstK_mem (l : List Nat) : ∀ k, 1 ≤ k → k ≤ l.length → firstK l k ∈ l
 | 0, h, _ => absurd h (by omega)
 | k + 1, _, h => by
  rw [firstK]
  split
  ·exact getD_mem (by omega) 0
  ·rename_i hn
   exact firstK_mem l k (by omega) (by omega)
theorem firstF_mem {l : List Nat} (h : l ≠ []) : firstF l ∈ l := firstK_mem l _ (List.length_pos_iff.2 h) (Nat.le_refl _)
def fewR (r : List RvR) : Nat := firstF (corrsR r)
theorem few_spec {r : List RvR} (h9 : r.length ≤ 9) : fewR r < 2 ^ r.length ∧ ∀ t, t < 2 ^ r.length → corrR r t = true → popF (fewR r) ≤ popF t := by
 obtain ⟨h1, _, h2⟩ := corrs_spec h9
 have := h2 _ (firstF_mem h1)
 exact ⟨this.1, this.2.2⟩
def mustF (r : List RvR) (k : Nat) : Nat × Nat := ((corrsR r).take k).foldl (fun st s => (st.1 &&& s, st.2 ||| s)) (2 ^ r.length - 1, 0)
theorem mustF_step {r : List RvR} {k : Nat} (hk : k < (corrsR r).length) : mustF r (k + 1) = ((mustF r k).1 &&& (corrsR r).getD k 0, (mustF r k).2 ||| (corrsR r).getD k 0) := by
 unfold mustF
 rw [take_succ_getD hk 0, List.foldl_append]
 rfl
end Go.Proofs.YthnimhnlnddnoaaGreatDoor
