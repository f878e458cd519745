/- Parts of the proof of TpP: PChk, PRead, Txt1, RChk, RCheck, Frm. -/
import Derived.Test.YthnimhnlnddnoaaGreatDoorH3
import Derived.WalkKit
import Derived.Deep.Quiet
import Derived.IntWalk
import Derived.Test.YthnimhnlnddnoaaGreatDoorH1
import Derived.Lib.ItoaLen
import Derived.Lib.AppendIntMem
import Derived.ChangeAgain
import Derived.Deep.Cut
import Derived.Test.YthnimhnlnddnoaaGreatDoorRows
import Derived.Below
import Derived.ChangeSame
import Derived.ProofKit
import Derived.OpenShut
import Derived.LaidMore
import Derived.Lay
import Derived.MakeChecks
import Derived.Handed
import Derived.HandedShaped
import Derived.Deep.Slices
import Derived.Deep.Fields
import Derived.Lib.SmallJoins
import Derived.Carry
import Derived.WideKeyArgs
import Derived.ChangeMaps5
import Derived.Lib.LaidTab
set_option linter.unusedSimpArgs false
set_option linter.unusedVariables false
set_option maxRecDepth 100000
set_option maxHeartbeats 8000000
namespace Go.Proofs.YthnimhnlnddnoaaGreatDoor
open Go.RowKit
theorem freshErr_cnt (s : ByteArray) (l : List ByteArray) : freshErr s l = if nameB s = false then 6 else if 1 ≤ cnt l s then 5 else 0 := by
 unfold freshErr
 by_cases h : (l.any fun x => x.toList == s.toList) = false
 ·have := (cnt_zero l s).2 h
  rw [h, this]
  simp
 ·have h1 : ¬ cnt l s = 0 := fun e => h ((cnt_zero l s).1 e)
  have h2 := cnt_nonneg l s
  have h3 : (l.any fun x => x.toList == s.toList) = true := by simpa using h
  have h4 : 1 ≤ cnt l s := by omega
  simp only [h3, h4, if_true]
theorem check1_any {w : World} {a : Addr} {b : Nat} {l : List ByteArray} (i : Int) (s : ByteArray) (hs : s.size ≤ 9223372036854775807) (ha : w.cell? a = some (.map (some b))) (hab : a.block ≠ b) (hc : CntAt w b l) (hl : l.length ≤ 1000) :
  Calls Tryz.prog 92 #[.int .i64 i, .string s, .pointer (some a)] w fun e w' => e = .returned (.int .i64 (freshErr s l)) ∧ CntAt w' b (l ++ [s]) ∧ w.grownBy w' (some b) := by
 have hs' : s.size ≤ maxLen := by unfold maxLen; exact hs
 have hlk := hc.lookup s hs'
 obtain ⟨w1, hup, hc1, hg1⟩ := hc.update s hs' hl rfl
 have ha1 := hg1.cell ha (by simpa using hab)
 have hb0 := cnt_nonneg l s
 have hb1 := cnt_le l s
 have hres := freshErr_cnt s l
 have hc2 := fun (w2 : World) (h : Below w1.heap.size w1 w2) => (hc1.lookup s hs')
 have hcs := cnt_snoc_same l s
 have Hc1 := Lib.hid hc1
 have Hg1 := Lib.hid hg1
 have ha1' := Lib.hid ha1
 have Hlt := Lib.hid hc1.lt
 clear hc1 hg1 hc
 have HN := fun (w2 : World) (h : Below w1.heap.size w1 w2) => (Hc1.out.grown (below_grown h none) (by simp)).lookup s hs'
 rw [hcs] at HN
 have HN := Lib.hid HN
 clear hcs hc2
 generalize cnt l s = c at *
 generalize freshErr s l = r at *
 cases hn : nameB s with
 | false =>
  have HR := Lib.hid (show r = 6 by rw [hres, if_pos hn])
  clear hres
  go_enter Tryz.func92, Tryz.ntmps92
  go_wp2_with (go_at_call 35; refine (name_any s _ hs).mono ?_; rintro e w2 ⟨rfl, hb2⟩)
  go_ret
  exact ⟨ret_int HR.out.symm, Hc1.out.grown (below_grown hb2 none) (by simp), Hg1.out.trans (below_grown hb2 _)⟩
 | true =>
  by_cases h1 : 1 ≤ c
  ·have HR := Lib.hid (show r = 5 by rw [hres, if_neg (by simp [hn]), if_pos h1])
   clear hres
   go_enter Tryz.func92, Tryz.ntmps92
   go_wp2_with (go_at_call 35; refine (name_any s _ hs).mono ?_; rintro e w2 ⟨rfl, hb2⟩; have ha2 := (hb2.cell (cell_lt ha1'.out)).trans ha1'.out; have hl2 := HN.out _ hb2)
   go_ret
   exact ⟨ret_int HR.out.symm, Hc1.out.grown (below_grown hb2 none) (by simp), Hg1.out.trans (below_grown hb2 _)⟩
  ·have HR := Lib.hid (show r = 0 by rw [hres, if_neg (by simp [hn]), if_neg h1])
   clear hres
   go_enter Tryz.func92, Tryz.ntmps92
   go_wp2_with (go_at_call 35; refine (name_any s _ hs).mono ?_; rintro e w2 ⟨rfl, hb2⟩; have ha2 := (hb2.cell (cell_lt ha1'.out)).trans ha1'.out; have hl2 := HN.out _ hb2)
   go_ret
   exact ⟨ret_int HR.out.symm, Hc1.out.grown (below_grown hb2 none) (by simp), Hg1.out.trans (below_grown hb2 _)⟩
def firstV (n : Nat) (e : Nat → Int) : Value := match fst? n fun i => e i != 0 with
 | some k => .tuple #[.int .i64 k, .int .i64 (e k)]
 | none => .tuple #[.int .i64 0, .int .i64 0]
theorem firstV_some {n k : Nat} {e : Nat → Int} (hk : k < n) (h : e k ≠ 0) (hb : ∀ j, j < k → e j = 0) : firstV n e = .tuple #[.int .i64 k, .int .i64 (e k)] := by
 unfold firstV
 rw [fst?_some (p := fun i => e i != 0) hk (by simpa using h) (fun j hj => by simpa using hb j hj)]
theorem firstV_none {n : Nat} {e : Nat → Int} (hb : ∀ j, j < n → e j = 0) : firstV n e = .tuple #[.int .i64 0, .int .i64 0] := by
 unfold firstV
 rw [fst?_none (p := fun i => e i != 0) (fun j hj => by simpa using hb j hj)]
theorem first1_any {B : Nat} {w : World} {v : Value} {a : Addr} {b : Nat} {s : ShR} (hp : Rd StrAt 1 B w v s.pts) (hn : ∀ p ∈ s.pts, p.size ≤ 9223372036854775807) (hl : s.pts.length ≤ 8)
  (ha : w.cell? a = some (.map (some b))) (hab : a.block ≠ b) (hc : CntAt w b []) (hB : B ≤ b) :
  Calls Tryz.prog 91 #[v, .func (.func 92) #[] #[.pointer (some a)]] w fun e w' => e = .returned (firstV s.pts.length (ptErr s)) ∧ w.grownBy w' (some b) := by
 obtain ⟨Ap, cp, rfl, h3, h4, _⟩ := id hp
 have Hp := Lib.hid hp
 have HN := Lib.hid hn
 have Hc := Lib.hid hc
 have Ha := Lib.hid ha
 clear hp hn hc ha h3 h4
 go_enter Tryz.func91, Tryz.ntmps91
 go_wp2
 go_loopw [11] (fun i wr => ∃ k : Nat, k ≤ s.pts.length ∧ i = .int .i64 k ∧ (∀ j, j < k → ptErr s j = 0) ∧ CntAt wr b (s.pts.take k) ∧ w.grownBy wr (some b)) (fun i _ => s.pts.length - (intOf i).toNat)
 case atStart => exact ⟨0, Nat.zero_le _, rfl, fun _ h => by omega, Hc.out, World.grownBy.refl _ _⟩
 case round =>
  obtain ⟨k, hk, rfl, hno, hcr, hgr⟩ := hrel
  have Hno := Lib.hid hno
  have HG := Lib.hid hgr
  clear hno
  by_cases hlt : k < s.pts.length
  ·obtain ⟨ad, rfl, hbl, hc⟩ := Hp.out.str hlt
   have hc := (hgr.cell hc (by rw [block_add]; simp; omega))
   have h1 := check1_any (w := wr) (k : Int) (s.pts[k]?.getD ByteArray.empty) (HN.out _ (by rw [← List.getD_eq_getElem?_getD]; exact getD_mem hlt _)) (hgr.cell Ha.out (by simpa using hab)) hab hcr (by rw [List.length_take]; omega)
   have htk := take_succ_getD hlt ByteArray.empty
   rw [List.getD_eq_getElem?_getD] at htk
   rw [← htk] at h1
   have he : freshErr (s.pts[k]?.getD ByteArray.empty) (s.pts.take k) = ptErr s k := by unfold ptErr; rw [List.getD_eq_getElem?_getD]
   rw [he] at h1
   have H1 := Lib.hid h1
   clear h1 htk he hcr hgr
   generalize s.pts[k]?.getD ByteArray.empty = x at *
   by_cases h0 : ptErr s k = 0
   ·have hb0 : (ptErr s k != 0) = false := by simp [h0]
    have H0 := Lib.hid h0
    clear h0
    go_wp2_with (go_at_call 92; refine H1.out.mono ?_; rintro e w2 ⟨rfl, hc2, hg2⟩)
    go_roundw
    case rel => exact ⟨k + 1, by omega, by go_num, fun j hj => by
     by_cases h : j < k
     ·exact Hno.out j h
     ·obtain rfl : j = k := by omega
      exact H0.out, hc2, HG.out.trans hg2⟩
    case measure => simp [intOf]; omega
   ·have hb0 : (ptErr s k != 0) = true := by simp [h0]
    have e := Lib.hid (firstV_some hlt h0 Hno.out)
    clear h0
    go_wp2_with (go_at_call 92; refine H1.out.mono ?_; rintro e w2 ⟨rfl, hc2, hg2⟩)
    go_ret2
    exact ⟨by rw [e.out]; rfl, HG.out.trans hg2⟩
  ·have hk2 := Lib.hid (show k = s.pts.length by omega)
   have e := Lib.hid (firstV_none (n := s.pts.length) (fun j hj => Hno.out j (by rw [hk2.out]; exact hj)))
   go_wp2
   go_ret2
   exact ⟨by rw [e.out]; rfl, HG.out⟩
end Go.Proofs.YthnimhnlnddnoaaGreatDoor
namespace Go.Proofs.YthnimhnlnddnoaaGreatDoor
open Go.RowKit
theorem read_is (x : NoteR) (w : World) (k : Int) (T : TypeId) (hk : x.kind = k) (hT : (k = 1 ∧ T = 171) ∨ (k = 2 ∧ T = 172) ∨ (k = 3 ∧ T = 173) ∨ (k = 4 ∧ T = 174)) :
  Calls Tryz.prog 103 #[noteV x] w fun e w' => e = .returned (.iface T (noteV x)) ∧ Below w.heap.size w w' := by
 obtain ⟨W1, hW1, r1, z1, b1⟩ := box_any w #[.int .i64 x.kind, .int .i64 x.a, .int .i64 x.b, .int .i64 x.lo, .int .i64 x.hi] 86
 have c0 := cellOf r1 0 rfl
 have c1 := cellOf r1 1 rfl
 have c2 := cellOf r1 2 rfl
 have c3 := cellOf r1 3 rfl
 have c4 := cellOf r1 4 rfl
 obtain ⟨kind, a, b, lo, hi⟩ := x
 unfold noteV
 simp only at *
 subst hk
 rcases hT with ⟨rfl, rfl⟩ | ⟨rfl, rfl⟩ | ⟨rfl, rfl⟩ | ⟨rfl, rfl⟩
 all_goals
  go_enter Tryz.func103, Tryz.ntmps103
  go_upto_region 1 with (fail)
  rw [← hW1]
  clear hW1
  go_wp2
  go_ret
  exact ⟨rfl, b1⟩
theorem read_no (x : NoteR) (w : World) (hk : inB x.kind 1 4 = false) :
  Calls Tryz.prog 103 #[noteV x] w fun e w' => e = .returned .nilIface ∧ Below w.heap.size w w' := by
 obtain ⟨W1, hW1, r1, z1, b1⟩ := box_any w #[.int .i64 x.kind, .int .i64 x.a, .int .i64 x.b, .int .i64 x.lo, .int .i64 x.hi] 86
 have c0 := cellOf r1 0 rfl
 obtain ⟨kind, a, b, lo, hi⟩ := x
 unfold noteV
 simp only at *
 have hk := inB_false.1 hk
 have h1 : (kind == 1) = false := by simp; omega
 have h2 : (kind == 2) = false := by simp; omega
 have h3 : (kind == 3) = false := by simp; omega
 have h4 : (kind == 4) = false := by simp; omega
 go_enter Tryz.func103, Tryz.ntmps103
 go_upto_region 1 with (fail)
 rw [← hW1]
 clear hW1 hk
 go_wp2
 go_ret
 exact ⟨rfl, b1⟩
theorem Rd.two (w : World) (a b : Int) : Rd IntAt 1 (w.heap.size + 1) (w.alloc (.cells #[.int .i64 a, .int .i64 b] 3)) (.slice (some ⟨w.heap.size, 0, none⟩) 2 2) [a, b] := by
 refine ⟨_, _, rfl, by simp, by omega, fun i y hy => ?_⟩
 match i, hy with
 | 0, hy =>
  simp at hy
  subst hy
  exact ⟨_, rfl, by simp, (cell_of_row _ _ 0 _ _ _ (heap_alloc_new w _)).trans rfl⟩
 | 1, hy =>
  simp at hy
  subst hy
  exact ⟨_, rfl, by simp, (cell_of_row _ _ 1 _ _ _ (heap_alloc_new w _)).trans rfl⟩
theorem out2_any (lo hi a b : Int) (w : World) :
  Calls Tryz.prog 59 #[.int .i64 lo, .int .i64 hi, .slice (some ⟨w.heap.size, 0, none⟩) 2 2] (w.alloc (.cells #[.int .i64 a, .int .i64 b] 3)) fun e w' => e = .returned (.bool (outB lo hi [a, b])) ∧ Below w.heap.size w w' :=
 (out_any lo hi (Rd.two w a b) (by simp)).mono fun _ _ ⟨h1, h2⟩ => ⟨h1, ((Below.refl _ _).alloc (Nat.le_refl _) _).trans (h2.mono (by simp))⟩
theorem out1n_any (lo hi a : Int) (w : World) :
  Calls Tryz.prog 59 #[.int .i64 lo, .int .i64 hi, .slice (some ⟨w.heap.size, 0, none⟩) 1 1] (w.alloc (.cells #[.int .i64 a] 3)) fun e w' => e = .returned (.bool (outB lo hi [a])) ∧ Below w.heap.size w w' :=
 (out_any lo hi (Rd.one w a) (by simp)).mono fun _ _ ⟨h1, h2⟩ => ⟨h1, ((Below.refl _ _).alloc (Nat.le_refl _) _).trans (h2.mono (by simp))⟩
theorem about180 (x : NoteR) (w : World) : Calls Tryz.prog 197 #[noteV x] w fun e w' => e = .returned (.int .i64 1) ∧ Below w.heap.size w w' := by
 unfold noteV
 go_enter Tryz.func197, Tryz.ntmps197
 go_wp2
 go_ret
 exact ⟨rfl, (Below.refl _ _).alloc (Nat.le_refl _) _⟩
theorem about181 (x : NoteR) (w : World) : Calls Tryz.prog 198 #[noteV x] w fun e w' => e = .returned (.int .i64 1) ∧ Below w.heap.size w w' := by
 unfold noteV
 go_enter Tryz.func198, Tryz.ntmps198
 go_wp2
 go_ret
 exact ⟨rfl, (Below.refl _ _).alloc (Nat.le_refl _) _⟩
theorem about184 (x : NoteR) (w : World) : Calls Tryz.prog 199 #[noteV x] w fun e w' => e = .returned (.int .i64 2) ∧ Below w.heap.size w w' := by
 unfold noteV
 go_enter Tryz.func199, Tryz.ntmps199
 go_wp2
 go_ret
 exact ⟨rfl, (Below.refl _ _).alloc (Nat.le_refl _) _⟩
theorem about182 (x : NoteR) (w : World) : Calls Tryz.prog 200 #[noteV x] w fun e w' => e = .returned (.int .i64 2) ∧ Below w.heap.size w w' := by
 unfold noteV
 go_enter Tryz.func200, Tryz.ntmps200
 go_wp2
 go_ret
 exact ⟨rfl, (Below.refl _ _).alloc (Nat.le_refl _) _⟩
theorem outB_two (lo hi a b : Int) : outB lo hi [a, b] = true ↔ inB a lo hi = false ∨ inB b lo hi = false := by
 simp [outB, inB]
 omega
theorem outB_two_no {lo hi a b : Int} : outB lo hi [a, b] = false ↔ inB a lo hi = true ∧ inB b lo hi = true := by
 rw [Bool.eq_false_iff, ne_eq, outB_two]
 simp
theorem noteErr_p {np : Nat} {iv : Int} {x : NoteR} {l h m : Int} (hk : inB x.kind 1 4 = true) (ho : outB 0 ((np : Int) - 1) [x.a, x.b] = false)
  (harg : ¬ (((x.kind = 3 ∨ x.kind = 4) ∧ x.a = x.b) ∨ (¬ (x.kind = 3 ∨ x.kind = 4) ∧ x.b ≠ 0)))
  (hl : (x.kind = 1 ∧ l = 0 ∧ h = 9000 ∧ m = 0) ∨ (x.kind = 2 ∧ l = 0 ∧ h = 9000 / iv ∧ m = 1) ∨ (x.kind = 3 ∧ l = 0 ∧ h = 0 ∧ m = 0) ∨ (x.kind = 4 ∧ l = -9000 ∧ h = 9000 ∧ m = 0)) :
  noteErr np iv x = if outB l h [x.lo, x.hi] = true then 7 else if x.hi < x.lo + m then 2 else 0 := by
 obtain ⟨ha, hb⟩ := outB_two_no.1 ho
 unfold noteErr
 rw [if_neg (by simp [hk]), if_neg (by simp [ha, hb]), if_neg harg]
 simp only [outB_two]
 rcases hl with ⟨k, rfl, rfl, rfl⟩ | ⟨k, rfl, rfl, rfl⟩ | ⟨k, rfl, rfl, rfl⟩ | ⟨k, rfl, rfl, rfl⟩
 ·simp [k, rangeErr]
 ·simp only [k, rangeErr]
  by_cases h1 : inB x.lo 0 (9000 / iv) = false ∨ inB x.hi 0 (9000 / iv) = false
  ·simp [h1]
  ·by_cases h2 : x.hi < x.lo
   ·have h3 : x.hi < x.lo + 1 := by omega
    simp [h1, h2, h3]
   ·by_cases h4 : x.lo = x.hi
    ·have h3 : x.hi < x.lo + 1 := by omega
     simp only [if_neg h1, if_neg h2]
     simp [h4]
     omega
    ·have h3 : ¬ x.hi < x.lo + 1 := by omega
     simp [h1, h2, h3, h4]
 ·simp [k, rangeErr]
 ·simp [k, rangeErr]
end Go.Proofs.YthnimhnlnddnoaaGreatDoor
namespace Go.Proofs.YthnimhnlnddnoaaGreatDoor
open Go.RowKit
theorem shaped_below {P : Program} {w w' : World} (h : w.ShapedOpen P) (hb : Below w.heap.size w w') : w'.ShapedOpen P := by
 have lt_of_some : ∀ {i : Nat} {o : Obj}, w.heap[i]? = some o → i < w.heap.size := by
  intro i o ho
  rcases Nat.lt_or_ge i w.heap.size with h' | h'
  ·exact h'
  ·simp [Array.getElem?_eq_none h'] at ho
 have hsh : ∀ (b : Nat) x, w.shape? b = some x → w'.shape? b = some x := by
  intro b x hx
  unfold World.shape? at hx ⊢
  rcases Nat.lt_or_ge b w.heap.size with h' | h'
  ·rw [hb.block b h']; exact hx
  ·simp [Array.getElem?_eq_none h'] at hx
 refine ⟨fun g zero t hg hz => ?_, fun k hk1 hk2 => ?_⟩
 ·obtain ⟨cs, h1, h2, h3⟩ := h.1 g zero t hg hz
  exact ⟨cs, (hb.block g (lt_of_some h1)).trans h1, h2, fun hb => Row.ok_of_shape hsh (h3 hb)⟩
 ·obtain ⟨o, o₀, h1, h2, h3⟩ := h.2 k hk1 hk2
  exact ⟨o, o₀, (hb.block k (lt_of_some h1)).trans h1, h2, h3⟩
theorem var_below {P : Program} {w w' : World} {n : String} {cs : Array Value} (h : w.var? P n = some cs) (hb : Below w.heap.size w w') : w'.var? P n = some cs := by
 unfold World.var? at h ⊢
 cases hg : P.globalNamed n with
 | none => rw [hg] at h; simp at h
 | some g =>
  rw [hg] at h
  simp only [Option.bind_some] at h ⊢
  have hlt : g < w.heap.size := by
   rcases Nat.lt_or_ge g w.heap.size with h' | h'
   ·exact h'
   ·rw [Array.getElem?_eq_none h'] at h; cases h
  rw [hb.block g hlt]
  exact h
structure Glob (w : World) : Prop where
 tab : Lib.TabIs Tryz.prog w "internal/strconv.uint64pow10" .u64 Lib.pow10Tab
 syn : ∃ tp p, w.var? Tryz.prog "strconv.ErrSyntax" = some #[.iface tp p]
 rng : ∃ tp p, w.var? Tryz.prog "strconv.ErrRange" = some #[.iface tp p]
 shaped : w.ShapedOpen Tryz.prog
theorem Glob.below {w w' : World} (h : Glob w) (hb : Below w.heap.size w w') : Glob w' :=
 ⟨var_below h.tab hb, by obtain ⟨tp, p, h⟩ := h.syn; exact ⟨tp, p, var_below h hb⟩, by obtain ⟨tp, p, h⟩ := h.rng; exact ⟨tp, p, var_below h hb⟩, shaped_below h.shaped hb⟩
theorem own_below {w w' : World} {B e size n : Nat} {v : Value} {xs : List Value} (h : w.ownsRow B e size v n xs) (hb : Below w.heap.size w w') : w'.ownsRow B e size v n xs := by
 refine ⟨h.1, ?_⟩
 rcases h.2 with hn | ⟨g, cap, cur, rfl, hg, hgg, rest⟩
 ·exact .inl hn
 ·exact .inr ⟨g, cap, cur, rfl, hg, by rw [hb.block g (Array.getElem?_eq_some_iff.1 hgg).1]; exact hgg, rest⟩
theorem builder_below {T e B b : Nat} {bs : List Value} {w w' : World} (h : Lib.IsBuilder T e B b bs w) (hb : Below w.heap.size w w') : Lib.IsBuilder T e B b bs w' := by
 have key : ∀ p, Lib.BuilderAt T e B b p bs w → Lib.BuilderAt T e B b p bs w' := by
  rintro p ⟨hB, v, hv, hown, hne⟩
  exact ⟨hB, v, by rw [hb.block b (Array.getElem?_eq_some_iff.1 hv).1]; exact hv, own_below hown hb, hne⟩
 rcases h with h | h
 ·exact .inl (key _ h)
 ·exact .inr (key _ h)
theorem itoa_any {w : World} (n : Int) (h0 : -9223372036854775808 ≤ n) (h1 : n ≤ 9223372036854775807) (hg : Glob w) :
  Calls Tryz.prog 102 #[.int .i64 n] w fun e w' => e = .returned (.string ⟨(Lib.itoa n).toArray⟩) ∧ Below w.heap.size w w' := by
 refine (Tryz.strconv_Itoa n h0 h1 w hg.tab).mono ?_
 rintro e w' ⟨rfl, k, os, rfl⟩
 exact ⟨rfl, Lib.below_grow _ _ (Nat.le_refl _) k os⟩
def lineB (ws : List (List UInt8)) : List UInt8 := Lib.join ws [32] ++ [10]
def Bld (B b : Nat) (l : List UInt8) (w : World) : Prop := Lib.IsBuilder 159 5 B b (Lib.byteCells l) w ∧ l.length ≤ 1000000
theorem line_any {w : World} {B b bk c : Nat} {l : List UInt8} (xs : List ByteArray) (hbd : Bld B b l w) (hcells : ∀ (j : Nat) x, xs[j]? = some x → w.cell? ⟨bk, 0 + j, none⟩ = some (.string x)) (hbk : bk < w.heap.size) (hcap : xs.length ≤ c)
  (hx : xs.length ≤ 100) (hlen : l.length + (lineB (xs.map (·.data.toList))).length ≤ 1000000) (hBw : B ≤ w.heap.size) :
  Calls Tryz.prog 99 #[.slice (some ⟨bk, 0, none⟩) xs.length c, .pointer (some ⟨b, 0, none⟩)] w fun e w' => e = .returned (.tuple #[]) ∧ Bld B b (l ++ lineB (xs.map (·.data.toList))) w' ∧ Below B w w' := by
 have hj : (Lib.join (xs.map (·.data.toList)) [32]).length ≤ 1000000 := by
  unfold lineB at hlen
  simp at hlen
  omega
 have HL := Lib.hid hlen
 have HJ := Lib.hid (Tryz.strings_Join bk 0 c xs ⟨#[32]⟩ w hcells hbk (by omega) hcap (Nat.le_trans hj (by omega)))
 unfold lineB at HL
 unfold lineB
 generalize Lib.join (xs.map (·.data.toList)) [32] = J at *
 have HWr : Hid (∀ w2, Below w.heap.size w w2 → Calls Tryz.prog 100 #[.pointer (some ⟨b, 0, none⟩), .string (⟨J.toArray⟩ ++ ⟨#[10]⟩)] w2 fun e w' => e = .returned (.tuple #[.int .i64 (⟨J.toArray⟩ ++ ⟨#[10]⟩ : ByteArray).size, .nilIface]) ∧ (Bld B b (l ++ (J ++ [10])) w' ∧ Below B w w')) :=
  Lib.hid fun w2 hb2 => (Tryz.Builder_WriteString B b _ _ _ (builder_below hbd.1 hb2) (by
   have := HL.out
   have e : (⟨J.toArray⟩ ++ ⟨#[10]⟩ : ByteArray).size = J.length + 1 := by rw [ByteArray.size_append]; rfl
   rw [e, Lib.byteCells_length]
   simp at this
   omega) (Nat.le_trans hBw hb2.size)).mono (by
    rintro e w3 ⟨rfl, h3, hb3⟩
    refine ⟨rfl, ⟨.inr ?_, ?_⟩, (hb2.mono hBw).trans hb3⟩
    ·have e : Lib.strCells (⟨J.toArray⟩ ++ ⟨#[10]⟩) = Lib.byteCells (J ++ [10]) := by
      rw [Lib.strCells_eq]
      congr 1
     rw [e, ← Lib.byteCells_append] at h3
     exact h3
    ·have := HL.out
     simp at this ⊢
     omega)
 clear hcells
 go_enter Tryz.func99, Tryz.ntmps99
 go_wp2_with (first | (go_at_call 101; refine HJ.out.mono ?_; rintro e w2 ⟨rfl, hb2⟩) | (go_at_call 100; refine (HWr.out _ hb2).mono ?_; rintro e w3 ⟨rfl, hb3, hk3⟩))
 go_end0
 exact ⟨rfl, hb3, hk3⟩
end Go.Proofs.YthnimhnlnddnoaaGreatDoor
namespace Go.Proofs.YthnimhnlnddnoaaGreatDoor
open Go.RowKit
end Go.Proofs.YthnimhnlnddnoaaGreatDoor
namespace Go.Proofs.YthnimhnlnddnoaaGreatDoor
open Go.RowKit
def checkV (s : ShR) : Value := .tuple #[.int .i64 (check s).1, .int .i64 (check s).2.1, .int .i64 (check s).2.2]
theorem checkV_eq {s : ShR} {a b c : Int} (h : check s = (a, b, c)) : checkV s = .tuple #[.int .i64 a, .int .i64 b, .int .i64 c] := by unfold checkV; rw [h]
theorem sheet_box (w : World) (iv : Int) (vp vn : Value) : ∃ W, W = w.alloc (.cells #[.int .i64 iv, vp, vn] 38) ∧ W.cell? ⟨w.heap.size, 0, none⟩ = some (.int .i64 iv) ∧ W.cell? ⟨w.heap.size, 1, none⟩ = some vp ∧ W.cell? ⟨w.heap.size, 2, none⟩ = some vn ∧
  W.heap.size = w.heap.size + 1 ∧ Below w.heap.size w W ∧ W.heap[w.heap.size]? = some (.cells #[.int .i64 iv, vp, vn] 38) := by
 have h : (w.alloc (.cells #[.int .i64 iv, vp, vn] 38)).heap[w.heap.size]? = some (.cells #[.int .i64 iv, vp, vn] 38) := heap_alloc_new w _
 exact ⟨_, rfl, (cell_of_row _ _ 0 _ _ _ h).trans rfl, (cell_of_row _ _ 1 _ _ _ h).trans rfl, (cell_of_row _ _ 2 _ _ _ h).trans rfl, by simp, (Below.refl _ _).alloc (Nat.le_refl _) _, h⟩
def Named (s : ShR) : Prop := ∀ p ∈ s.pts, p.size ≤ 9223372036854775807
end Go.Proofs.YthnimhnlnddnoaaGreatDoor
namespace Go.Proofs.YthnimhnlnddnoaaGreatDoor
open Go.RowKit Go.WideShapes Go.ChangeShapes Go.ChangeAt Go.Deep Go.Joins
theorem ownX : ownKnob Tryz.prog.godebug = none := by kernel_rfl
def laidX : List (String × DataW Unit) := Rows.topFallsRow.laid
theorem laid_at {P : Program} {w : World} {n : String} {d : DataW Unit} : ∀ {l : List (String × DataW Unit)} {ps : List MemPlace}, DataW.LaidVars P w l ps → (n, d) ∈ l →
  ∃ g t cs fuel p, P.globalNamed n = some g ∧ (P.globals[g]?).map (·.type) = some t ∧ w.var? P n = some cs ∧ DataW.trod (fun _ => ()) P w 0 (fun _ => true) false fuel t cs.toList = some (d, p) := by
 intro l
 induction l with
 | nil => intro ps _ h; cases h
 | cons x r ih =>
  obtain ⟨m, e⟩ := x
  intro ps h hm
  obtain ⟨g, t, cs, fuel, p, q, h1, h2, h3, h4, h5, _⟩ := h
  rcases List.mem_cons.1 hm with he | hm
  ·cases he
   exact ⟨g, t, cs, fuel, p, h1, h2, h3, h4⟩
  ·exact ih h5 hm
theorem iface_cells {H : Type} {enc : TypeId × Value → H} {P : Program} {w : World} {base fuel : Nat} {sp : Nat → Bool} {t : TypeId} {ms : Array (String × TypeId)} {cs : List Value} {nm : String} {d : DataW H} {p : List MemPlace} (ht : P.underlying t = some (.interface ms))
  (h : DataW.trod enc P w base sp false fuel t cs = some (.iface nm d, p)) : ∃ u v, cs = [.iface u v] := by
 cases fuel with
 | zero => simp [DataW.trod] at h
 | succ m =>
  unfold DataW.trod at h
  rw [ht] at h
  split at h <;> first | (rename_i h1 _; cases h1; done) | skip
  all_goals first | exact ⟨_, _, rfl⟩ | (simp at h; done) | (simp_all; done)
theorem var_iface {l : List (String × DataW Unit)} {w : World} (h : laidMet Tryz.prog l w) {n nm : String} {d : DataW Unit} (hm : (n, DataW.iface nm d) ∈ l) {g : Nat} {t : TypeId} {ms : Array (String × TypeId)} (hg : Tryz.prog.globalNamed n = some g) (hty : (Tryz.prog.globals[g]?).map (·.type) = some t) (ht : Tryz.prog.underlying t = some (.interface ms)) :
  ∃ tp p, w.var? Tryz.prog n = some #[.iface tp p] := by
 obtain ⟨ps, hl, _⟩ := h
 obtain ⟨g', t', cs, fuel, p, h1, h2, h3, h4⟩ := laid_at hl hm
 obtain rfl := Option.some.inj (hg.symm.trans h1)
 obtain rfl := Option.some.inj (hty.symm.trans h2)
 obtain ⟨u, v, hu⟩ := iface_cells ht h4
 exact ⟨u, v, by rw [h3]; congr 1; exact Array.toList_inj.1 hu⟩
theorem var_tab {l : List (String × DataW Unit)} {w : World} (h : laidMet Tryz.prog l w) {n : String} {zs : List Int} {k : IntKind} (hm : (n, Lib.tabData k zs) ∈ l) {g m : Nat} {t e : TypeId} (hg : Tryz.prog.globalNamed n = some g) (hty : (Tryz.prog.globals[g]?).map (·.type) = some t) (ht : Tryz.prog.underlying t = some (.array m e)) (he : Tryz.prog.underlying e = some (.int k)) (hce : Tryz.prog.cellsOf e = 1) (hct : Tryz.prog.cellsOf t = m) :
  Lib.TabIs Tryz.prog w n k zs := by
 obtain ⟨ps, hl, _⟩ := h
 obtain ⟨g', t', cs, fuel, p, h1, h2, h3, h4⟩ := laid_at hl hm
 obtain rfl := Option.some.inj (hg.symm.trans h1)
 obtain rfl := Option.some.inj (hty.symm.trans h2)
 unfold Lib.TabIs
 rw [h3, ← Lib.cells_of_tab ht he hce hct h4]
theorem pow_tab : (Rows.laid_internal_strconv_uint64pow10 : DataW Unit) = Lib.tabData .u64 Lib.pow10Tab := by kernel_rfl
theorem laid_pow : laidX[2]? = some ("internal/strconv.uint64pow10", Rows.laid_internal_strconv_uint64pow10) := rfl
theorem laid_rng : laidX[4]? = some ("strconv.ErrRange", Rows.laid_strconv_ErrRange) := rfl
theorem laid_syn : laidX[5]? = some ("strconv.ErrSyntax", Rows.laid_strconv_ErrSyntax) := rfl
theorem laid_plain : (laidX.all fun x => x.2.handleName?.isNone) = true := by kernel_rfl
theorem glob_of {W : World} (h : laidMetH Tryz.prog laidX W) (hs : W.ShapedOpen Tryz.prog) : Glob W := by
 rw [MakeChecks.laidMetH_plain _ _ _ laid_plain] at h
 refine ⟨?_, ?_, ?_, hs⟩
 ·have hm := List.mem_of_getElem? laid_pow
  rw [pow_tab] at hm
  exact var_tab (g := 3) h hm (by kernel_rfl) (by kernel_rfl) Tryz.underlying226 Tryz.underlying184 (by kernel_rfl) (by kernel_rfl)
 ·exact var_iface h (List.mem_of_getElem? laid_syn) (g := 4) (by kernel_rfl) (by kernel_rfl) Tryz.underlying161
 ·exact var_iface h (List.mem_of_getElem? laid_rng) (g := 5) (by kernel_rfl) (by kernel_rfl) Tryz.underlying161
theorem returns_laid {C : Checked} {os : Os} {H : Type} {enc : TypeId × Value → H} {f : FuncId} {fn : Func} {s : ChangeSpec} {conds : List PathCond} {apart fresh handsOn again : Bool} {X : World → Array Value → Prop}
  (hX : ∀ (w w' : World) (args : Array Value), w.heap = w'.heap → X w args → X w' args)
  (own : ownKnob C.prog.godebug = none) (started : os.Started) (noInit : C.prog.inits.idxOf? f = none) (hfn : C.prog.funcs[f]? = some fn)
  (witness : ∃ (w : World) (tape : Tape) (i : Input), w.os = os ∧ (w.forCall tape i).Shaped C.prog ∧ i.vars = [] ∧ Input.okWide C.prog (w.forCall tape i) .any w.heap.size f i ∧
   ((s.pre enc C.prog fn conds apart (w.forCall tape i).memory i.args ∧ X (w.forCall tape i).memory i.args) ∧ sizedMet enc C.prog fn (OpenSpec.ofChange s) apart (w.forCall tape i).memory i.args) ∧ ({} : Assume).holds C.prog (lone (Frame.enter C.prog f i.args .normal) [] (w.forCall tape i)))
  (contract : ∀ (W : World) (base : Nat) (args : Array Value) (ds gs : List (DataW H)) (before : List MemPlace),
   (∀ (j : Nat) t v, fn.params[j]? = some t → args[j]? = some v → Value.okWide C.prog W .any base t v) →
   DataW.Whole enc C.prog fn.params.toList s.vars apart W args.toList ds gs before →
   (DataW.weightsEach C.prog (fn.params.toList ++ s.plain.varTypes C.prog) (ds ++ gs)).all (· ≤ reachBytes) = true → X W args → W.ShapedOpen C.prog →
   Calls C.prog f args W fun e W' => ∃ v, e = .returned v ∧ s.post enc C.prog fn apart fresh handsOn again W args v W') :
  ReturnsInHanded {} C os f .any (fun w args => (s.pre enc C.prog fn conds apart w args ∧ X w args) ∧ sizedMet enc C.prog fn (OpenSpec.ofChange s) apart w args) (s.post enc C.prog fn apart fresh handsOn again) := by
 refine returnsInHanded_of_calls own started noInit witness ?_
 intro w tape i _ hsh _ hok hpre _
 obtain ⟨_, _, _, fn', hfn', _, _, _, _, hval⟩ := hok
 have e : fn' = fn := Option.some.inj (hfn'.symm.trans hfn)
 subst e
 obtain ⟨⟨⟨ds, gs, before, hw, _⟩, hx⟩, hz⟩ := hpre
 have hw' := DataW.Whole.of_heap (w' := w.forCall tape i) (by rfl) hw
 refine (contract (w.forCall tape i) w.heap.size i.args ds gs before hval hw' (hz.weights hw) (hX _ _ _ (by rfl) hx) hsh).mono fun e W' ⟨v, he, hp⟩ => ?_
 subst he
 exact ChangeSpec.post_blind hp
theorem post_true {H : Type} {enc : TypeId × Value → H} {f : Func} {s : ChangeSpec} {apart fresh handsOn again : Bool} {W W' : World} {args : Array Value} {ds gs : List (DataW H)} {before pa pv : List MemPlace}
  (hW : DataW.Whole enc Tryz.prog f.params.toList s.vars apart W args.toList ds gs before) (hf : f.resultTypes = #[4]) (hs : (s.fn H (ds ++ gs)).results = [.lit (.bool true)]) (hb : Below W.heap.size W W')
  (hargs : ∀ sp : Nat → Bool, (∀ p ∈ before, sp p.block = true) → DataW.TrodAll enc Tryz.prog W' 0 sp true f.params.toList args.toList (s.fn H (ds ++ gs)).args pa)
  (hvars : ∀ sp : Nat → Bool, (∀ p ∈ before, sp p.block = true) → DataW.TrodVars enc Tryz.prog W' sp s.vars (s.fn H (ds ++ gs)).vars pv) (hps : before = pa ++ pv) :
  s.post enc Tryz.prog f apart fresh handsOn again W args (.bool true) W' := by
 have old : ∀ p ∈ before, p.block < W.heap.size := fun p hp => hW.lt p hp
 have res : ∀ (b : Nat) (sp : Nat → Bool) (hd : Bool), DataW.TrodAll enc Tryz.prog W' b sp hd f.resultTypes.toList ((Value.bool true).resultList f.resultTypes.size) (s.fn H (ds ++ gs)).results [] := fun b sp hd => by
  rw [hs, hf]
  exact trodAll_cons_mk (shut_bool Tryz.underlying4 _) trodAll_mk0
 have seen := hargs (fun b => decide (b < W.heap.size)) fun p hp => decide_eq_true (old p hp)
 have vars := hvars (fun b => decide (b < W.heap.size)) fun p hp => decide_eq_true (old p hp)
 refine ⟨ds, gs, before, [], pa, pv, hW, res _ _ _, seen, vars, World.keptBut_mono (fun p hp => ⟨hp, .inr ?_⟩) (hb.frame (· ∈ before)), fun _ => ?_⟩
 ·exact List.mem_append.1 (hps ▸ hp)
 ·obtain ⟨_, _, _, _, _, frozen, apart'⟩ := hW
  have whole : [] ++ pa ++ pv = before := by rw [hps, List.nil_append]
  refine ⟨?_, _, _, [] ++ pa ++ pv, ⟨[] ++ pa, pv, trodAll_append (hargs _ fun _ _ => rfl) (res _ _ _), hvars _ fun _ _ => rfl, rfl, ?_, ?_⟩, fun p hp _ => whole ▸ hp⟩
  ·exact ok_one hf rfl (okWide_bool_mk Tryz.underlying4 _)
  ·intro b off hp
   rw [whole] at hp
   exact (hb.frozen (p := ⟨b, off, none⟩) (old _ hp)).trans (frozen b off hp)
  ·intro ha
   rw [whole]
   exact apart' ha
section
variable {H : Type} {enc : TypeId × Value → H} {W : World} {base : Nat} {sp : Nat → Bool} {held : Bool}
theorem rd_open {α : Type} {At : World → Addr → α → Prop} {sz : Nat} [Inhabited α] {Q : α → Prop} {t e : TypeId} (ht : Tryz.prog.underlying t = some (.slice e)) (hC : Tryz.prog.cellsOf e = sz) (hsz : 0 < sz)
  (hel : ∀ (a : Addr) (n : Nat) (cs : List Value) (x : DataW H × List MemPlace), (∀ i, i < sz → W.cell? (a.add i) = cs[i]?) → cs.length = sz → DataW.trod enc Tryz.prog W base sp held n e cs = some x → ∃ y : α, At W a y ∧ Q y)
  {fuel : Nat} {v : Value} {x : DataW H × List MemPlace} (h : DataW.trod enc Tryz.prog W base sp held fuel t [v] = some x) :
  ∃ xs : List α, Rd At sz W.heap.size W v xs ∧ ∀ y ∈ xs, Q y := by
 rcases open_slice ht h with ⟨h0, _⟩ | ⟨a, len, cap, m, n, D, Pl, hcs, hb, hl, hm, hmm, _, hi⟩
 ·injection h0 with h0
  subst h0
  exact ⟨[], Rd.nil _ _, by simp⟩
 ·injection hcs with hcs
  subst hcs
  have hlm : len ≤ m := by rw [hmm]; split <;> omega
  have each : ∀ i, i < len → ∃ y : α, (a.block < W.heap.size ∧ At W (a.add (i * sz)) y) ∧ Q y := fun i hi2 => by
   obtain ⟨cs, hc, htr⟩ := hi i (by omega)
   rw [hC] at hc
   obtain ⟨_, hlen, hat⟩ := World.cells?_some hc
   obtain ⟨y, hy, hq⟩ := hel _ _ _ _ hat hlen htr
   have hblk := World.cells?_block hc hsz
   rw [block_add] at hblk
   exact ⟨y, ⟨hblk, hy⟩, hq⟩
  let f : Nat → α := fun i => if hi : i < len then Classical.choose (each i hi) else default
  have hf : ∀ i, i < len → (a.block < W.heap.size ∧ At W (a.add (i * sz)) (f i)) ∧ Q (f i) := fun i hi => by
   have := Classical.choose_spec (each i hi)
   simp only [f, hi, dif_pos]
   exact this
  have hcap : cap ≤ 9223372036854775807 := by unfold maxLen at hm; exact hm
  refine ⟨(List.range len).map f, ⟨some a, cap, by simp, by simpa using hl, hcap, fun i y hy => ?_⟩, fun y hy => ?_⟩
  ·rw [List.getElem?_map] at hy
   obtain ⟨j, hj, rfl⟩ := Option.map_eq_some_iff.1 hy
   have hj2 : i < len := by
    have := (List.getElem?_eq_some_iff.1 hj).1
    simpa using this
   rw [List.getElem?_range hj2] at hj
   injection hj with hj
   subst hj
   exact ⟨a, rfl, (hf i hj2).1⟩
  ·obtain ⟨i, hi, rfl⟩ := List.mem_map.1 hy
   exact (hf i (by simpa using hi)).2
theorem field_at {e : TypeId} {fs : Array Field} (he : Tryz.prog.underlying e = some (.struct fs)) {n : Nat} {cs : List Value} {x : DataW H × List MemPlace}
  (h : DataW.trod enc Tryz.prog W base sp held n e cs = some x) {j o k : Nat} {t : TypeId} {f : Field} (hj : fs[j]? = some f) (ht : f.type = t) (ho : f.offset = o) (hk : Tryz.prog.cellsOf t = k) :
  ∃ (y : DataW H × List MemPlace) (m : Nat), DataW.trod enc Tryz.prog W base sp held m t ((cs.drop o).take k) = some y := by
 obtain ⟨ys, m, _, _, _, hyl, hf⟩ := DataW.trod_struct he h
 have hjl : j < fs.size := (Array.getElem?_eq_some_iff.1 hj).1
 have h1 := hf j f hj
 rw [ht, ho, hk] at h1
 exact ⟨ys[j]'(by omega), m, h1.trans (List.getElem?_eq_getElem (by omega))⟩
theorem int_at {fuel : Nat} {cs : List Value} {o : Nat} {y : DataW H × List MemPlace} (h : DataW.trod enc Tryz.prog W base sp held fuel 3 ((cs.drop o).take 1) = some y) : ∃ k : Int, cs[o]? = some (.int .i64 k) := by
 obtain ⟨k, e, _, _⟩ := DataW.trod_int Tryz.underlying3 h
 refine ⟨k, ?_⟩
 have h0 : ((cs.drop o).take 1)[0]? = some (.int .i64 k) := by rw [e]; rfl
 simpa using h0
end
theorem laidOut : laidOutB Tryz.prog = true := by kernel_rfl
theorem args_stay {H : Type} {enc : TypeId × Value → H} {W W' : World} (hb : Below W.heap.size W W') : ∀ {ts : List TypeId} {vs : List Value} {ds : List (DataW H)} {ps : List MemPlace},
  (∀ t ∈ ts, Tryz.prog.readableRec t = true ∧ t < Tryz.prog.types.size) → DataW.TrodAll enc Tryz.prog W 0 (fun _ => true) true ts vs ds ps → (∀ x ∈ ps, x.block < W.heap.size) →
  ∀ sp : Nat → Bool, (∀ x ∈ ps, sp x.block = true) → DataW.TrodAll enc Tryz.prog W' 0 sp true ts vs ds ps := by
 intro ts
 induction ts with
 | nil => intro vs ds ps _ h _ sp _; cases vs <;> cases ds <;> first | exact h | exact h.elim
 | cons t ts ih =>
  intro vs ds ps ht h hlt sp hsp
  obtain ⟨v, vs', d, ds', p, q, rfl, rfl, rfl, h1, h2⟩ := trodAll_cons h
  obtain ⟨hr, hrow⟩ := ht t (by simp)
  refine ⟨p, q, WideElems.Trod_stays laidOut hr hrow h1 (fun x hx => hb.same (hlt x (by simp [hx]))) (fun x hx => hsp x (by simp [hx])), ?_, rfl⟩
  exact ih (fun t ht2 => ht t (by simp [ht2])) h2 (fun x hx => hlt x (by simp [hx])) sp (fun x hx => hsp x (by simp [hx]))
end Go.Proofs.YthnimhnlnddnoaaGreatDoor
