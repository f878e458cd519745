/- Walks of the layer sheet: the search of lists of notes, where a step ends. Walks of the layer sheet: the search of lists of notes, a step that goes on. -/
import Derived.Test.YtajdgdelhlfniaaGreatDoorH12
import Derived.WalkKit
import Derived.Deep.Quiet
set_option linter.unusedSimpArgs false
set_option linter.unusedVariables false
namespace Go.Proofs.YtajdgdelhlfniaaGreatDoor
open Go.RowKit

/-- what a step reads -/
structure TryC (a : Nat) (iv : Int) (vp vn : Value) (left found : Bool) (A4 A2 : Option Addr) (n4 n2 c4 c2 : Nat) (w : World) : Prop where
  s0 : w.cell? ⟨a, 0, none⟩ = some (.int .i64 iv)
  s1 : w.cell? ⟨a, 1, none⟩ = some vp
  s2 : w.cell? ⟨a, 2, none⟩ = some vn
  f1 : w.cell? ⟨a + 1, 0, none⟩ = some (.bool left)
  f2 : w.cell? ⟨a + 2, 0, none⟩ = some (.slice A2 n2 c2)
  f3 : w.cell? ⟨a + 3, 0, none⟩ = some (.bool found)
  f4 : w.cell? ⟨a + 4, 0, none⟩ = some (.slice A4 n4 c4)
  f5 : w.cell? ⟨a + 5, 0, none⟩ = some (.func (.func 97) #[] (tryP a))
  z2 : w.frozen? ⟨a + 2, 0, none⟩ = false
  z3 : w.frozen? ⟨a + 3, 0, none⟩ = false
  z4 : w.frozen? ⟨a + 4, 0, none⟩ = false
theorem TryI.reads {a : Nat} {iv : Int} {vp vn : Value} {left : Bool} {cur : List Int} {st : Bool × List Int} {w : World} (h : TryI a iv vp vn left cur st w) :
    ∃ A4 A2 c4 c2, TryC a iv vp vn left st.1 A4 A2 cur.length st.2.length c4 c2 w ∧ Own (a + 6) 3 w (.slice A4 cur.length c4) cur ∧ Own (a + 6) 3 w (.slice A2 st.2.length c2) st.2 ∧
      (∀ g, (Value.slice A4 cur.length c4).ownBlock = some g → (Value.slice A2 st.2.length c2).ownBlock ≠ some g) ∧ cur.length ≤ c4 := by
  obtain ⟨lv, bv, h4, h2, ho1, ho2, hs⟩ := h.lists
  obtain ⟨A4, c4, rfl, hc4, _⟩ := ho1.form
  obtain ⟨A2, c2, rfl, _, _⟩ := ho2.form
  exact ⟨A4, A2, c4, c2, ⟨cellOf h.c0 0 rfl, cellOf h.c0 1 rfl, cellOf h.c0 2 rfl, cellOf h.c1 0 rfl, cellOf h2 0 rfl, cellOf h.c3 0 rfl, cellOf h4 0 rfl, cellOf h.c5 0 rfl, by simp [World.frozen?, h2], by simp [World.frozen?, h.c3], by simp [World.frozen?, h4]⟩, ho1, ho2, hs, hc4⟩

set_option maxRecDepth 100000 in
set_option maxHeartbeats 4000000 in
theorem try_stop {a : Nat} {iv : Int} {vp vn : Value} {left bad : Bool} {cur : List Int} {st : Bool × List Int} {w : World} (i : Int) (b : Mat) (h : TryI a iv vp vn left cur st w)
    (hc : ((st.1 && decide (st.2.length ≤ cur.length)) || (left && bad)) = true) :
    Calls Tryz.prog 97 #[.int .i64 i, .agg (matC b), .bool bad, .pointer (some ⟨a + 3, 0, none⟩), .pointer (some ⟨a + 4, 0, none⟩), .pointer (some ⟨a + 2, 0, none⟩), .pointer (some ⟨a + 1, 0, none⟩), .pointer (some ⟨a, 0, none⟩), .pointer (some ⟨a + 5, 0, none⟩)] w (TryRes a iv vp vn left cur st w) := by
  obtain ⟨W1, hW1, r1, z1, d1⟩ := box_any w (matC b) 93
  have hI := h.below d1
  have HR := Lib.hid (show TryRes a iv vp vn left cur st w (.returned (.tuple #[])) W1 from ⟨rfl, hI, TF.of_below d1 h.size⟩)
  obtain ⟨A4, A2, c4, c2, hC, _⟩ := hI.reads
  have f1 := hC.f1
  have f2 := hC.f2
  have f3 := hC.f3
  have f4 := hC.f4
  clear hC hI h d1 r1 z1
  obtain ⟨found, best⟩ := st
  simp only at *
  cases found with
  | true =>
    by_cases hl : best.length ≤ cur.length
    · go_enter Tryz.func97, Tryz.ntmps97
      go_upto_region 1 with (fail)
      rw [← hW1]
      clear hW1
      go_wp2
      refine bodyPost_ret (results_none rfl _ _ _) rfl HR.out
    · have hc2 : left = true ∧ bad = true := by simpa [hl] using hc
      obtain ⟨rfl, rfl⟩ := hc2
      clear hc
      go_enter Tryz.func97, Tryz.ntmps97
      go_upto_region 1 with (fail)
      rw [← hW1]
      clear hW1
      go_wp2
      refine bodyPost_ret (results_none rfl _ _ _) rfl HR.out
  | false =>
    have hc2 : left = true ∧ bad = true := by simpa using hc
    obtain ⟨rfl, rfl⟩ := hc2
    clear hc
    go_enter Tryz.func97, Tryz.ntmps97
    go_upto_region 1 with (fail)
    rw [← hW1]
    clear hW1
    go_wp2
    refine bodyPost_ret (results_none rfl _ _ _) rfl HR.out

set_option maxRecDepth 100000 in
set_option maxHeartbeats 4000000 in
theorem try_end {a : Nat} {iv : Int} {vp : Value} {An : Option Addr} {n cn : Nat} {cur : List Int} {st : Bool × List Int} {w : World} (b : Mat) (h : TryI a iv vp (.slice An n cn) false cur st w)
    (hc : (st.1 && decide (st.2.length ≤ cur.length)) = false) :
    Calls Tryz.prog 97 #[.int .i64 n, .agg (matC b), .bool false, .pointer (some ⟨a + 3, 0, none⟩), .pointer (some ⟨a + 4, 0, none⟩), .pointer (some ⟨a + 2, 0, none⟩), .pointer (some ⟨a + 1, 0, none⟩), .pointer (some ⟨a, 0, none⟩), .pointer (some ⟨a + 5, 0, none⟩)] w (TryRes a iv vp (.slice An n cn) false cur st w) := by
  obtain ⟨W1, hW1, r1, z1, d1⟩ := box_any w (matC b) 93
  have hI := h.below d1
  have HR := Lib.hid (show TryRes a iv vp (.slice An n cn) false cur st w (.returned (.tuple #[])) W1 from ⟨rfl, hI, TF.of_below d1 h.size⟩)
  obtain ⟨A4, A2, c4, c2, hC, _⟩ := hI.reads
  have s2 := hC.s2
  have f1 := hC.f1
  have f2 := hC.f2
  have f3 := hC.f3
  have f4 := hC.f4
  clear hC hI h d1 r1 z1
  obtain ⟨found, best⟩ := st
  simp only at *
  cases found with
  | true =>
    have hl : ¬ best.length ≤ cur.length := by simpa using hc
    clear hc
    go_enter Tryz.func97, Tryz.ntmps97
    go_upto_region 1 with (fail)
    rw [← hW1]
    clear hW1
    go_wp2
    refine bodyPost_ret (results_none rfl _ _ _) rfl HR.out
  | false =>
    clear hc
    go_enter Tryz.func97, Tryz.ntmps97
    go_upto_region 1 with (fail)
    rw [← hW1]
    clear hW1
    go_wp2
    refine bodyPost_ret (results_none rfl _ _ _) rfl HR.out

/-- a list is found -/
theorem try_found {a : Nat} {iv : Int} {vp vn : Value} {left : Bool} {cur : List Int} {st : Bool × List Int} {w w2 : World} {A' : Option Addr} {c' : Nat} (h : TryI a iv vp vn left cur st w)
    (ho : Own w.heap.size 3 w2 (.slice A' cur.length c') cur) (hb : Below w.heap.size w w2) :
    TryI a iv vp vn left cur (true, cur) ((w2.setCell ⟨a + 2, 0, none⟩ (.slice A' cur.length c')).setCell ⟨a + 3, 0, none⟩ (.bool true)) ∧ TF a w ((w2.setCell ⟨a + 2, 0, none⟩ (.slice A' cur.length c')).setCell ⟨a + 3, 0, none⟩ (.bool true)) := by
  have hsz := h.size
  have h2 := h.below hb
  obtain ⟨lv, bv, h4, hb2, ho1, ho2, hs⟩ := h2.lists
  have old : ∀ k, k ≠ a + 2 → k ≠ a + 3 → ((w2.setCell ⟨a + 2, 0, none⟩ (.slice A' cur.length c')).setCell ⟨a + 3, 0, none⟩ (.bool true)).heap[k]? = w2.heap[k]? := fun k k1 k2 => by
    rw [Below.heap_setCell _ _ _ _ (by show k ≠ a + 3; exact k2), Below.heap_setCell _ _ _ _ (by show k ≠ a + 2; exact k1)]
  refine ⟨⟨(old _ (by omega) (by omega)).trans h2.c0, (old _ (by omega) (by omega)).trans h2.c1, heap_setCell_row ((Below.heap_setCell _ _ _ _ (by show a + 3 ≠ a + 2; omega)).trans h2.c3) _, (old _ (by omega) (by omega)).trans h2.c5,
    lv, .slice A' cur.length c', (old _ (by omega) (by omega)).trans h4, (Below.heap_setCell _ _ _ _ (by show a + 2 ≠ a + 3; omega)).trans (heap_setCell_row hb2 _), (ho1.other (by show a + 2 < a + 6; omega) _).other (by show a + 3 < a + 6; omega) _,
    ((ho.mono hsz).other (by show a + 2 < a + 6; omega) _).other (by show a + 3 < a + 6; omega) _, fun g hg hg2 => ?_⟩, ?_⟩
  · obtain ⟨lv', bv', h4', _, ho1', _⟩ := h.lists
    have e : lv = lv' := by
      have := ((hb.block _ (lt_of_block h4')).trans h4').symm.trans h4
      simpa using this.symm
    subst e
    have hg1 : g < w.heap.size := by
      rcases ho1' with ⟨_, ⟨rfl, _⟩ | ⟨g', cap, cu, rfl, _, hh, _⟩⟩
      · cases hg
      · simp only [Value.ownBlock, Option.some.injEq] at hg
        subst hg
        exact lt_of_block hh
    rcases ho with ⟨_, ⟨e1, _⟩ | ⟨g', cap, cu, e1, hle, hh, _⟩⟩
    · rw [e1] at hg2; cases hg2
    · rw [e1] at hg2
      simp only [Value.ownBlock, Option.some.injEq] at hg2
      omega
  · exact ⟨hb.os, hb.tape, hb.output, by simpa [World.setCell] using hb.size, fun k hk k1 k2 _ => (old k k1 k2).trans (hb.block k (by omega)), fun k o hk ho _ => (old k (by omega) (by omega)).trans ((hb.block k (lt_of_block ho)).trans ho)⟩

set_option maxRecDepth 100000 in
set_option maxHeartbeats 4000000 in
theorem try_best {a : Nat} {iv : Int} {vp : Value} {An : Option Addr} {n cn : Nat} {left bad : Bool} {cur : List Int} {st : Bool × List Int} {w : World} (i : Nat) (b : Mat) (h : TryI a iv vp (.slice An n cn) left cur st w)
    (hc : ((st.1 && decide (st.2.length ≤ cur.length)) || (left && bad)) = false) (hg : bad = true ∨ (left = true ∧ i = n)) (hlen : cur.length ≤ 1000) :
    Calls Tryz.prog 97 #[.int .i64 i, .agg (matC b), .bool bad, .pointer (some ⟨a + 3, 0, none⟩), .pointer (some ⟨a + 4, 0, none⟩), .pointer (some ⟨a + 2, 0, none⟩), .pointer (some ⟨a + 1, 0, none⟩), .pointer (some ⟨a, 0, none⟩), .pointer (some ⟨a + 5, 0, none⟩)] w (TryRes a iv vp (.slice An n cn) left cur (true, cur) w) := by
  obtain ⟨W1, hW1, r1, z1, d1⟩ := box_any w (matC b) 93
  have hI := h.below d1
  have HT := Lib.hid (TF.of_below d1 h.size)
  obtain ⟨A4, A2, c4, c2, hC, hown, _⟩ := hI.reads
  have HI := Lib.hid hI
  have HCl := Lib.hid (clone_any hown hlen)
  have s2 := hC.s2
  have f1 := hC.f1
  have f2 := hC.f2
  have f3 := hC.f3
  have f4 := hC.f4
  have z2 := hC.z2
  have z3 := hC.z3
  have l2 := cell_lt f2
  have l3 := cell_lt f3
  clear hC hI h d1 r1 z1 hown
  obtain ⟨found, best⟩ := st
  simp only [Bool.or_eq_false_iff] at *
  have hl : found = true → ¬ best.length ≤ cur.length := fun e => by have := hc.1; rw [e] at this; simpa using this
  have hlb := hc.2
  clear hc
  have arm : True := trivial
  rcases hg with rfl | ⟨rfl, rfl⟩
  · have hleft : left = false := by simpa using hlb
    subst hleft
    cases found with
    | true =>
      have hl := hl rfl
      go_enter Tryz.func97, Tryz.ntmps97
      go_upto_region 1 with (fail)
      rw [← hW1]
      clear hW1
      go_wp2_with (go_at_call 98; refine HCl.out.mono ?_; rintro e w2 ⟨A', c', rfl, ho2, hb2⟩; have f2 := (hb2.cell l2).trans f2; have f3 := (hb2.cell l3).trans f3; have z2 := (hb2.frozen l2).trans z2; have z3 := (hb2.frozen l3).trans z3)
      refine bodyPost_ret (results_none rfl _ _ _) rfl ?_
      have := try_found HI.out ho2 hb2
      exact ⟨rfl, this.1, HT.out.trans this.2⟩
    | false =>
      clear hl
      go_enter Tryz.func97, Tryz.ntmps97
      go_upto_region 1 with (fail)
      rw [← hW1]
      clear hW1
      go_wp2_with (go_at_call 98; refine HCl.out.mono ?_; rintro e w2 ⟨A', c', rfl, ho2, hb2⟩; have f2 := (hb2.cell l2).trans f2; have f3 := (hb2.cell l3).trans f3; have z2 := (hb2.frozen l2).trans z2; have z3 := (hb2.frozen l3).trans z3)
      refine bodyPost_ret (results_none rfl _ _ _) rfl ?_
      have := try_found HI.out ho2 hb2
      exact ⟨rfl, this.1, HT.out.trans this.2⟩
  · have hbad : bad = false := by simpa using hlb
    subst hbad
    cases found with
    | true =>
      have hl := hl rfl
      go_enter Tryz.func97, Tryz.ntmps97
      go_upto_region 1 with (fail)
      rw [← hW1]
      clear hW1
      go_wp2_with (go_at_call 98; refine HCl.out.mono ?_; rintro e w2 ⟨A', c', rfl, ho2, hb2⟩; have f2 := (hb2.cell l2).trans f2; have f3 := (hb2.cell l3).trans f3; have z2 := (hb2.frozen l2).trans z2; have z3 := (hb2.frozen l3).trans z3)
      refine bodyPost_ret (results_none rfl _ _ _) rfl ?_
      have := try_found HI.out ho2 hb2
      exact ⟨rfl, this.1, HT.out.trans this.2⟩
    | false =>
      clear hl
      go_enter Tryz.func97, Tryz.ntmps97
      go_upto_region 1 with (fail)
      rw [← hW1]
      clear hW1
      go_wp2_with (go_at_call 98; refine HCl.out.mono ?_; rintro e w2 ⟨A', c', rfl, ho2, hb2⟩; have f2 := (hb2.cell l2).trans f2; have f3 := (hb2.cell l3).trans f3; have z2 := (hb2.frozen l2).trans z2; have z3 := (hb2.frozen l3).trans z3)
      refine bodyPost_ret (results_none rfl _ _ _) rfl ?_
      have := try_found HI.out ho2 hb2
      exact ⟨rfl, this.1, HT.out.trans this.2⟩
end Go.Proofs.YtajdgdelhlfniaaGreatDoor
namespace Go.Proofs.YtajdgdelhlfniaaGreatDoor
open Go.RowKit

theorem append_int_g {base : Nat} {w : World} {v : Value} {xs : List Int} (h : Own base 3 w v xs) (x : Int) (hn : xs.length ≤ 100000) (hbase : base ≤ w.heap.size) :
    ∃ A c w', (Builtin.append_ #[43, 43] 43 #[v, .slice (some ⟨w.heap.size, 0, none⟩) 1 1]).run Tryz.prog (w.alloc (.cells #[.int .i64 x] 3)) = .ok (.slice A (xs.length + 1) c) w' ∧ Own base 3 w' (.slice A (xs.length + 1) c) (xs ++ [x]) ∧
      (w.alloc (.cells #[.int .i64 x] 3)).grownBy w' v.ownBlock ∧ ((Value.slice A (xs.length + 1) c).ownBlock = v.ownBlock ∨ (Value.slice A (xs.length + 1) c).ownBlock = some (w.heap.size + 1)) := by
  obtain ⟨i, hi, hi2⟩ := Option.map_eq_some_iff.1 (show (Tryz.prog.info? 3).map (fun i => (i.size, i.bytes, i.zero.map (·.cells.size))) = some (1, 8, some 1) by kernel_rfl)
  simp only [Prod.mk.injEq] at hi2
  obtain ⟨hsize, hby, hz0⟩ := hi2
  obtain ⟨z, hz, hzs⟩ := Option.map_eq_some_iff.1 hz0
  have hown : Own base 3 (w.alloc (.cells #[.int .i64 x] 3)) v xs := h.alloc _
  obtain ⟨v', w', hrun, h2, h3, _, h5⟩ := run_append_own_at (P := Tryz.prog) (w.alloc (.cells #[.int .i64 x] 3)) base 43 43 3 i z 1 8 (by kernel_rfl) hi hz hsize hby hzs (by omega) v xs.length (xs.flatMap Enc.enc) hown
    ⟨w.heap.size, 0, none⟩ 1 1 (Enc.enc x) rfl
    (fun j u hu => by
      have hadd : (⟨w.heap.size, 0, none⟩ : Addr).add j = ⟨w.heap.size, j, none⟩ := by unfold Addr.add; split <;> simp_all
      rw [hadd]
      have hu : [Value.int .i64 x][j]? = some u := hu
      exact (cell_of_row _ _ j _ _ _ (heap_alloc_new w _)).trans (by simpa using hu))
    (fun u hu => by simp [Enc.enc] at hu; subst hu; rfl) (by unfold maxLen; omega) (by omega) (by simp; omega)
  have h4 : Own base 3 w' v' (xs ++ [x]) := Own.of_append (n := xs.length + 1) (by simp) (by simpa using h2)
  obtain ⟨A, c, rfl, _, _⟩ := h4.form
  rw [List.length_append, List.length_singleton] at hrun h4 h5
  exact ⟨A, c, w', hrun, h4, h3, by rw [World.size_alloc] at h5; exact h5⟩

theorem Own.owner {α : Type} {At : World → Addr → α → Prop} {sz : Nat} [E : Enc α At sz] {base : Nat} {e : TypeId} {w : World} {v : Value} {xs : List α} (h : Own base e w v xs) {g : Nat} (hg : v.ownBlock = some g) : base ≤ g ∧ ∃ cur, w.heap[g]? = some (.cells cur e) := by
  rcases h with ⟨_, ⟨rfl, _⟩ | ⟨g', cap, cu, rfl, hle, hh, _⟩⟩
  · cases hg
  · simp only [Value.ownBlock, Option.some.injEq] at hg
    subst hg
    exact ⟨hle, cu, hh⟩
theorem Own.keep {α : Type} {At : World → Addr → α → Prop} {sz : Nat} [E : Enc α At sz] {base : Nat} {e : TypeId} {w w' : World} {v : Value} {xs : List α} (h : Own base e w v xs) (hk : ∀ g, v.ownBlock = some g → w'.heap[g]? = w.heap[g]?) : Own base e w' v xs := by
  rcases h with ⟨hl, h0 | ⟨g, cap, cur, rfl, hbb, hh, r⟩⟩
  · exact ⟨hl, .inl h0⟩
  · exact ⟨hl, .inr ⟨g, cap, cur, rfl, hbb, (hk g rfl).trans hh, r⟩⟩
theorem TF.set4 {a : Nat} {w w' : World} (h : TF a w w') (v : Value) : TF a w (w'.setCell ⟨a + 4, 0, none⟩ v) :=
  ⟨h.os, h.tape, h.output, by simpa [World.setCell] using h.size, fun k h1 h2 h3 h4 => (Below.heap_setCell _ _ _ _ (by show k ≠ a + 4; exact h4)).trans (h.low k h1 h2 h3 h4), fun k o h1 h2 h3 => (Below.heap_setCell _ _ _ _ (by show k ≠ a + 4; omega)).trans (h.hi k o h1 h2 h3)⟩

/-- a number more in the list -/
theorem try_push {a : Nat} {iv : Int} {vp vn : Value} {left : Bool} {cur : List Int} {st : Bool × List Int} {w : World} (h : TryI a iv vp vn left cur st w) (x : Int) (hlen : cur.length ≤ 1000) :
    ∃ A4 c4 A c w5, w.cell? ⟨a + 4, 0, none⟩ = some (.slice A4 cur.length c4) ∧ (Builtin.append_ #[43, 43] 43 #[.slice A4 cur.length c4, .slice (some ⟨w.heap.size, 0, none⟩) 1 1]).run Tryz.prog (w.alloc (.cells #[.int .i64 x] 3)) = .ok (.slice A (cur.length + 1) c) w5 ∧
      (∃ o, w5.cell? ⟨a + 4, 0, none⟩ = some o) ∧ w5.frozen? ⟨a + 4, 0, none⟩ = false ∧ TryI a iv vp vn left (cur ++ [x]) st (w5.setCell ⟨a + 4, 0, none⟩ (.slice A (cur.length + 1) c)) ∧ TF a w (w5.setCell ⟨a + 4, 0, none⟩ (.slice A (cur.length + 1) c)) := by
  have hsz := h.size
  obtain ⟨lv, bv, h4, h2, ho1, ho2, hs⟩ := h.lists
  obtain ⟨A4, c4, rfl, _, _⟩ := ho1.form
  obtain ⟨A, c, w5, hrun, hown, hg, hob⟩ := append_int_g ho1 x (by omega) hsz
  have hga : (w.alloc (.cells #[.int .i64 x] 3)).heap.size = w.heap.size + 1 := by simp
  have low : ∀ k, k < a + 6 → w5.heap[k]? = w.heap[k]? := fun k hk => (hg.block k (by omega) (fun e => by have := (ho1.owner e.symm).1; omega)).trans (Below.heap_alloc w _ k (by omega))
  have hk4 := (low (a + 4) (by omega)).trans h4
  have old : ∀ k, k ≠ a + 4 → (w5.setCell ⟨a + 4, 0, none⟩ (.slice A (cur.length + 1) c)).heap[k]? = w5.heap[k]? := fun k hk => Below.heap_setCell _ _ _ _ (by show k ≠ a + 4; exact hk)
  refine ⟨A4, c4, A, c, w5, cellOf h4 0 rfl, hrun, ⟨_, cellOf hk4 0 rfl⟩, by simp [World.frozen?, hk4], ⟨((old _ (by omega)).trans (low _ (by omega))).trans h.c0, ((old _ (by omega)).trans (low _ (by omega))).trans h.c1, ((old _ (by omega)).trans (low _ (by omega))).trans h.c3, ((old _ (by omega)).trans (low _ (by omega))).trans h.c5,
    .slice A (cur.length + 1) c, bv, heap_setCell_row hk4 _, ((old _ (by omega)).trans (low _ (by omega))).trans h2, hown.other (by show a + 4 < a + 6; omega) _, ?_, fun g hg1 hg2 => ?_⟩, ?_⟩
  · refine (ho2.keep fun g hg2 => ?_).other (by show a + 4 < a + 6; omega) _
    obtain ⟨_, cu, hcu⟩ := ho2.owner hg2
    exact (hg.block g (by have := lt_of_block hcu; omega) (fun e => hs g e.symm hg2)).trans (Below.heap_alloc w _ g (lt_of_block hcu))
  · obtain ⟨_, cu, hcu⟩ := ho2.owner hg2
    rcases hob with e | e
    · rw [e] at hg1
      exact hs g hg1 hg2
    · rw [e] at hg1
      injection hg1 with hg1
      have := lt_of_block hcu
      omega
  · refine TF.set4 (w := w) (w' := w5) ⟨hg.os, hg.tape, hg.output, by have := hg.size; omega, fun k hk _ _ _ => low k hk, fun k o hk ho hne => ?_⟩ _
    refine (hg.block k (by have := lt_of_block ho; omega) (fun e => ?_)).trans ((Below.heap_alloc w _ k (lt_of_block ho)).trans ho)
    obtain ⟨_, cu, hcu⟩ := ho1.owner e.symm
    rw [ho] at hcu
    injection hcu with hcu
    exact hne _ _ hcu
/-- the last number out of the list -/
theorem try_pop {a : Nat} {iv : Int} {vp vn : Value} {left : Bool} {cur : List Int} {x : Int} {st : Bool × List Int} {w : World} (h : TryI a iv vp vn left (cur ++ [x]) st w) :
    ∃ A4 c4, w.cell? ⟨a + 4, 0, none⟩ = some (.slice A4 (cur.length + 1) c4) ∧ cur.length + 1 ≤ c4 ∧ w.frozen? ⟨a + 4, 0, none⟩ = false ∧ TryI a iv vp vn left cur st (w.setCell ⟨a + 4, 0, none⟩ (.slice A4 cur.length c4)) ∧ TF a w (w.setCell ⟨a + 4, 0, none⟩ (.slice A4 cur.length c4)) := by
  obtain ⟨lv, bv, h4, h2, ho1, ho2, hs⟩ := h.lists
  obtain ⟨A4, c4, rfl, hc4, _⟩ := ho1.form
  rw [List.length_append, List.length_singleton] at h4 ho1 hs hc4
  have old : ∀ k, k ≠ a + 4 → (w.setCell ⟨a + 4, 0, none⟩ (.slice A4 cur.length c4)).heap[k]? = w.heap[k]? := fun k hk => Below.heap_setCell _ _ _ _ (by show k ≠ a + 4; exact hk)
  have ho1' := ho1.take (k := cur.length) (by simp)
  rw [List.take_left' rfl] at ho1'
  refine ⟨A4, c4, cellOf h4 0 rfl, hc4, by simp [World.frozen?, h4], ⟨(old _ (by omega)).trans h.c0, (old _ (by omega)).trans h.c1, (old _ (by omega)).trans h.c3, (old _ (by omega)).trans h.c5, _, bv, heap_setCell_row h4 _, (old _ (by omega)).trans h2,
    ho1'.other (by show a + 4 < a + 6; omega) _, ho2.other (by show a + 4 < a + 6; omega) _, fun g hg1 => hs g (by
      cases A4 with
      | none => cases hg1
      | some ad => exact hg1)⟩, (TF.refl a w).set4 _⟩
end Go.Proofs.YtajdgdelhlfniaaGreatDoor
