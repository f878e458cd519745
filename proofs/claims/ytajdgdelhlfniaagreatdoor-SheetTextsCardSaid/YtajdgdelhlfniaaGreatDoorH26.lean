/- Walks of the layer sheet: the deferred closure of Read. Walks of the layer sheet: Read: its loop. -/
import Derived.Test.YtajdgdelhlfniaaGreatDoorH25
import Derived.Recover
import Derived.RecoverIn
import Derived.WalkKit
import Derived.Deep.Quiet
import Derived.Lib.SplitLaws
set_option linter.unusedSimpArgs false
set_option linter.unusedVariables false
namespace Go.Proofs.YtajdgdelhlfniaaGreatDoor
open Go.RowKit

/-- it finds no panic -/
theorem catch_idle (p q : Addr) (w : World) : CallsDIn Fence.wide 0 Tryz.prog 80 #[.pointer (some p), .pointer (some q)] .returning w fun e u' w' => e = .returned (.tuple #[]) ∧ u' = .returning ∧ w' = w := by
  refine callsDIn_of_wpSIn Tryz.func80 rfl trivial fun c₀ cs hu => ?_
  apply wpSIn_seq
  apply wpSIn_region
  simp [wpOpsSIn, go_sem, recoverD, hu, Tryz.ntmps80, Exit.thenS, Fence.wide]
  apply wpSIn_seq
  apply wpSIn_region
  simp [wpOpsSIn, go_sem, Exit.thenS]
  refine wpSIn_cond (t := false) (by simp [Act.eval, Array.replicate]) ?_
  simp only [Bool.false_eq_true, if_false]
  refine wpSIn_of_wpIn rfl (wpIn_skip ?_)
  cases c₀
  simp_all [bodyPostS, results, Tryz.results80]
theorem ta26 (w : World) : (Instr.typeAssert (.iface 26 (.int .i64 6)) 20 26 false).run Tryz.prog w = .ok (.int .i64 6) w := by kernel_rfl
structure CtI (H : Nat) (w : World) (a : Int) (vp vn ve : Value) (L : Nat → Bool) (vs : Nat → Value) (X : World) : Prop where
  bel : Below H w X
  f0 : L 0 = true → vs 0 = .agg #[.int .i64 0, .slice none 0 0, .slice none 0 0]
  f1 : L 1 = true → vs 1 = .iface 26 (.int .i64 6)
  f2 : L 2 = true → vs 2 = .int .i64 6
  rH : X.heap[H]? = some (.cells (if L 3 = true then #[.int .i64 0, .slice none 0 0, .slice none 0 0] else #[.int .i64 a, vp, vn]) 25)
  rE : X.heap[H + 1]? = some (.cells (if L 4 = true then #[.int .i64 6] else #[ve]) 26)
set_option maxRecDepth 100000 in
set_option maxHeartbeats 1000000 in
/-- it finds the panic of a line that is none -/
theorem catch_line {H : Nat} {w : World} {a : Int} {vp vn ve : Value} (hH : w.heap[H]? = some (.cells #[.int .i64 a, vp, vn] 25)) (hE : w.heap[H + 1]? = some (.cells #[ve] 26)) :
    CallsDIn Fence.wide 0 Tryz.prog 80 #[.pointer (some ⟨H, 0, none⟩), .pointer (some ⟨H + 1, 0, none⟩)] (.panicking chE) w fun e u' w' =>
      e = .returned (.tuple #[]) ∧ u' = .panicking [{ v := .iface 26 (.int .i64 6), recovered := true }] ∧ w'.heap[H]? = some (.cells #[.int .i64 0, .slice none 0 0, .slice none 0 0] 25) ∧ w'.heap[H + 1]? = some (.cells #[.int .i64 6] 26) ∧ Below H w w' := by
  refine callsDIn_of_wpSIn Tryz.func80 rfl trivial fun c₀ cs hu => ?_
  unfold chE at hu
  apply wpSIn_seq
  apply wpSIn_region
  simp [wpOpsSIn, go_sem, recoverD, hu, Tryz.ntmps80, Exit.thenS, Fence.wide]
  apply wpSIn_seq
  apply wpSIn_region
  simp [wpOpsSIn, go_sem, Exit.thenS]
  refine wpSIn_cond (t := true) (by simp [Act.eval, Array.replicate]) ?_
  simp only [if_true]
  refine wpSIn_of_wpIn rfl ?_
  refine (wpIn_wide (n := 0)).2 ?_
  have ht := fun w : World => ta26 w
  have HH := Lib.hid hH
  have HE := Lib.hid hE
  clear hH hE
  refine wp_region_ghost (CtI H w a vp vn ve) (by kernel_rfl) (by kernel_rfl) ?_ ?_ ?_
  · exact ⟨(Below.refl _ _).drew, fun h => (by cases h), fun h => (by cases h), fun h => (by cases h), HH.out, HE.out⟩
  · refine ⟨?_, ?_, ?_, ?_, ?_, trivial⟩
    all_goals
      intro L vs X b hL hw hcl hI hf
    · refine wp_of_run (v := .agg #[.int .i64 0, .slice none 0 0, .slice none 0 0]) (w' := X) (by unfold execOp; go_simp) ?_
      exact ⟨hI.bel, fun _ => rfl, hI.f1, hI.f2, hI.rH, hI.rE⟩
    · have e2 : b.tmps[2]?.getD undef = .iface 26 (.int .i64 6) := hf.old 2 (by kernel_rfl)
      refine wp_of_run (v := .iface 26 (.int .i64 6)) (w' := X) (by unfold execOp; go_simp) ?_
      exact ⟨hI.bel, hI.f0, fun _ => rfl, hI.f2, hI.rH, hI.rE⟩
    · have h1 : L 1 = true := done_of hw 1 (by kernel_rfl)
      have e7 : b.tmps[7]?.getD undef = .iface 26 (.int .i64 6) := (hf.new 1 7 rfl h1 (by simp)).trans (hI.f1 h1)
      refine wp_of_run (v := .int .i64 6) (w' := X) (by unfold execOp; go_simp) ?_
      exact ⟨hI.bel, hI.f0, hI.f1, fun _ => rfl, hI.rH, hI.rE⟩
    · have h0 : L 0 = true := done_of hw 0 (by kernel_rfl)
      have e0 : b.tmps[0]?.getD undef = .pointer (some ⟨H, 0, none⟩) := hf.old 0 (by kernel_rfl)
      have e6 : b.tmps[6]?.getD undef = .agg #[.int .i64 0, .slice none 0 0, .slice none 0 0] := (hf.new 0 6 rfl h0 (by simp)).trans (hI.f0 h0)
      have hr := hI.rH
      rw [hL] at hr
      replace hr : X.heap[H]? = some (.cells #[.int .i64 a, vp, vn] 25) := hr
      refine wp_store_row 25 (.tmp 0) (.tmp 6) rfl H #[.int .i64 0, .slice none 0 0, .slice none 0 0] (eval_tmp e0) (eval_tmp e6) 25 _ hr (by kernel_rfl) rfl (by simp [Value.oneCell']) ⟨_, rfl, ?_⟩
      refine ⟨hI.bel.trans (setRow_below _ (Nat.le_refl _)), hI.f0, hI.f1, hI.f2, ?_, ?_⟩
      · rw [show updB L 3 3 = true from rfl]
        exact setRow_heap _ _ _ _ _ _ hr
      · exact (setRow_other _ _ _ _ (by omega)).trans hI.rE
    · have h2 : L 2 = true := done_of hw 2 (by kernel_rfl)
      have h3 : L 3 = true := done_of hw 3 (by kernel_rfl)
      have e1 : b.tmps[1]?.getD undef = .pointer (some ⟨H + 1, 0, none⟩) := hf.old 1 (by kernel_rfl)
      have e8 : b.tmps[8]?.getD undef = .int .i64 6 := (hf.new 2 8 rfl h2 (by simp)).trans (hI.f2 h2)
      have hr := hI.rE
      rw [hL] at hr
      replace hr : X.heap[H + 1]? = some (.cells #[ve] 26) := hr
      have c0 := cellOf hr 0 (v := ve) rfl
      have f0 : X.frozen? ⟨H + 1, 0, none⟩ = false := by simp [World.frozen?, hr]
      refine wp_of_skip (w' := X.setCell ⟨H + 1, 0, none⟩ (.int .i64 6)) (by unfold execOp; go_simp) ?_
      refine ⟨hI.bel.setCell (Nat.le_succ _) _, hI.f0, hI.f1, hI.f2, ?_, ?_⟩
      · exact (Below.heap_setCell _ _ _ _ (by show H ≠ H + 1; omega)).trans hI.rH
      · rw [show updB L 4 4 = true from rfl]
        exact (row3 hr 0 _).trans (by simp)
  · intro vs X hI
    simp [fill, slotOf, Act.put]
    have r1 := hI.rH
    have r2 := hI.rE
    cases c₀
    simp only at hu
    subst hu
    simp [bodyPostS, results, Tryz.results80]
    exact ⟨r1, r2, hI.bel⟩
end Go.Proofs.YtajdgdelhlfniaaGreatDoor
namespace Go.Proofs.YtajdgdelhlfniaaGreatDoor
open Go.RowKit Go.Shelf

/-- the words of a line -/
def trimL (x : ByteArray) : ByteArray := ⟨(Lib.trimSuffix x.data.toList [10]).toArray⟩
def wordsOf (x : ByteArray) : List ByteArray := Lib.splitB ⟨#[32]⟩ 0 (Lib.countB (trimL x) ⟨#[32]⟩) (trimL x)
/-- what Read returns -/
def endF (t : ByteArray) : Option ShR → ShR × Int
  | none => (zeroS, 6)
  | some s => if errOf s = 0 ∧ (⟨(textB s).toArray⟩ : ByteArray) = t then (s, 0) else (zeroS, 6)
def readF (t : ByteArray) : ShR × Int := if 1500 < t.size then (zeroS, 3) else endF t (takesF zeroS ((linesOf t).map wordsOf))
theorem trimL_size (x : ByteArray) : (trimL x).size ≤ x.size := by
  have h : (trimL x).size = (Lib.trimSuffix x.data.toList [10]).length := by unfold trimL; rfl
  rw [h]
  unfold Lib.trimSuffix
  split
  · rw [List.length_take]
    have : x.data.toList.length = x.size := by simp
    omega
  · simp
theorem splitB_mem (sep : ByteArray) (save : Nat) : ∀ (k : Nat) (s : ByteArray), ∀ x ∈ Lib.splitB sep save k s, x.size ≤ s.size := by
  intro k
  induction k with
  | zero => intro s x hx; simp [Lib.splitB] at hx; rw [hx]; exact Nat.le_refl _
  | succ k ih =>
    intro s x hx
    unfold Lib.splitB at hx
    split at hx
    · simp at hx; rw [hx]; exact Nat.le_refl _
    · rcases List.mem_cons.1 hx with rfl | h
      · rw [ByteArray.size_extract]; omega
      · have := ih _ x h
        rw [ByteArray.size_extract] at this
        omega
theorem wordsOf_len (x : ByteArray) : (wordsOf x).length = Lib.countB (trimL x) ⟨#[32]⟩ + 1 := Lib.splitB_all _ (by decide) 0 _ _ rfl
theorem wordsOf_few (x : ByteArray) : 1 ≤ (wordsOf x).length ∧ (wordsOf x).length ≤ x.size + 1 := by
  rw [wordsOf_len]
  have := Lib.countB_le ⟨#[32]⟩ (by decide) _ (trimL x) (Nat.le_refl _)
  have := trimL_size x
  omega
theorem wordsOf_small {x y : ByteArray} (h : y ∈ wordsOf x) : y.size ≤ x.size := Nat.le_trans (splitB_mem _ _ _ _ _ h) (trimL_size x)
theorem takesF_snoc (l : List (List ByteArray)) (ws : List ByteArray) (s : ShR) : takesF s (l ++ [ws]) = (takesF s l).bind fun t => takeF t ws := by
  induction l generalizing s with
  | nil => simp [takesF]
  | cons x l ih =>
    simp only [List.cons_append, takesF]
    cases takeF s x with
    | none => rfl
    | some t => simpa using ih t
/-- after some lines -/
def upToF (t : ByteArray) (k : Nat) : Option ShR := takesF zeroS (((linesOf t).map wordsOf).take k)
theorem upToF_succ {t : ByteArray} {k : Nat} (hk : k < (linesOf t).length) : upToF t (k + 1) = (upToF t k).bind fun s => takeF s (wordsOf ((linesOf t)[k]?.getD ByteArray.empty)) := by
  unfold upToF
  rw [List.take_add_one, List.getElem?_map, List.getElem?_eq_getElem hk, Option.map_some, Option.toList_some, takesF_snoc]
  rfl
theorem upToF_none {t : ByteArray} {k j : Nat} (h : upToF t k = none) (hj : k ≤ j) : upToF t j = none := by
  induction j with
  | zero => have : k = 0 := by omega
            subst this; exact h
  | succ j ih =>
    by_cases e : k = j + 1
    · subst e; exact h
    · have := ih (by omega)
      by_cases hl : j < (linesOf t).length
      · rw [upToF_succ hl, this]; rfl
      · unfold upToF at this ⊢
        rw [List.take_of_length_le (by simp; omega)] at this ⊢
        exact this
theorem upToF_all (t : ByteArray) : upToF t (linesOf t).length = takesF zeroS ((linesOf t).map wordsOf) := by
  unfold upToF
  rw [List.take_of_length_le (by simp)]
/-- how much has been read -/
structure Few (k : Nat) (s : ShR) : Prop where
  len : s.pts.length + s.notes.length ≤ k
  small : ∀ p ∈ s.pts, p.size ≤ 100000
theorem Few.next {k : Nat} {s t : ShR} {ws : List ByteArray} (h : Few k s) (hw : ∀ x ∈ ws, x.size ≤ 100000) (he : takeF s ws = some t) : Few (k + 1) t := by
  refine ⟨Nat.le_trans (takeF_len he) (by have := h.len; omega), ?_⟩
  unfold takeF at he
  split at he
  · split at he
    · simp only [Option.map_eq_some_iff] at he
      obtain ⟨v, _, rfl⟩ := he
      exact h.small
    · cases he
  · split at he
    · split at he
      · simp only [Option.some.injEq] at he
        subst he
        intro p hp
        simp only [addP, List.mem_append, List.mem_singleton] at hp
        rcases hp with hp | rfl
        · exact h.small p hp
        · exact wd_small hw 1
      · cases he
    · split at he
      · split at he
        · simp only [Option.bind_eq_some_iff, Option.map_eq_some_iff] at he
          obtain ⟨_, _, _, _, rfl⟩ := he
          exact h.small
        · cases he
      · split at he
        · split at he
          · simp only [Option.bind_eq_some_iff, Option.map_eq_some_iff] at he
            obtain ⟨_, _, _, _, _, _, rfl⟩ := he
            exact h.small
          · cases he
        · split at he
          · split at he
            · simp only [Option.bind_eq_some_iff, Option.map_eq_some_iff] at he
              obtain ⟨_, _, _, _, _, _, _, _, rfl⟩ := he
              exact h.small
            · cases he
          · cases he
/-- the world between two lines: w0: where Read began; H: the sheet's box, behind it the error's, the iterator's -/
structure RdJ (w0 : World) (base H : Nat) (t : ByteArray) (k : Nat) (W : World) : Prop where
  s : ∃ s vp vn, upToF t k = some s ∧ Few k s ∧ SheetAt base W H vp vn s
  er : W.heap[H + 1]? = some (.cells #[.int .i64 0] 26)
  b0 : Below w0.heap.size w0 W
  le : base ≤ W.heap.size
/-- the world where a line has died -/
structure RdX (w0 : World) (H : Nat) (t : ByteArray) (W : World) : Prop where
  none_ : upToF t (linesOf t).length = none
  rH : ∃ a vp vn, W.heap[H]? = some (.cells #[.int .i64 a, vp, vn] 25)
  er : W.heap[H + 1]? = some (.cells #[.int .i64 0] 26)
  b0 : Below w0.heap.size w0 W
theorem block_lt {w : World} {b : Nat} {o : Obj} (h : w.heap[b]? = some o) : b < w.heap.size := lt_of_block h
theorem Own.keepD {α : Type} {At : World → Addr → α → Prop} {sz : Nat} [E : Enc α At sz] {base : Nat} {e : TypeId} {w w' : World} {v : Value} {xs : List α} (h : Own base e w v xs) (hk : ∀ (b : Nat) (cs : Array Value) (f : Nat × Nat), base ≤ b → w.heap[b]? = some (.cells cs e f) → w'.heap[b]? = some (.cells cs e f)) : Own base e w' v xs := by
  rcases h with ⟨hl, h0 | ⟨g, cap, cur, rfl, hbb, hh, r⟩⟩
  · exact ⟨hl, .inl h0⟩
  · exact ⟨hl, .inr ⟨g, cap, cur, rfl, hbb, hk _ _ _ hbb hh, r⟩⟩
theorem RdJ.book {w0 : World} {base H B : Nat} {t : ByteArray} {k : Nat} {W W' : World} (h : RdJ w0 base H t k W) (hb : Book B W W') (hB : w0.heap.size ≤ B) : RdJ w0 base H t k W' := by
  obtain ⟨s, vp, vn, h1, h2, h3⟩ := h.s
  exact ⟨⟨s, vp, vn, h1, h2, ⟨hb.data _ _ h3.row rfl, h3.pts.keepD fun b cs f _ hh => hb.data _ _ hh rfl, h3.nts.keepD fun b cs f _ hh => hb.data _ _ hh rfl⟩⟩, hb.data _ _ h.er rfl, h.b0.trans (hb.below.mono hB), Nat.le_trans h.le hb.below.size⟩
theorem RdJ.lns {w0 : World} {base H bx : Nat} {t : ByteArray} {k : Nat} {W W' : World} (h : RdJ w0 base H t k W) (hs : LnS bx W W') (hbx : w0.heap.size ≤ bx) (h1 : bx < base) (h2 : bx ≠ H) (h3 : bx ≠ H + 1) : RdJ w0 base H t k W' := by
  obtain ⟨s, vp, vn, e1, e2, e3⟩ := h.s
  have kp : ∀ (b : Nat) (o : Obj), b ≠ bx → W.heap[b]? = some o → W'.heap[b]? = some o := fun b o hne ho => (hs.block b (lt_of_block ho) hne).trans ho
  refine ⟨⟨s, vp, vn, e1, e2, ⟨kp _ _ (Ne.symm h2) e3.row, e3.pts.keepD fun b cs f hb hh => kp _ _ (by omega) hh, e3.nts.keepD fun b cs f hb hh => kp _ _ (by omega) hh⟩⟩, kp _ _ (Ne.symm h3) h.er, h.b0.trans ⟨hs.os, hs.tape, hs.output, Nat.le_trans h.b0.size hs.size |> fun _ => by have := hs.size; have := h.b0.size; omega, fun j hj => hs.block j (by have := h.b0.size; omega) (by omega)⟩, Nat.le_trans h.le hs.size⟩
theorem LnS.nc {bx : Nat} {w w' : World} (h : LnS bx w w') : NC w w' := fun b o ho hd => by
  refine (h.block b (lt_of_block ho) fun e => ?_).trans ho
  subst e
  obtain ⟨s, f, hs⟩ := h.m0
  rw [hs] at ho
  cases ho
  cases hd
theorem words_rd (W : World) (ws : List ByteArray) (hn : ws.length ≤ 100000) : Rd StrAt 1 (W.alloc (.cells (ws.map Value.string).toArray 9)).heap.size (W.alloc (.cells (ws.map Value.string).toArray 9)) (.slice (some ⟨W.heap.size, 0, none⟩) ws.length ws.length) ws := by
  refine ⟨_, _, rfl, Nat.le_refl _, by omega, fun i x hx => ⟨_, rfl, by simp, ?_⟩⟩
  rw [add_none, Nat.zero_add, Nat.mul_one]
  exact (cell_of_row _ _ i _ _ _ (heap_alloc_new W _)).trans (by simp [hx])
theorem take_step {w0 W : World} {t : ByteArray} {k : Nat} (hJ : RdJ w0 (w0.heap.size + 3) w0.heap.size t k W) (hk : k < (linesOf t).length) (hgl : Glob w0) (ht : t.size ≤ 1500) {x : ByteArray} (hx : (linesOf t)[k]?.getD ByteArray.empty = x) :
    Calls Tryz.prog 82 #[.pointer (some ⟨w0.heap.size, 0, none⟩), .slice (some ⟨W.heap.size, 0, none⟩) (wordsOf x).length (wordsOf x).length] (W.alloc (.cells ((wordsOf x).map Value.string).toArray 9)) fun e W' =>
      (e = .returned (.tuple #[]) ∧ NC W W' ∧ RdJ w0 (w0.heap.size + 3) w0.heap.size t (k + 1) W' ∧ LnK (w0.heap.size + 2) W W') ∨ (e = .panicked chE ∧ NC W W' ∧ RdX w0 w0.heap.size t W') := by
  have hxs : x.size ≤ 1500 := by
    rw [← hx, List.getElem?_eq_getElem hk]
    exact Nat.le_trans (linesOf_small (List.getElem_mem hk)) ht
  have hlen := wordsOf_few x
  obtain ⟨s, vp, vn, hs, hf, hsh⟩ := hJ.s
  have hb1 : Below W.heap.size W (W.alloc (.cells ((wordsOf x).map Value.string).toArray 9)) := (Below.refl _ _).alloc (Nat.le_refl _) _
  have hlines : (linesOf t).length ≤ 1500 := Nat.le_trans (linesN_len _ _) ht
  have hIn : TakeIn (w0.heap.size + 3) w0.heap.size W.heap.size (wordsOf x).length vp vn s (wordsOf x) (W.alloc (.cells ((wordsOf x).map Value.string).toArray 9)) :=
    ⟨hsh.below hb1, words_rd W _ (by omega), hgl.below (hJ.b0.trans (hb1.mono hJ.b0.size)), by omega, Nat.le_trans hJ.le hb1.size, by have := hf.len; omega, fun y hy => by have := wordsOf_small hy; omega, ⟨hlen.1, by omega⟩, fun e => by
      have := (hsh.pts.ownBlock e).2.1
      omega⟩
  have key : ∀ W', TakeK (w0.heap.size + 3) w0.heap.size (W.alloc (.cells ((wordsOf x).map Value.string).toArray 9)) W' → NC W W' ∧ (∀ j, j < w0.heap.size + 3 → ¬ j = w0.heap.size → W'.heap[j]? = W.heap[j]?) ∧ Below w0.heap.size w0 W' ∧ W.heap.size ≤ W'.heap.size := fun W' hK => by
    have hkeep : ∀ j, j < w0.heap.size + 3 → ¬ j = w0.heap.size → W'.heap[j]? = W.heap[j]? := fun j hj hne => (hK.keep j hj hne).trans (hb1.block j (by have := hJ.le; omega))
    have hsz : W.heap.size ≤ W'.heap.size := Nat.le_trans hb1.size hK.b0.size
    exact ⟨((NC.refl W).of_below hb1).trans hK.nc, hkeep, hJ.b0.trans ⟨hK.b0.os, hK.b0.tape, hK.b0.output, by have := hJ.b0.size; omega, fun j hj => hkeep j (by omega) (by omega)⟩, hsz⟩
  refine (take_any hIn).mono ?_
  rintro e W' (⟨s', h1, rfl, vp', vn', h2, hK⟩ | ⟨h1, rfl, h2, hK⟩)
  · obtain ⟨k1, k2, k3, k4⟩ := key W' hK
    refine .inl ⟨rfl, k1, ⟨⟨s', vp', vn', ?_, hf.next (fun y hy => by have := wordsOf_small hy; omega) h1, h2⟩, (k2 _ (by omega) (by omega)).trans hJ.er, k3, Nat.le_trans hJ.le k4⟩, fun cs f hc => (k2 _ (by omega) (by omega)).trans hc⟩
    rw [upToF_succ hk, hs, hx]
    exact h1
  · obtain ⟨k1, k2, k3, k4⟩ := key W' hK
    refine .inr ⟨rfl, k1, ⟨?_, ⟨_, _, _, h2.row⟩, (k2 _ (by omega) (by omega)).trans hJ.er, k3⟩⟩
    have : upToF t (k + 1) = none := by rw [upToF_succ hk, hs, hx]; exact h1
    exact upToF_none this hk
end Go.Proofs.YtajdgdelhlfniaaGreatDoor
