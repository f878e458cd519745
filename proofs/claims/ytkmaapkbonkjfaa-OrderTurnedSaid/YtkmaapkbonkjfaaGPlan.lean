/- Walks of the layer order: the plan. Walks of the layer order: Plan of the program. -/
import Derived.Test.YtkmaapkbonkjfaaGPure
import Derived.Test.YtkmaapkbonkjfaaGSort
import Derived.Test.YtkmaapkbonkjfaaGEnter
import Derived.Test.YtkmaapkbonkjfaaGTail
set_option linter.unusedSimpArgs false
set_option linter.unusedVariables false
namespace Go.Proofs.Ytkmaapkbonkjfaa
open Go.RowKit Go.Shelf
attribute [local go_sem] Oper.semAt_some

theorem list_inOrder {s : ShopR} {l : List OrdR} (hg : Good s) (hf : Fit s l) (hc : canB s l = true) : InOrder (listTo s l s.hours.length) := by
  have hh := hg.hlen
  have hp := hg.plen
  refine ⟨fun x hx => ?_, fun i j hij hj => ?_, by have := list_hours hg hf hc; omega⟩
  · have := list_mem hx
    exact ⟨by omega, by omega⟩
  · rw [List.getElem?_eq_getElem hj, List.getElem?_eq_getElem (by omega)]
    simp only [Option.getD_some]
    by_cases e : i = j
    · subst e; simp [cmpC]
    · have := List.pairwise_iff_getElem.1 (list_order s l s.hours.length) i j (by omega) hj (by omega)
      unfold leC at this
      unfold cmpC
      split
      · omega
      · split <;> omega

theorem c87_any {B : Nat} {w : World} {p bm : Nat} {s : ShopR} (hs : ShopAt B w p bm s) (hg : Good s) {a b : Addr} (ha : w.cell? a = some (.pointer (some ⟨p, 0, none⟩))) {used : Int} (hb : w.cell? b = some (.int .i64 used)) (k : Nat) (hk : k < s.hours.length) :
    Calls Try.prog 87 #[.int .i64 k, .pointer (some a), .pointer (some b)] w fun e w' => e = .returned (.bool (decide (used ≤ worked s k))) ∧ Qt w w' := by
  have Hs := Lib.hid (fun w1 (h : Below w.heap.size w w1) => pworked_any (hs.below h) k hk hg)
  go_enter Try.func87, Try.ntmps87
  have hq := Lib.hid (fun n => Hs.out (w.drewN n) (below_drewN (Below.refl _ _) n))
  go_wp2
  by_cases hu : used ≤ worked s k
  · go_quiet ((go_at_call 80; exact Calls.quiet_of_same (hq.out _)))
    go_wp2
    go_ret
    exact ⟨ret_bool (by simp [hu]), ⟨_, rfl⟩⟩
  · have hd : decide (used ≤ worked s k) = false := by simp [hu]
    go_quiet ((go_at_call 80; exact Calls.quiet_of_same (hq.out _)))
    go_wp2
    go_ret
    exact ⟨by first | rfl | simp [hd], ⟨_, rfl⟩⟩

/-- what a day's round leaves as it was: all but block H + 1 and the rows of castings -/
structure RS (H base : Nat) (a b : World) : Prop where
  os : b.os = a.os
  tape : b.tape = a.tape
  output : b.output = a.output
  size : a.heap.size ≤ b.heap.size
  low : ∀ i, i < base → i ≠ H + 1 → b.heap[i]? = a.heap[i]?
  obj : ∀ (i : Nat) (o : Obj), a.heap[i]? = some o → i ≠ H + 1 → (∀ c f, o ≠ .cells c 132 f) → b.heap[i]? = some o
theorem RS.refl (H base : Nat) (a : World) : RS H base a a := ⟨rfl, rfl, rfl, Nat.le_refl _, fun _ _ _ => rfl, fun _ _ h _ _ => h⟩
theorem RS.trans {H base : Nat} {a b c : World} (h : RS H base a b) (k : RS H base b c) : RS H base a c :=
  ⟨k.os.trans h.os, k.tape.trans h.tape, k.output.trans h.output, Nat.le_trans h.size k.size, fun i hi hn => (k.low i hi hn).trans (h.low i hi hn), fun i o ho hn hc => k.obj i o (h.obj i o ho hn hc) hn hc⟩
theorem RS.of_append {H base : Nat} {a b : World} (h : Below base a b) (k : ∀ (i : Nat) (o : Obj), a.heap[i]? = some o → (∀ c f, o ≠ .cells c 132 f) → b.heap[i]? = some o) : RS H base a b :=
  ⟨h.os, h.tape, h.output, h.size, fun i hi _ => h.block i hi, fun i o ho _ hc => k i o ho hc⟩
theorem RS.of_below {H base : Nat} {a b : World} (h : Below a.heap.size a b) (hb : base ≤ a.heap.size) : RS H base a b :=
  ⟨h.os, h.tape, h.output, h.size, fun i hi _ => h.block i (by omega), fun i o ho _ _ => (h.block i (lt_of_block ho)).trans ho⟩
theorem RS.set_ (H base : Nat) (a : World) (v : Value) : RS H base a (a.setCell ⟨H + 1, 0, none⟩ v) :=
  ⟨rfl, rfl, rfl, by simp [World.setCell], fun i _ hn => Below.heap_setCell _ _ _ _ hn, fun i o ho hn _ => (Below.heap_setCell _ _ _ _ hn).trans ho⟩
theorem RS.nc {H base : Nat} {a b : World} (h : RS H base a b) {c : Array Value} {t : TypeId} {f : Nat × Nat} (hl : a.heap[H + 1]? = some (.cells c t f)) : NC a b := fun i o ho hd => by
  refine h.obj i o ho (fun e => ?_) fun c f e => ?_
  · subst e
    rw [hl] at ho
    cases ho
    cases hd
  · subst e
    cases hd
theorem RS.keep {H base bm : Nat} {w a b : World} (h : RS H base a b) (k : KeepM bm w a) (hH : H = w.heap.size) (hb : H ≤ base) : KeepM bm w b :=
  ⟨h.os.trans k.os, h.tape.trans k.tape, h.output.trans k.output, Nat.le_trans k.size h.size, fun i hi hn => (h.low i (by omega) (by omega)).trans (k.block i hi hn)⟩
theorem RS.map {H base bm : Nat} {a b : World} {c : (Nat → Int) → Nat → Int} (h : RS H base a b) (k : MapAt c a bm) (hb : bm ≠ H + 1) : MapAt c b bm := by
  obtain ⟨es, clk, hm, he⟩ := k
  exact ⟨es, clk, h.obj _ _ hm hb (fun _ _ e => by cases e), he⟩
theorem RS.arr {H base b : Nat} {A B : World} {f : Nat → Int} (h : RS H base A B) (ha : ArrAt A b f) (hb : b ≠ H + 1) : ArrAt B b f := h.obj _ _ ha hb (fun _ _ e => by cases e)

theorem run_eql93 (f g : Nat → Int) (w : World) : (Op.equalIn 10000 93 (encP f) (encP g)).run Try.prog w = .ok (f 0 == g 0 && (f 1 == g 1 && f 2 == g 2)) w := run_eq f g w

/-- the list of castings, in its cell -/
def ListAt (H base : Nat) (xs : List (Int × Int)) (W : World) : Prop :=
  ∃ A c, W.heap[H + 1]? = some (.cells #[.slice A xs.length c] 130) ∧ Own base 132 W (.slice A xs.length c) xs ∧ xs.length ≤ c ∧ c ≤ 9223372036854775807
theorem news_nil {s : ShopR} {l : List OrdR} {k : Nat} : ∀ np, (∀ i, i < np → newBy s l k i = 0) → newsOf s l k np = [] := by
  intro np
  induction np with
  | zero => intro _; rfl
  | succ np ih =>
    intro h
    rw [newsOf_succ, ih fun i hi => h i (by omega), h np (by omega)]
    rfl

/-- what holds between two days -/
structure PlanE (s : ShopR) (l : List OrdR) (p H base : Nat) (k : Nat) (W : World) : Prop where
  b0 : W.heap[H]? = some (.cells #[.pointer (some ⟨p, 0, none⟩)] 84)
  arr : ArrAt W (H + 2) (fun i => if i < s.parts.length then before s l k i else 0)
  list : ∃ A c, W.heap[H + 1]? = some (.cells #[.slice A (listTo s l k).length c] 130) ∧ Own base 132 W (.slice A (listTo s l k).length c) (listTo s l k) ∧ (listTo s l k).length ≤ c ∧ c ≤ 9223372036854775807
theorem Own.stays {α : Type} {At : World → Addr → α → Prop} {sz : Nat} [E : Enc α At sz] {base S : Nat} {e : TypeId} {A B : World} {v : Value} {xs : List α} (h : Own base e A v xs) (he : e ≠ 93) (hc : CellsStay S A B) : Own base e B v xs := by
  rcases h with ⟨hl, h0 | ⟨g, cap, cur, rfl, hbb, hh, r⟩⟩
  · exact ⟨hl, .inl h0⟩
  · exact ⟨hl, .inr ⟨g, cap, cur, rfl, hbb, hc _ _ _ _ (.inr he) hh, r⟩⟩
theorem PlanE.stays {s : ShopR} {l : List OrdR} {p H base k S : Nat} {A B : World} (h : PlanE s l p H base k A) (hc : CellsStay S A B) (hS : H + 2 < S) : PlanE s l p H base k B := by
  obtain ⟨A', c', h1, h2, h3⟩ := h.list
  exact ⟨hc _ _ _ _ (.inl (by omega)) h.b0, hc.arr hS h.arr, A', c', hc _ _ _ _ (.inl (by omega)) h1, h2.stays (by decide) hc, h3⟩

theorem ShopAt.belowS {B S p bm : Nat} {w w' : World} {s : ShopR} (h : ShopAt B w p bm s) (hb : Below S w w') (hB : B ≤ S) (hp : p < S) (hm : bm < S) : ShopAt B w' p bm s := by
  obtain ⟨⟨vh, vp, vo, vu, g0, g1, g2, g3, g4⟩, es, clk, hh, he⟩ := h
  exact ⟨⟨vh, vp, vo, vu, (hb.block p hp).trans g0, g1.below (hb.mono hB), g2.below (hb.mono hB), g3.below (hb.mono hB), g4.below (hb.mono hB)⟩, es, clk, (hb.block bm hm).trans hh, he⟩


set_option maxRecDepth 100000 in
theorem plan_any {B : Nat} {w : World} {p bm : Nat} {s : ShopR} {l : List OrdR} {vl : Value} (hs : ShopAt B w p bm s) (hl : Rd OrdAt 4 B w vl l) (hg : Good s) (hf : Fit s l) (hc : canB s l = true) (hB : B ≤ w.heap.size) :
    Calls Try.prog 61 #[.pointer (some ⟨p, 0, none⟩), vl] w fun e w' => ∃ A c, e = .returned (.slice A (castsL s l).length c) ∧ Rd CastAt 2 w'.heap.size w' (.slice A (castsL s l).length c) (castsL s l) ∧ KeepM bm w w' ∧ MapAt (castP s) w' bm ∧ SlFrom w.heap.size (.slice A (castsL s l).length c) := by
  obtain ⟨A, cap, rfl, _, _, _⟩ := id hl
  refine calls_of_wp_marks Try.func61 rfl ?_
  simp only [Try.ntmps61, List.size_toArray, List.length_cons, List.length_nil, Nat.reduceAdd, Nat.reduceSub, Array.replicate_succ,
     Array.replicate_zero, List.push_toArray, List.append_toArray, List.nil_append, List.cons_append]
  obtain ⟨W1, hW1, r1, z1, d1⟩ := box_any w #[.pointer (some ⟨p, 0, none⟩)] 84
  obtain ⟨W2, hW2, r2, z2, d2⟩ := box_any W1 #[.slice none 0 0] 130
  obtain ⟨W3, hW3, r3, z3, d3⟩ := box_any W2 #[.int .i64 0, .int .i64 0, .int .i64 0] 93
  rw [z1] at r2 z2 d2
  rw [z2] at r3 z3 d3
  have r1' := (d3.block _ (by omega)).trans ((d2.block _ (by omega)).trans r1)
  have r2' := (d3.block _ (by omega)).trans r2
  have c0 := cellOf r1' 0 (v := .pointer (some ⟨p, 0, none⟩)) rfl
  have hb := Lib.hid (show Below w.heap.size w W3 from d1.trans ((d2.mono (by omega)).trans (d3.mono (by omega))))
  have R1 := Lib.hid r1'
  have R2 := Lib.hid r2'
  have R3 := Lib.hid r3
  have Z3 := Lib.hid z3
  have Hl := Lib.hid hl
  have Hs := Lib.hid hs
  go_upto_region 3 with (fail)
  rw [← hW1, ← hW2, ← hW3]
  clear hW1 hW2 hW3 d1 d2 d3 z1 z2 z3 r1 r2 r3 r1' r2' hl hs
  go_wp2_with (go_at_call 56; refine (days_any _ _ _ _ _).mono ?_; rintro e w' ⟨rfl, rfl⟩)
  refine days_law (w0 := w) (w := W3) Hs.out Hl.out hB hg hf (.of_below hb.out) (Hs.out.map.below hb.out) rfl rfl
    (PlanE s l p w.heap.size (W3.heap.size + 2)) (fun _ _ => False) ?hE (fun _ _ _ h _ => h) rfl ?h0 ?hround ?hdone (fun _ _ _ _ _ _ h _ => h.elim)
  case hE => exact fun k A B h hc => h.stays hc (by have := Z3.out; omega)
  case h0 =>
    have e : ∀ i, i < W3.heap.size → ((W3.alloc (.cells #[.pointer (some ⟨p, 0, none⟩)] 84)).alloc (.cells #[.slice A l.length cap] 24)).heap[i]? = W3.heap[i]? := fun i hi =>
      (Below.heap_alloc _ _ _ (by simp; omega)).trans (Below.heap_alloc _ _ _ hi)
    have hz := Z3.out
    refine ⟨(e _ (by omega)).trans R1.out, ?_, none, 0, (e _ (by omega)).trans R2.out, Own.nil _ _ _, by simp [listTo], by omega⟩
    exact ArrAt.congr (f := fun _ => 0) ((e _ (by omega)).trans R3.out) fun i _ => by simp [before]
  case hround =>
    intro r k W hk h1 h2 h3 hsz hr1 hr2
    have Hel := Lib.hid (show dayEl s l k = #[.int .i64 k, encP (castP s fun i => due l i k)] from rfl)
    rw [Hel.out]
    obtain ⟨f, hfe⟩ : ∃ f : Nat → Int, f = castP s (fun i => due l i k) := ⟨_, rfl⟩
    have hf1 : ∀ i, f i = if i < s.parts.length then before s l (k + 1) i else 0 := fun i => by rw [hfe]; unfold castP before byy; simp
    rw [← hfe]
    have Hf1 := Lib.hid hf1
    clear hfe hf1
    generalize hT : Array.foldl _ _ _ = T
    simp [encP] at hT
    subst hT
    obtain ⟨W4, hW4, r4, z4, d4⟩ := box_any W #[.int .i64 (f 0), .int .i64 (f 1), .int .i64 (f 2)] 93
    gi_wp2
    rw [← hW4]
    clear hW4
    have h3' : PlanE s l p w.heap.size (W3.heap.size + 2) k W4 := h3.stays (S := W.heap.size) (fun b c t f _ hc => (d4.block b (lt_of_block hc)).trans hc) (by have := Z3.out; omega)
    refine ⟨(NC.refl W).of_below d4, fun W₂ hb2 hz2 => ?_⟩
    have hk2 : KeepM bm w W₂ := (h1.trans (.of_below d4)).book hb2 (by have := Z3.out; omega)
    have hm2 : MapAt (castP s) W₂ bm := (h2.below d4).book hb2
    have h32 : PlanE s l p w.heap.size (W3.heap.size + 2) k W₂ := h3'.stays (S := W.heap.size) hb2.stays (by have := Z3.out; omega)
    have hA2 : ArrAt W₂ W.heap.size f := hb2.data _ _ r4 rfl
    have hsl : W₂.heap[W3.heap.size]? = W.heap[W3.heap.size]? ∧ W₂.heap[W3.heap.size + 1]? = W.heap[W3.heap.size + 1]? :=
      ⟨(hb2.below.block _ (by omega)).trans (d4.block _ (by omega)), (hb2.below.block _ (by omega)).trans (d4.block _ (by omega))⟩
    have hdk : ∀ (b : Nat) (cs : Array Value) (fz : Nat × Nat), W.heap[b]? = some (.cells cs 93 fz) → W₂.heap[b]? = some (.cells cs 93 fz) := fun b cs fz hc => hb2.data _ _ ((d4.block b (lt_of_block hc)).trans hc) rfl
    clear hb2 d4 h1 h2 h3 h3' r4 z4
    obtain ⟨A2, c2, l1, l2, l3, l4⟩ := h32.list
    have hb0 := h32.b0
    have harr := h32.arr
    obtain ⟨g, hge⟩ : ∃ g : Nat → Int, g = (fun i => if i < s.parts.length then before s l k i else 0) := ⟨_, rfl⟩
    rw [← hge] at harr
    have hg1 : ∀ i, g i = if i < s.parts.length then before s l k i else 0 := fun i => by rw [hge]
    have Hg1 := Lib.hid hg1
    clear hge hg1 h32
    have f0 := hA2.cell (i := 0) (by omega)
    have f1 := hA2.cell (i := 1) (by omega)
    have f2 := hA2.cell (i := 2) (by omega)
    have g0 := harr.cell (i := 0) (by omega)
    have g1 := harr.cell (i := 1) (by omega)
    have g2 := harr.cell (i := 2) (by omega)
    have hq := run_eql93 f g W₂
    unfold encP at hq
    have HK := Lib.hid hk2
    have HM := Lib.hid hm2
    have HA := Lib.hid hA2
    have HAr := Lib.hid harr
    have HL1 := Lib.hid l1
    have HL2 := Lib.hid l2
    have HSL := Lib.hid hsl
    have HDK := Lib.hid hdk
    have Hb0 := Lib.hid hb0
    clear hk2 hm2 hA2 harr l1 l2 hsl hdk hb0
    by_cases heq : (f 0 == g 0 && (f 1 == g 1 && f 2 == g 2)) = true
    · rw [heq] at hq
      have Heq := Lib.hid heq
      clear heq
      gi_wp2
      have heq : f 0 = g 0 ∧ f 1 = g 1 ∧ f 2 = g 2 := by simpa using Heq.out
      have hfg : ∀ i, i < 3 → f i = g i := fun i hi => by
        match i, hi with
        | 0, _ => exact heq.1
        | 1, _ => exact heq.2.1
        | 2, _ => exact heq.2.2
      have hpl := hg.plen
      have hnil : listTo s l (k + 1) = listTo s l k := by
        rw [listTo_succ, news_nil _ fun i hi => ?_, List.append_nil]
        have h1 := Hf1.out i
        have h2 := Hg1.out i
        rw [if_pos hi] at h1 h2
        have := hfg i (by omega)
        rw [newBy_before]
        omega
      refine ⟨NC.refl _, ⟨HK.out, HM.out, HSL.out, ⟨Hb0.out, ?_, ?_⟩⟩, fun b cs fz _ hc => HDK.out _ _ _ hc⟩
      · exact ArrAt.congr HAr.out fun i hi => by rw [← hfg i hi, Hf1.out i]
      · rw [hnil]
        exact ⟨A2, c2, HL1.out, HL2.out, l3, l4⟩
    · have heq : (f 0 == g 0 && (f 1 == g 1 && f 2 == g 2)) = false := by simpa using heq
      rw [heq] at hq
      clear heq
      have c0 := cellOf Hb0.out 0 (v := .pointer (some ⟨p, 0, none⟩)) rfl
      obtain ⟨Ap, cp, m1, hpp⟩ := shopAt_parts (Hs.out.keep HK.out HM.out)
      have hpl := hg.plen
      clear hpp
      have HL := Lib.hid (show ListAt w.heap.size (W3.heap.size + 2) (listTo s l k ++ newsOf s l k 0) W₂ by
        rw [show newsOf s l k 0 = [] from rfl, List.append_nil]; exact ⟨A2, c2, HL1.out, HL2.out, l3, l4⟩)
      have HLc := Lib.hid HL1.out
      clear HL1 HL2 l3 l4
      gi_wp2
      clear hq c0 m1 f0 f1 f2 g0 g1 g2
      gi_loopw [27] (fun i wr => ∃ j : Nat, j ≤ s.parts.length ∧ i = .int .i64 j ∧ RS w.heap.size (W3.heap.size + 2) W₂ wr ∧ ListAt w.heap.size (W3.heap.size + 2) (listTo s l k ++ newsOf s l k j) wr) (fun i _ => s.parts.length - (intOf i).toNat)
      case atStart => exact ⟨0, Nat.zero_le _, rfl, RS.refl _ _ _, HL.out⟩
      case round =>
        clear HL
        obtain ⟨j, hj, rfl, hrs, hli⟩ := hrel
        have hz3 := Z3.out
        by_cases hlt : j < s.parts.length
        · have e1 := (hrs.arr HA.out (by omega)).cell (i := j) (by omega)
          have e2 := (hrs.arr HAr.out (by omega)).cell (i := j) (by omega)
          have hfj := Hf1.out j
          have hgj := Hg1.out j
          rw [if_pos hlt] at hfj hgj
          rw [hfj] at e1
          rw [hgj] at e2
          have hnb := newBy_before s l k j
          have hnb2 := newBy_bd hg hf hlt k
          have hb1 := before_bd hg hf hlt (k + 1)
          have hb2 := before_bd hg hf hlt k
          have Hns := Lib.hid (newsOf_succ s l k j)
          obtain ⟨nb, hnbn⟩ := Int.eq_ofNat_of_zero_le hnb2.1
          have hdiff : before s l (k + 1) j - before s l k j = nb := by omega
          rw [hnbn, show ((nb : Int)).toNat = nb by simp] at Hns
          have Hrs := Lib.hid hrs
          have Hli := Lib.hid hli
          clear hfj hgj hnb hnbn hrs hli hz3
          generalize before s l (k + 1) j = x1 at *
          generalize before s l k j = x2 at *
          gi_wp2
          refine round_region_read (by kernel_rfl) (by kernel_rfl) ?_
          repeat (first | go_big_quiet_step (fail) | quiet_step (fail))
          refine wpQuiet_nil ?_
          rintro _ ⟨nn, rfl⟩
          have hrs0 : RS w.heap.size (W3.heap.size + 2) W₂ (wr.drewN nn) := ⟨Hrs.out.os, Hrs.out.tape, Hrs.out.output, Hrs.out.size, Hrs.out.low, Hrs.out.obj⟩
          have hli0 : ListAt w.heap.size (W3.heap.size + 2) (listTo s l k ++ newsOf s l k j ++ List.replicate 0 ((j : Int), (k : Int))) (wr.drewN nn) := by
            rw [List.replicate_zero, List.append_nil]; exact Hli.out
          have Hlb := Lib.hid (list_bd hg hf k)
          have hnb3 : nb ≤ 450 := by omega
          have hlen0 : (newsOf s l k j).length ≤ 1350 := by
            have h1 := list_bd hg hf (k + 1)
            rw [listTo_succ, List.length_append] at h1
            have h2 : (newsOf s l k j).length ≤ (newsOf s l k s.parts.length).length := by
              unfold newsOf
              obtain ⟨m, hm⟩ : ∃ m, s.parts.length = j + m := ⟨s.parts.length - j, by omega⟩
              rw [hm, List.range_add, List.flatMap_append, List.length_append]
              omega
            omega
          have Hln := Lib.hid hlen0
          clear hlen0
          obtain ⟨wz, hwz⟩ : ∃ wz, wz = wr.drewN nn := ⟨_, rfl⟩
          rw [← hwz] at hrs0 hli0
          rw [← hwz]
          clear hwz e1 e2 Hrs Hli
          gi_wp2
          gi_loopw [37] (fun i wy => ∃ c : Nat, c ≤ nb ∧ i = .int .i64 c ∧ RS w.heap.size (W3.heap.size + 2) W₂ wy ∧ ListAt w.heap.size (W3.heap.size + 2) (listTo s l k ++ newsOf s l k j ++ List.replicate c ((j : Int), (k : Int))) wy) (fun i _ => nb - (intOf i).toNat)
          case atStart => exact ⟨0, Nat.zero_le _, rfl, hrs0, hli0⟩
          case round =>
            clear hrs0 hli0
            obtain ⟨c, hc1, rfl, hrs, hli⟩ := hrel
            by_cases hcl : c < nb
            · obtain ⟨A5, c5, q1, q2, q3, q4⟩ := hli
              have hsz5 : W3.heap.size + 2 ≤ wr.heap.size := by have := hrs.size; have := lt_of_block HA.out; omega
              obtain ⟨A6, c6, w6, hrun, hown6, hbl6, hsz6, hc6, hc6', hgt6, hst6⟩ := append_need2 q2 ((j : Int), (k : Int)) (by have := Hlb.out; have := Hln.out; simp [List.length_append]; omega) hsz5
              have q1' := (hbl6.block _ (by have := Z3.out; omega)).trans q1
              have p5 := cellOf q1 0 (v := .slice A5 _ c5) rfl
              have p5' := cellOf q1' 0 (v := .slice A5 _ c5) rfl
              have p5f : w6.frozen? ⟨w.heap.size + 1, 0, none⟩ = false := by simp [World.frozen?, q1']
              have Hrs6 := Lib.hid (hrs.trans (RS.of_append hbl6 hst6))
              have Hown6 := Lib.hid hown6
              have Hq1 := Lib.hid q1'
              generalize hnx : (listTo s l k ++ newsOf s l k j ++ List.replicate c ((j : Int), (k : Int))).length = nx at *
              have Hnx := Lib.hid hnx
              clear hnx
              clear hbl6 hst6 hown6 q1 q1' q2 hrs
              gi_wp2_with (gi_at_builtin; refine wpListIn_append_run rfl _ _ _ rfl rfl rfl hrun ?_)
              go_roundw
              case rel =>
                refine ⟨c + 1, by omega, by go_num, Hrs6.out.trans (RS.set_ _ _ _ _), ?_⟩
                have e : listTo s l k ++ newsOf s l k j ++ List.replicate (c + 1) ((j : Int), (k : Int)) = (listTo s l k ++ newsOf s l k j ++ List.replicate c ((j : Int), (k : Int))) ++ [((j : Int), (k : Int))] := by
                  rw [List.replicate_succ', ← List.append_assoc]
                unfold ListAt
                rw [e, List.length_append, Hnx.out, List.length_singleton]
                exact ⟨A6, c6, one_set Hq1.out, Hown6.out.other (by simp; have := Z3.out; omega) _, hc6, hc6'⟩
              case measure => simp [intOf]; omega
            · obtain rfl : c = nb := by omega
              have hli2 : ListAt w.heap.size (W3.heap.size + 2) (listTo s l k ++ newsOf s l k (j + 1)) wr := by
                rw [Hns.out, ← List.append_assoc]; exact hli
              clear hli
              gi_wp2
              go_roundw
              case rel => exact ⟨j + 1, by omega, by go_num, hrs, hli2⟩
              case measure => simp [intOf]; omega
        · have hj2 : j = s.parts.length := by omega
          have hAw := hrs.arr HA.out (by have := HK.out.size; have := lt_of_block HAr.out; omega)
          have hGw := hrs.arr HAr.out (by omega)
          have f0 := hAw.cell (i := 0) (by omega)
          have f1 := hAw.cell (i := 1) (by omega)
          have f2 := hAw.cell (i := 2) (by omega)
          have k0 := hGw.cell (i := 0) (by omega)
          have k1 := hGw.cell (i := 1) (by omega)
          have k2 := hGw.cell (i := 2) (by omega)
          have kf0 := hGw.frozen 0
          have kf1 := hGw.frozen 1
          have kf2 := hGw.frozen 2
          have Hrs := Lib.hid hrs
          have Hli := Lib.hid hli
          have HGw := Lib.hid hGw
          clear hrs hli hAw hGw hz3
          gi_wp2
          have hz3 := Z3.out
          have hbmlt : bm < w.heap.size := by
            obtain ⟨es, clk, hm, _⟩ := Hs.out.map
            exact lt_of_block hm
          have hwx := Hrs.out
          refine ⟨(((hwx.nc HLc.out).setCell _ _).setCell _ _).setCell _ _, ⟨?_, ?_, ⟨?_, ?_⟩, ⟨?_, ?_, ?_⟩⟩, ?_⟩
          · exact (((hwx.keep HK.out rfl (by omega)).setCell (p := ⟨w.heap.size + 1 + 1, 0, none⟩) (by simp; omega) _).setCell (p := ⟨w.heap.size + 1 + 1, 1, none⟩) (by simp; omega) _).setCell (p := ⟨w.heap.size + 1 + 1, 2, none⟩) (by simp; omega) _
          · exact (((hwx.map HM.out (by omega)).setCell _ _).setCell _ _).setCell _ _
          · exact (set3_heap _ (by omega) _ _ _).trans ((hwx.low _ (by omega) (by omega)).trans HSL.out.1)
          · exact (set3_heap _ (by omega) _ _ _).trans ((hwx.low _ (by omega) (by omega)).trans HSL.out.2)
          · exact (set3_heap _ (by omega) _ _ _).trans ((hwx.low _ (by omega) (by omega)).trans Hb0.out)
          · exact ArrAt.congr (HGw.out.set3 (g := f)) fun i _ => Hf1.out i
          · obtain ⟨A7, c7, q1, q2, q3⟩ := Hli.out
            rw [hj2, ← listTo_succ] at q1 q2 q3
            exact ⟨A7, c7, (set3_heap _ (by omega) _ _ _).trans q1, ((q2.other (by simp; omega) _).other (by simp; omega) _).other (by simp; omega) _, q3⟩
          · intro b cs fz hb hc
            exact (set3_heap _ (by omega) _ _ _).trans (hwx.obj _ _ (HDK.out _ _ _ hc) (by omega) (fun c f e => by cases e))
  case hdone =>
    intro d W hd h1 h2 h3 hk
    have hz3 := Z3.out
    obtain ⟨A2, c2, l1, l2, l3, l4⟩ := h3.list
    have ho := list_inOrder hg hf hc
    have hmem := fun x (hx : x ∈ listTo s l s.hours.length) => list_mem hx
    have hcl := castsL_eq s l
    generalize listTo s l s.hours.length = xs at *
    have hrd : Rd CastAt 2 W.heap.size W (.slice A2 xs.length c2) xs := l2.rd
    have Hq := Lib.hid (sort85 hrd (Nat.le_refl _) ho)
    have c0 := cellOf h3.b0 0 (v := .pointer (some ⟨p, 0, none⟩)) rfl
    have c1 := cellOf l1 0 (v := .slice A2 xs.length c2) rfl
    have Hk := Lib.hid hk
    have H1 := Lib.hid h1
    have H2 := Lib.hid h2
    have Hrd := Lib.hid hrd
    have Hcl := Lib.hid hcl
    have Hmem := Lib.hid hmem
    have hlen := ho.len
    clear h1 h2 h3 l1 l2 hk hrd hcl hmem ho hz3
    simp only [Exit.inBlock, Exit.then]
    go_upto_region 17 with (go_at_call 85; refine Hq.out.mono ?_; rintro e wx ⟨⟨v, rfl⟩, hbx⟩)
    have c0 := (hbx.cell (cell_lt c0)).trans c0
    have c1 := (hbx.cell (cell_lt c1)).trans c1
    obtain ⟨W5, hW5, r5, z5, d5⟩ := box_any wx #[.int .i64 0] 3
    have c0 := (d5.cell (cell_lt c0)).trans c0
    have c1 := (d5.cell (cell_lt c1)).trans c1
    go_upto_region 18 with (fail)
    rw [← hW5]
    have hb5 : Below W.heap.size W W5 := hbx.trans (d5.mono hbx.size)
    have Hb5 := Lib.hid hb5
    have R5 := Lib.hid r5
    have C0 := Lib.hid c0
    have HszW := Lib.hid (show W.heap.size ≤ wx.heap.size from hbx.size)
    have Z5 := Lib.hid z5
    clear hW5 hbx d5 hb5 r5 z5 c0
    go_wp2
    clear c1
    go_loopw [4, 52] (fun a i wr => ∃ (k : Nat) (A9 : Option Addr) (c9 : Nat), k ≤ xs.length ∧ i = .int .i64 k ∧ a = .slice A9 k c9 ∧
      wr.heap[wx.heap.size]? = some (.cells #[.int .i64 (usedOf s (xs.take k))] 3) ∧ Own (wx.heap.size + 1) 55 wr (.slice A9 k c9) (castsC s 0 (xs.take k)) ∧ Below wx.heap.size W5 wr ∧ wx.heap.size + 1 ≤ wr.heap.size) (fun _ i _ => xs.length - (intOf i).toNat)
    case atStart => exact ⟨0, none, 0, Nat.zero_le _, rfl, rfl, R5.out, Own.nil _ _ _, Below.refl _ _, by have := Z5.out; omega⟩
    case round =>
      obtain ⟨k, A9, c9, hk9, rfl, rfl, hu, hown, hbr, hsz9⟩ := hrel
      by_cases hlt : k < xs.length
      · have hbW : Below W.heap.size W wr := Hb5.out.trans (hbr.mono HszW.out)
        obtain ⟨ad, rfl, _⟩ := (Hrd.out.below hbW).cast hlt
        obtain ⟨x0, x1⟩ := cmpAt (Hrd.out.below hbW) hlt
        have hsn := usedOf_snoc s (xs.take k) (xs[k]?.getD default)
        have hcs := castsC_snoc s (xs[k]?.getD default) (xs.take k) 0
        have htk : xs.take (k + 1) = xs.take k ++ [xs[k]?.getD default] := by rw [take_succ_getD hlt default, List.getD_eq_getElem?_getD]
        have hxm := Hmem.out (xs[k]?.getD default) (by rw [← List.getD_eq_getElem?_getD]; exact getD_mem hlt default)
        have hub := usedOf_bd hg (xs := xs.take k) fun y hy => by have := Hmem.out y (List.mem_of_mem_take hy); omega
        have hul : (xs.take k).length = k := by rw [List.length_take]; omega
        rw [← htk] at hsn hcs
        rw [Int.zero_add] at hcs
        have hclen : (castsC s 0 (xs.take k)).length = k := by rw [castsC_len, hul]
        generalize xs[k]?.getD default = x at *
        obtain ⟨xi, xd⟩ := x
        simp only at x0 x1 hxm
        obtain ⟨q, rfl⟩ := Int.eq_ofNat_of_zero_le hxm.2.2.1
        have hq : q < s.parts.length := by omega
        have hshop := (Hs.out.keep H1.out H2.out).below hbW
        obtain ⟨⟨vh, vp, vo, vu, hpb, hhr, hpr, _⟩, _⟩ := id hshop
        obtain ⟨Ah, ch, rfl, _⟩ := id hhr
        obtain ⟨Ap, cp, rfl, _⟩ := id hpr
        obtain ⟨ap, rfl, _, _, _, g2, _⟩ := hpr.part hq
        have hlong := (hg.part hq).long
        have hlo : longOf s ((q : Int), xd) = (s.parts[q]?.getD default).long := by simp [longOf, List.getD_eq_getElem?_getD]
        rw [List.getD_eq_getElem?_getD] at hlong
        rw [hlo] at hsn hcs
        have Hsn := Lib.hid hsn
        have Hcs := Lib.hid hcs
        generalize s.parts[q]?.getD default = pp at *
        generalize usedOf s (xs.take k) = us at *
        have Hshop := Lib.hid hshop
        have hplen := hg.plen
        have hhlen := hg.hlen
        obtain ⟨W8, hW8, r8, z8, d8⟩ := box_any wr #[.int .i64 q, .int .i64 xd] 132
        have hwlt : w.heap.size < wx.heap.size := by have := lt_of_block Hk.out; have := HszW.out; have := Z3.out; omega
        have c0 := (hbr.cell hwlt).trans C0.out
        have c0 := (d8.cell (cell_lt c0)).trans c0
        have u0 := (d8.block _ (lt_of_block hu)).trans hu
        have u1 := cellOf u0 0 (v := .int .i64 us) rfl
        have uf : W8.frozen? ⟨wx.heap.size, 0, none⟩ = false := by simp [World.frozen?, u0]
        have g2 := (d8.cell (cell_lt g2)).trans g2
        have hpb := (d8.block _ (lt_of_block hpb)).trans hpb
        have m0 := cellOf hpb 0 (v := .slice Ah s.hours.length ch) rfl
        have m1 := cellOf hpb 1 (v := .slice (some ap) s.parts.length cp) rfl
        have e0 := cellOf r8 0 (v := .int .i64 q) rfl
        have hub2 : us ≤ 48000 := by omega
        have hub3 : 0 ≤ us := by omega
        have hul2 : wx.heap.size < wr.heap.size := lt_of_block hu
        have Hu := Lib.hid hu
        have Hown := Lib.hid hown
        have Hbr := Lib.hid hbr
        have HbW := Lib.hid hbW
        have Hcl9 := Lib.hid hclen
        have R8 := Lib.hid r8
        have Z8 := Lib.hid z8
        have D8 := Lib.hid d8
        have U0 := Lib.hid u0
        clear hu hown hbr hbW hclen r8 z8 d8 u0 hpb hhr hpr hshop hsn hcs htk hul hxm hlo hub
        go_upto_region 21 with (fail)
        rw [← hW8]
        clear hW8 x0 x1
        refine region_quiet_tail (C := fun w' => ∃ n, w' = W8.drewN n) 12 (by kernel_rfl) (by kernel_rfl) ⟨1, rfl⟩ ?_
        simp only [List.take_succ_cons, List.take_zero, List.drop_succ_cons, List.drop_zero]
        repeat (first | go_big_quiet_step (fail) | quiet_step (fail))
        refine wpQuiet_nil ?_
        rintro _ ⟨n1, rfl⟩
        have hb8 : Below wx.heap.size W5 (W8.drewN n1) := below_drewN (Hbr.out.trans (D8.out.mono (by omega))) n1
        obtain ⟨wz, hwz⟩ : ∃ wz, wz = (W8.drewN n1).setCell ⟨wx.heap.size, 0, none⟩ (.int .i64 (us + pp.long)) := ⟨_, rfl⟩
        have hbz : Below wx.heap.size W5 wz := by rw [hwz]; exact hb8.setCell (p := ⟨wx.heap.size, 0, none⟩) (Nat.le_refl _) _
        have hszz : wz.heap.size = wr.heap.size + 1 := by rw [hwz]; have := Z8.out; simpa [World.setCell] using this
        have huz : wz.heap[wx.heap.size]? = some (.cells #[.int .i64 (us + pp.long)] 3) := by rw [hwz]; exact one_set U0.out
        have hxz : wz.heap[wr.heap.size]? = some (.cells #[.int .i64 q, .int .i64 xd] 132) := by
          rw [hwz, Below.heap_setCell _ _ _ _ (by simp; omega)]
          exact R8.out
        have hownz : Own (wx.heap.size + 1) 55 wz (.slice A9 k c9) (castsC s 0 (xs.take k)) := by
          rw [hwz]
          exact ((Hown.out.below D8.out).qt ⟨n1, rfl⟩).other (by simp) _
        go_upto_region 22 with (fail)
        rw [← hwz]
        clear hwz hb8
        have hps : p < w.heap.size := by obtain ⟨⟨_, _, _, _, g, _⟩, _⟩ := Hs.out; exact lt_of_block g
        have hms : bm < w.heap.size := by obtain ⟨_, _, _, g, _⟩ := Hs.out; exact lt_of_block g
        have hshz : ShopAt B wz p bm s := ((Hs.out.keep H1.out H2.out).below Hb5.out).belowS hbz (by omega) (by omega) (by omega)
        have c0z := (hbz.cell hwlt).trans C0.out
        have uz := cellOf huz 0 (v := .int .i64 (us + pp.long)) rfl
        have xz := cellOf hxz 0 (v := .int .i64 q) rfl
        obtain ⟨⟨vh, vp, vo, vu, hpb, hhr, _⟩, _⟩ := id hshz
        obtain ⟨Az, cz, rfl, _⟩ := id hhr
        have mz := cellOf hpb 0 (v := .slice Az s.hours.length cz) rfl
        have hle : ∀ n, Calls Try.prog 65 #[.int .i64 s.hours.length, .func (.func 87) #[] #[.pointer (some ⟨w.heap.size, 0, none⟩), .pointer (some ⟨wx.heap.size, 0, none⟩)]] (wz.drewN n) fun e w' => e = .returned (.int .i64 (done s (us + pp.long))) ∧ ∃ m, w' = wz.drewN m := fun n =>
          least87 s.hours.length (by omega) (fun k => decide (us + pp.long ≤ worked s k)) _ _ (fun w' => ∃ m, w' = wz.drewN m) _ ⟨n, rfl⟩ fun k hk w1 h1 => by
            obtain ⟨m, rfl⟩ := h1
            refine (c87_any (hshz.below (below_drewN (Below.refl _ _) m)) hg (a := ⟨w.heap.size, 0, none⟩) (b := ⟨wx.heap.size, 0, none⟩) c0z uz k hk).mono ?_
            rintro e w' ⟨he, n2, rfl⟩
            exact ⟨he, _, by rw [World.drewN_drewN]⟩
        have Hle := Lib.hid hle
        have Hwz := Lib.hid hownz
        have Hbz := Lib.hid hbz
        have Huz := Lib.hid huz
        have Hszz := Lib.hid hszz
        clear hle hownz hbz huz hszz hxz hpb hhr hshz c0 u1 uf m0 m1 e0 g2 uz
        generalize done s (us + pp.long) = dn at *
        refine region_move_quiet_tail2 (C := fun w' => ∃ n, w' = wz.drewN n) 12 _ rfl rfl (by kernel_rfl) (by kernel_rfl) ⟨1, rfl⟩ ?_
        simp only [List.take_succ_cons, List.take_zero, List.drop_succ_cons, List.drop_zero, Nat.reduceSub]
        repeat (first | go_big_quiet_step ((go_at_call 65; exact Hle.out _)) | quiet_step ((go_at_call 65; exact Hle.out _)))
        refine wpQuiet_nil ?_
        rintro _ ⟨n2, rfl⟩
        obtain ⟨wq, hwq⟩ : ∃ wq, wq = wz.drewN n2 := ⟨_, rfl⟩
        rw [← hwq]
        have hownq : Own (wx.heap.size + 1) 55 wq (.slice A9 k c9) (castsC s 0 (xs.take k)) := by rw [hwq]; exact Hwz.out.qt ⟨n2, rfl⟩
        have huq : wq.heap[wx.heap.size]? = some (.cells #[.int .i64 (us + pp.long)] 3) := by rw [hwq]; exact Huz.out
        have hbq : Below wx.heap.size W5 wq := by rw [hwq]; exact below_drewN Hbz.out n2
        have hszq : wx.heap.size + 1 ≤ wq.heap.size := by rw [hwq]; have := Hszz.out; show wx.heap.size + 1 ≤ wz.heap.size; omega
        obtain ⟨A6, c6, w6, hrun, hown6, hbl6, hsz6, _⟩ := append_cast hownq ((q : Int), (dn : Int)) (by rw [Hcl9.out]; omega) hszq
        rw [Hcl9.out] at hrun hown6
        have Hown6 := Lib.hid hown6
        have Hu6 := Lib.hid ((hbl6.block _ (by omega)).trans huq)
        have Hb6 := Lib.hid (hbq.trans (hbl6.mono (by omega)))
        have Hs6 := Lib.hid hsz6
        clear hwq hownq huq hbq hszq hown6 hbl6 hsz6 xz c0z mz
        go_wp2_with (at_builtin; refine wpList_append_run rfl _ _ _ rfl rfl rfl hrun ?_)
        refine NoPanic.normal ?_
        simp only [Exit.inBlock, Exit.then]
        go_wp2
        go_roundw
        case rel =>
          refine ⟨k + 1, A6, c6, by omega, by go_num, rfl, ?_, ?_, Hb6.out, Hs6.out⟩
          · rw [Hsn.out]; exact Hu6.out
          · rw [Hcs.out]; exact Hown6.out
        case measure => simp [intOf]; omega
      · have hkn : k = xs.length := by omega
        subst hkn
        rw [List.take_of_length_le (Nat.le_refl _)] at hown hu
        have Hown := Lib.hid hown
        have Hbr := Lib.hid hbr
        clear hown hbr hu
        go_wp2
        have hbW : Below W.heap.size W wr := Hb5.out.trans (Hbr.out.mono HszW.out)
        refine leaves_one rfl ((hbW.block _ (lt_of_block Hk.out)).trans Hk.out) (Nat.le_refl d) fun w' hbk => ?_
        have hs9 := hbk.below.size
        have h2 := (H1.out.trans (.of_below hbW)).book hbk (by have := H1.out.size; have := lt_of_block Hk.out; have := Z3.out; omega)
        refine ⟨_, results_tmp rfl _ _ _, A9, c9, ?_, ?_, h2, (H2.out.below hbW).book hbk, ?_⟩
        · rw [Hcl.out, castsC_len]; rfl
        · have := Hown.out.rd
          rw [Hcl.out, castsC_len]
          exact (this.stay fun b c e f _ hc => hbk.data _ _ hc rfl).mono hs9
        · rw [Hcl.out, castsC_len]
          exact Hown.out.from.mono (by have := lt_of_block Hk.out; have := HszW.out; have := Z3.out; omega)
end Go.Proofs.Ytkmaapkbonkjfaa
namespace Go.Proofs.Ytkmaapkbonkjfaa
open Go.RowKit

/-- orders that were read stay, whatever the castings that are known -/
theorem Rd.keepM {α : Type} {At : World → Addr → α → Prop} [AtKeep At] {sz B bm : Nat} {w w' : World} {v : Value} {xs : List α} (h : Rd At sz B w v xs) (k : KeepM bm w w') {c : (Nat → Int) → Nat → Int} (hm : MapAt c w bm) : Rd At sz B w' v xs :=
  h.stay fun b cs e f _ hc => by obtain ⟨es, clk, hh, _⟩ := hm; exact k.stay hh hc

def PlanR (w : World) (s : ShopR) (t : List Int) (e : Ending) (w' : World) : Prop :=
  ∃ A c, e = .returned (.tuple #[.slice A (planF s t).1.length c, .int .i64 (planF s t).2]) ∧ Rd CastAt 2 w'.heap.size w' (.slice A (planF s t).1.length c) (planF s t).1 ∧ Below w.heap.size w w'
theorem planR_eq {w w' : World} {s : ShopR} {t : List Int} {e : Ending} {l : List (Int × Int)} {n : Int} (h : planF s t = (l, n)) {A : Option Addr} {c : Nat} (he : e = .returned (.tuple #[.slice A l.length c, .int .i64 n])) (hr : Rd CastAt 2 w'.heap.size w' (.slice A l.length c) l) (hb : Below w.heap.size w w') : PlanR w s t e w' := by
  unfold PlanR
  rw [h]
  exact ⟨A, c, he, hr, hb⟩

theorem pplan_any {B : Nat} {w : World} {v vt : Value} {s : ShopR} {t : List Int} (h : Given B w v vt s t) :
    Calls Try.prog 24 #[v, vt] w (PlanR w s t) := by
  obtain ⟨Ah, ch, Ap, cp, Ao, co, At_, ct, rfl, rfl⟩ := h.form
  obtain ⟨W, hW, c0, c1, c2, hz, hb, _⟩ := shop_box w (.slice Ah s.hours.length ch) (.slice Ap s.parts.length cp) (.slice Ao s.orders.length co)
  go_enter Try.func24, Try.ntmps24
  go_upto_region 1 with (fail)
  rw [← hW]
  have hG := Lib.hid (h.below hb)
  have Hb := Lib.hid hb
  clear hW hz hb h
  by_cases he : takenErr s t = 0
  · have hq := Lib.hid (enter_ok hG.out he)
    obtain ⟨_, hg, hf, _⟩ := fit_of he
    have He := Lib.hid he
    clear he
    cases hc : canB s (ofL s t) with
    | false =>
      have e := Lib.hid (show planF s t = ([], 9) by unfold planF; rw [if_neg (by simp [He.out]), hc]; rfl)
      have hc' := Lib.hid hc
      clear hc
      go_wp2_with (first | (go_at_call 52; refine hq.out.mono ?_; rintro e wx ⟨p, bm, A, c, rfl, hE⟩; have HE := Lib.hid hE; clear hE) | (go_at_call 60; refine (pcan_any HE.out.shop HE.out.ls hg hf (Nat.le_refl _)).mono ?_; rw [hc'.out]; rintro e wy ⟨rfl, hk, _⟩; have HK := Lib.hid (Hb.out.trans ((HE.out.after hk).mono Hb.out.size)); clear hk))
      go_ret2
      exact planR_eq e.out rfl (Rd.nil _ _) HK.out
    | true =>
      have e := Lib.hid (show planF s t = (castsL s (ofL s t), 0) by unfold planF; rw [if_neg (by simp [He.out]), hc]; rfl)
      have hc' := Lib.hid hc
      clear hc
      go_wp2_with (first | (go_at_call 52; refine hq.out.mono ?_; rintro e wx ⟨p, bm, A, c, rfl, hE⟩; have HE := Lib.hid hE; clear hE) | (go_at_call 60; refine (pcan_any HE.out.shop HE.out.ls hg hf (Nat.le_refl _)).mono ?_; rw [hc'.out]; rintro e wy ⟨rfl, hk, hm⟩; have HK := Lib.hid hk; have HM := Lib.hid hm; clear hk hm) | (go_at_call 61; refine (plan_any (HE.out.shop.keep HK.out HM.out) (HE.out.ls.keepM HK.out HE.out.shop.map) hg hf hc'.out HK.out.size).mono ?_; rintro e wz ⟨A3, c3, rfl, hr3, hk3, _⟩; have HR := Lib.hid hr3; have HK3 := Lib.hid hk3; clear hr3 hk3))
      go_ret2
      exact planR_eq e.out rfl HR.out (Hb.out.trans ((HE.out.after (HK.out.trans HK3.out)).mono Hb.out.size))
  · have hq := Lib.hid (enter_bad hG.out he)
    have e := Lib.hid (show planF s t = ([], takenErr s t) by unfold planF; rw [if_pos he])
    have hne : (takenErr s t != 0) = true := by simpa using he
    clear he
    go_wp2_with (go_at_call 52; refine hq.out.mono ?_; rintro e wx ⟨rfl, hbx⟩)
    go_ret2
    exact planR_eq e.out rfl (Rd.nil _ _) (Hb.out.trans (hbx.mono Hb.out.size))
end Go.Proofs.Ytkmaapkbonkjfaa
