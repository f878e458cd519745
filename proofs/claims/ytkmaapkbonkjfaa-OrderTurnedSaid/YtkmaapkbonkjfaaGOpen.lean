/- The last step of a claim of the layer order: a law returned true, and left all that there was. What a law of the layer order is given, read out of memory. -/
import Derived.Test.YtkmaapkbonkjfaaProg
import Derived.Below
import Derived.ChangeSame
import Derived.ProofKit
import Derived.OpenShut
import Derived.Test.YtkmaapkbonkjfaaGEnter
import Derived.Deep.Slices
import Derived.Deep.Fields
import Derived.Lib.SmallJoins
import Derived.Carry
import Derived.WideKeyArgs
set_option linter.unusedSimpArgs false
set_option linter.unusedVariables false
namespace Go.Proofs.Ytkmaapkbonkjfaa
open Go.RowKit Go.WideShapes Go.ChangeShapes Go.ChangeAt

theorem ownX : ownKnob Try.prog.godebug = none := by kernel_rfl

set_option maxRecDepth 100000 in
/-- A call that returned true and left every old block as it was meets the specification that says so. -/
theorem post_true {H : Type} {enc : TypeId × Value → H} {f : Func} {s : ChangeSpec} {apart fresh handsOn again : Bool} {W W' : World} {args : Array Value} {ds gs : List (DataW H)} {before pa pv : List MemPlace}
    (hW : DataW.Whole enc Try.prog f.params.toList s.vars apart W args.toList ds gs before) (hf : f.resultTypes = #[4]) (hs : (s.fn H (ds ++ gs)).results = [.lit (.bool true)]) (hb : Below W.heap.size W W')
    (hargs : ∀ sp : Nat → Bool, (∀ p ∈ before, sp p.block = true) → DataW.TrodAll enc Try.prog W' 0 sp true f.params.toList args.toList (s.fn H (ds ++ gs)).args pa)
    (hvars : ∀ sp : Nat → Bool, (∀ p ∈ before, sp p.block = true) → DataW.TrodVars enc Try.prog W' sp s.vars (s.fn H (ds ++ gs)).vars pv) (hps : before = pa ++ pv) :
    s.post enc Try.prog f apart fresh handsOn again W args (.bool true) W' := by
  have old : ∀ p ∈ before, p.block < W.heap.size := fun p hp => hW.lt p hp
  have res : ∀ (b : Nat) (sp : Nat → Bool) (hd : Bool), DataW.TrodAll enc Try.prog W' b sp hd f.resultTypes.toList ((Value.bool true).resultList f.resultTypes.size) (s.fn H (ds ++ gs)).results [] := fun b sp hd => by
    rw [hs, hf]
    exact trodAll_cons_mk (shut_bool Try.underlying4 _) trodAll_mk0
  have seen := hargs (fun b => decide (b < W.heap.size)) fun p hp => decide_eq_true (old p hp)
  have vars := hvars (fun b => decide (b < W.heap.size)) fun p hp => decide_eq_true (old p hp)
  refine ⟨ds, gs, before, [], pa, pv, hW, res _ _ _, seen, vars, World.keptBut_mono (fun p hp => ⟨hp, .inr ?_⟩) (hb.frame (· ∈ before)), fun _ => ?_⟩
  · exact List.mem_append.1 (hps ▸ hp)
  · obtain ⟨_, _, _, _, _, frozen, apart'⟩ := hW
    have whole : [] ++ pa ++ pv = before := by rw [hps, List.nil_append]
    refine ⟨?_, _, _, [] ++ pa ++ pv, ⟨[] ++ pa, pv, trodAll_append (hargs _ fun _ _ => rfl) (res _ _ _), hvars _ fun _ _ => rfl, rfl, ?_, ?_⟩, fun p hp _ => whole ▸ hp⟩
    · exact ok_one hf rfl (okWide_bool_mk Try.underlying4 _)
    · intro b off hp
      rw [whole] at hp
      exact (hb.frozen (p := ⟨b, off, none⟩) (old _ hp)).trans (frozen b off hp)
    · intro ha
      rw [whole]
      exact apart' ha
end Go.Proofs.Ytkmaapkbonkjfaa
namespace Go.Proofs.Ytkmaapkbonkjfaa
open Go.RowKit Go.WideShapes Go.ChangeShapes Go.ChangeAt Go.Deep Go.Joins

section
variable {H : Type} {enc : TypeId × Value → H} {W : World} {base : Nat} {sp : Nat → Bool} {held : Bool}

theorem rd_open {α : Type} {At : World → Addr → α → Prop} {sz : Nat} [Inhabited α] {Q : α → Prop} {t e : TypeId} (ht : Try.prog.underlying t = some (.slice e)) (hC : Try.prog.cellsOf e = sz) (hsz : 0 < sz)
    (hel : ∀ (a : Addr) (n : Nat) (cs : List Value) (x : DataW H × List MemPlace), (∀ i, i < sz → W.cell? (a.add i) = cs[i]?) → cs.length = sz → DataW.trod enc Try.prog W base sp held n e cs = some x → ∃ y : α, At W a y ∧ Q y)
    {fuel : Nat} {v : Value} {x : DataW H × List MemPlace} (h : DataW.trod enc Try.prog W base sp held fuel t [v] = some x) :
    ∃ xs : List α, Rd At sz W.heap.size W v xs ∧ ∀ y ∈ xs, Q y := by
  rcases open_slice ht h with ⟨h0, _⟩ | ⟨a, len, cap, m, n, D, Pl, hcs, hb, hl, hm, hmm, _, hi⟩
  · injection h0 with h0
    subst h0
    exact ⟨[], Rd.nil _ _, by simp⟩
  · injection hcs with hcs
    subst hcs
    have hlm : len ≤ m := by rw [hmm]; split <;> omega
    have each : ∀ i, i < len → ∃ y : α, (a.block < W.heap.size ∧ At W (a.add (i * sz)) y) ∧ Q y := fun i hi2 => by
      obtain ⟨cs, hc, htr⟩ := hi i (by omega)
      rw [hC] at hc
      obtain ⟨_, hlen, hat⟩ := World.cells?_some hc
      obtain ⟨y, hy, hq⟩ := hel _ _ _ _ hat hlen htr
      have hblk := World.cells?_block hc hsz
      rw [block_add] at hblk
      exact ⟨y, ⟨hblk, hy⟩, hq⟩
    let f : Nat → α := fun i => if hi : i < len then Classical.choose (each i hi) else default
    have hf : ∀ i, i < len → (a.block < W.heap.size ∧ At W (a.add (i * sz)) (f i)) ∧ Q (f i) := fun i hi => by
      have := Classical.choose_spec (each i hi)
      simp only [f, hi, dif_pos]
      exact this
    have hcap : cap ≤ 9223372036854775807 := by unfold maxLen at hm; exact hm
    refine ⟨(List.range len).map f, ⟨some a, cap, by simp, by simpa using hl, hcap, fun i y hy => ?_⟩, fun y hy => ?_⟩
    · rw [List.getElem?_map] at hy
      obtain ⟨j, hj, rfl⟩ := Option.map_eq_some_iff.1 hy
      have hj2 : i < len := by
        have := (List.getElem?_eq_some_iff.1 hj).1
        simpa using this
      rw [List.getElem?_range hj2] at hj
      injection hj with hj
      subst hj
      exact ⟨a, rfl, (hf i hj2).1⟩
    · obtain ⟨i, hi, rfl⟩ := List.mem_map.1 hy
      exact (hf i (by simpa using hi)).2

/-- the j-th field of a struct of one-cell fields, as it reads -/
theorem field_open {e : TypeId} {fs : Array Field} (he : Try.prog.underlying e = some (.struct fs)) (hone : oneCellFields Try.prog fs = true) {n : Nat} {cs : List Value} {x : DataW H × List MemPlace}
    (h : DataW.trod enc Try.prog W base sp held n e cs = some x) (hlen : cs.length = fs.size) {j : Nat} {f : Field} (hj : fs[j]? = some f) :
    ∃ (v : Value) (y : DataW H × List MemPlace) (m : Nat), cs[j]? = some v ∧ DataW.trod enc Try.prog W base sp held m f.type [v] = some y := by
  obtain ⟨ys, m, _, _, _, hyl, hf⟩ := DataW.trod_struct he h
  obtain ⟨ho, hk⟩ := hone_of hone j f hj
  have hjl : j < fs.size := (Array.getElem?_eq_some_iff.1 hj).1
  have h1 := hf j f hj
  rw [ho, hk] at h1
  have e1 : (cs.drop j).take 1 = [cs[j]] := by rw [List.drop_eq_getElem_cons (by omega)]; rfl
  rw [e1] at h1
  exact ⟨cs[j], ys[j], m, List.getElem?_eq_getElem (by omega), h1.trans (List.getElem?_eq_getElem (by omega))⟩

theorem open_ints' {fuel : Nat} {v : Value} {x : DataW H × List MemPlace} (h : DataW.trod enc Try.prog W base sp held fuel 22 [v] = some x) : ∃ xs : List Int, Rd IntAt 1 W.heap.size W v xs := by
  obtain ⟨xs, hr, _⟩ := rd_open (α := Int) (At := IntAt) (sz := 1) (Q := fun _ => True) Try.underlying22 (by kernel_rfl) (by omega) (fun a n cs x hat hlen htr => by
    obtain ⟨k, rfl, _, _⟩ := DataW.trod_int Try.underlying3 htr
    exact ⟨k, by simpa [Addr.add, IntAt] using hat 0 (by omega), trivial⟩) h
  exact ⟨xs, hr⟩
theorem open_ords {fuel : Nat} {v : Value} {x : DataW H × List MemPlace} (h : DataW.trod enc Try.prog W base sp held fuel 24 [v] = some x) : ∃ xs : List OrdR, Rd OrdAt 4 W.heap.size W v xs := by
  obtain ⟨xs, hr, _⟩ := rd_open (α := OrdR) (At := OrdAt) (sz := 4) (Q := fun _ => True) Try.underlying24 (by kernel_rfl) (by omega) (fun a n cs x hat hlen htr => by
    obtain ⟨v0, y0, m0, e0, t0⟩ := field_open Try.underlying60 (by kernel_rfl) htr hlen (j := 0) rfl
    obtain ⟨v1, y1, m1, e1, t1⟩ := field_open Try.underlying60 (by kernel_rfl) htr hlen (j := 1) rfl
    obtain ⟨v2, y2, m2, e2, t2⟩ := field_open Try.underlying60 (by kernel_rfl) htr hlen (j := 2) rfl
    obtain ⟨v3, y3, m3, e3, t3⟩ := field_open Try.underlying60 (by kernel_rfl) htr hlen (j := 3) rfl
    obtain ⟨k0, q0, _, _⟩ := DataW.trod_int Try.underlying3 t0
    obtain ⟨k1, q1, _, _⟩ := DataW.trod_int Try.underlying3 t1
    obtain ⟨k2, q2, _, _⟩ := DataW.trod_int Try.underlying3 t2
    obtain ⟨k3, q3, _, _⟩ := DataW.trod_int Try.underlying3 t3
    cases q0; cases q1; cases q2; cases q3
    refine ⟨⟨k0, k1, k2, k3⟩, ⟨?_, ?_, ?_, ?_⟩, trivial⟩
    · have := hat 0 (by omega); rw [e0] at this; simpa [Addr.add] using this
    · have := hat 1 (by omega); rw [e1] at this; simpa [Addr.add] using this
    · have := hat 2 (by omega); rw [e2] at this; simpa [Addr.add] using this
    · have := hat 3 (by omega); rw [e3] at this; simpa [Addr.add] using this) h
  exact ⟨xs, hr⟩
theorem open_parts {fuel : Nat} {v : Value} {x : DataW H × List MemPlace} (h : DataW.trod enc Try.prog W base sp held fuel 23 [v] = some x) : ∃ xs : List PartR, Rd PartAt 4 W.heap.size W v xs ∧ ∀ p ∈ xs, p.name.size ≤ 9223372036854775807 :=
  rd_open (α := PartR) (At := PartAt) (sz := 4) (Q := fun p => p.name.size ≤ 9223372036854775807) Try.underlying23 (by kernel_rfl) (by omega) (fun a n cs x hat hlen htr => by
    obtain ⟨v0, y0, m0, e0, t0⟩ := field_open Try.underlying57 (by kernel_rfl) htr hlen (j := 0) rfl
    obtain ⟨v1, y1, m1, e1, t1⟩ := field_open Try.underlying57 (by kernel_rfl) htr hlen (j := 1) rfl
    obtain ⟨v2, y2, m2, e2, t2⟩ := field_open Try.underlying57 (by kernel_rfl) htr hlen (j := 2) rfl
    obtain ⟨v3, y3, m3, e3, t3⟩ := field_open Try.underlying57 (by kernel_rfl) htr hlen (j := 3) rfl
    obtain ⟨k0, q0, _, hs⟩ := DataW.trod_string Try.underlying9 t0
    obtain ⟨k1, q1, _, _⟩ := DataW.trod_int Try.underlying3 t1
    obtain ⟨k2, q2, _, _⟩ := DataW.trod_int Try.underlying3 t2
    obtain ⟨k3, q3, _, _⟩ := DataW.trod_int Try.underlying3 t3
    cases q0; cases q1; cases q2; cases q3
    refine ⟨⟨k0, k1, k2, k3⟩, ⟨?_, ?_, ?_, ?_⟩, by unfold maxLen at hs; exact hs⟩
    · have := hat 0 (by omega); rw [e0] at this; simpa [Addr.add] using this
    · have := hat 1 (by omega); rw [e1] at this; simpa [Addr.add] using this
    · have := hat 2 (by omega); rw [e2] at this; simpa [Addr.add] using this
    · have := hat 3 (by omega); rw [e3] at this; simpa [Addr.add] using this) h

set_option maxRecDepth 100000 in
theorem open_shop {r : Reach} {b0 : Nat} {v : Value} {d : DataW H} {p : List MemPlace} (hv : Value.okWide Try.prog W r b0 26 v) (h : DataW.Trod enc Try.prog W base sp held 26 v d p) :
    ∃ s : ShopR, RdShop W.heap.size W v s ∧ ∀ p ∈ s.parts, p.name.size ≤ 9223372036854775807 := by
  obtain ⟨v0, v1, v2, y0, y1, y2, n, rfl, _, _, t0, t1, t2⟩ := open_agg3 Try.underlying26 (by kernel_rfl) (by kernel_rfl) hv h
  obtain ⟨hh, r0⟩ := open_ints' t0
  obtain ⟨pp, r1, hn⟩ := open_parts t1
  obtain ⟨oo, r2⟩ := open_ords t2
  exact ⟨⟨hh, pp, oo⟩, ⟨v0, v1, v2, rfl, r0, r1, r2⟩, hn⟩
set_option maxRecDepth 100000 in
theorem open_taken {r : Reach} {b0 : Nat} {v : Value} {d : DataW H} {p : List MemPlace} (hv : Value.okWide Try.prog W r b0 22 v) (h : DataW.Trod enc Try.prog W base sp held 22 v d p) : ∃ xs : List Int, Rd IntAt 1 W.heap.size W v xs := by
  obtain ⟨A, n, c, rfl⟩ := okWide_slice Try.underlying22 hv
  obtain ⟨fuel, hf⟩ := h
  exact open_ints' hf
end
theorem laidOut : laidOutB Try.prog = true := by kernel_rfl
/-- each argument reads behind the call as it read before -/
theorem args_stay {H : Type} {enc : TypeId × Value → H} {W W' : World} (hb : Below W.heap.size W W') : ∀ {ts : List TypeId} {vs : List Value} {ds : List (DataW H)} {ps : List MemPlace},
    (∀ t ∈ ts, Try.prog.readableRec t = true ∧ t < Try.prog.types.size) → DataW.TrodAll enc Try.prog W 0 (fun _ => true) true ts vs ds ps → (∀ x ∈ ps, x.block < W.heap.size) →
    ∀ sp : Nat → Bool, (∀ x ∈ ps, sp x.block = true) → DataW.TrodAll enc Try.prog W' 0 sp true ts vs ds ps := by
  intro ts
  induction ts with
  | nil => intro vs ds ps _ h _ sp _; cases vs <;> cases ds <;> first | exact h | exact h.elim
  | cons t ts ih =>
    intro vs ds ps ht h hlt sp hsp
    obtain ⟨v, vs', d, ds', p, q, rfl, rfl, rfl, h1, h2⟩ := trodAll_cons h
    obtain ⟨hr, hrow⟩ := ht t (by simp)
    refine ⟨p, q, WideElems.Trod_stays laidOut hr hrow h1 (fun x hx => hb.same (hlt x (by simp [hx]))) (fun x hx => hsp x (by simp [hx])), ?_, rfl⟩
    exact ih (fun t ht2 => ht t (by simp [ht2])) h2 (fun x hx => hlt x (by simp [hx])) sp (fun x hx => hsp x (by simp [hx]))
end Go.Proofs.Ytkmaapkbonkjfaa
