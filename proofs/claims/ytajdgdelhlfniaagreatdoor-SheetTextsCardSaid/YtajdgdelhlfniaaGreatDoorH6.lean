/- The frame of a claim of the layer sheet: what the row's condition gives; the last step. Bounds on differences: what is closed, what a further bound does, and that what is closed is told by its truths. What notes bind: the two bounds of each note; bounds of a sheet. -/
import Derived.Test.YtajdgdelhlfniaaGreatDoorRows
import Derived.Test.YtajdgdelhlfniaaGreatDoorH5
import Derived.Below
import Derived.ChangeSame
import Derived.ProofKit
import Derived.OpenShut
import Derived.LaidMore
import Derived.Lay
import Derived.MakeChecks
import Derived.Handed
import Derived.HandedShaped
import Derived.Deep.Slices
import Derived.Deep.Fields
import Derived.Lib.SmallJoins
import Derived.Carry
import Derived.WideKeyArgs
import Derived.ChangeMaps5
import Derived.Lib.LaidTab
import Derived.Test.YtajdgdelhlfniaaGreatDoorH2
set_option linter.unusedSimpArgs false
set_option linter.unusedVariables false
namespace Go.Proofs.YtajdgdelhlfniaaGreatDoor
open Go.RowKit Go.WideShapes Go.ChangeShapes Go.ChangeAt Go.Deep Go.Joins

theorem ownX : ownKnob Tryz.prog.godebug = none := by kernel_rfl
/-- what the rows list -/
def laidX : List (String × DataW Unit) := Rows.sheetChecksRow.laid
theorem laid_at {P : Program} {w : World} {n : String} {d : DataW Unit} : ∀ {l : List (String × DataW Unit)} {ps : List MemPlace}, DataW.LaidVars P w l ps → (n, d) ∈ l →
    ∃ g t cs fuel p, P.globalNamed n = some g ∧ (P.globals[g]?).map (·.type) = some t ∧ w.var? P n = some cs ∧ DataW.trod (fun _ => ()) P w 0 (fun _ => true) false fuel t cs.toList = some (d, p) := by
  intro l
  induction l with
  | nil => intro ps _ h; cases h
  | cons x r ih =>
    obtain ⟨m, e⟩ := x
    intro ps h hm
    obtain ⟨g, t, cs, fuel, p, q, h1, h2, h3, h4, h5, _⟩ := h
    rcases List.mem_cons.1 hm with he | hm
    · cases he
      exact ⟨g, t, cs, fuel, p, h1, h2, h3, h4⟩
    · exact ih h5 hm
theorem iface_cells {H : Type} {enc : TypeId × Value → H} {P : Program} {w : World} {base fuel : Nat} {sp : Nat → Bool} {t : TypeId} {ms : Array (String × TypeId)} {cs : List Value} {nm : String} {d : DataW H} {p : List MemPlace} (ht : P.underlying t = some (.interface ms))
    (h : DataW.trod enc P w base sp false fuel t cs = some (.iface nm d, p)) : ∃ u v, cs = [.iface u v] := by
  cases fuel with
  | zero => simp [DataW.trod] at h
  | succ m =>
    unfold DataW.trod at h
    rw [ht] at h
    split at h <;> first | (rename_i h1 _; cases h1; done) | skip
    all_goals first | exact ⟨_, _, rfl⟩ | (simp at h; done) | (simp_all; done)
set_option maxRecDepth 100000 in
theorem var_iface {l : List (String × DataW Unit)} {w : World} (h : laidMet Tryz.prog l w) {n nm : String} {d : DataW Unit} (hm : (n, DataW.iface nm d) ∈ l) {g : Nat} {t : TypeId} {ms : Array (String × TypeId)} (hg : Tryz.prog.globalNamed n = some g) (hty : (Tryz.prog.globals[g]?).map (·.type) = some t) (ht : Tryz.prog.underlying t = some (.interface ms)) :
    ∃ tp p, w.var? Tryz.prog n = some #[.iface tp p] := by
  obtain ⟨ps, hl, _⟩ := h
  obtain ⟨g', t', cs, fuel, p, h1, h2, h3, h4⟩ := laid_at hl hm
  obtain rfl := Option.some.inj (hg.symm.trans h1)
  obtain rfl := Option.some.inj (hty.symm.trans h2)
  obtain ⟨u, v, hu⟩ := iface_cells ht h4
  exact ⟨u, v, by rw [h3]; congr 1; exact Array.toList_inj.1 hu⟩
set_option maxRecDepth 100000 in
theorem var_tab {l : List (String × DataW Unit)} {w : World} (h : laidMet Tryz.prog l w) {n : String} {zs : List Int} {k : IntKind} (hm : (n, Lib.tabData k zs) ∈ l) {g m : Nat} {t e : TypeId} (hg : Tryz.prog.globalNamed n = some g) (hty : (Tryz.prog.globals[g]?).map (·.type) = some t) (ht : Tryz.prog.underlying t = some (.array m e)) (he : Tryz.prog.underlying e = some (.int k)) (hce : Tryz.prog.cellsOf e = 1) (hct : Tryz.prog.cellsOf t = m) :
    Lib.TabIs Tryz.prog w n k zs := by
  obtain ⟨ps, hl, _⟩ := h
  obtain ⟨g', t', cs, fuel, p, h1, h2, h3, h4⟩ := laid_at hl hm
  obtain rfl := Option.some.inj (hg.symm.trans h1)
  obtain rfl := Option.some.inj (hty.symm.trans h2)
  unfold Lib.TabIs
  rw [h3, ← Lib.cells_of_tab ht he hce hct h4]
theorem pow_tab : (Rows.laid_internal_strconv_uint64pow10 : DataW Unit) = Lib.tabData .u64 Lib.pow10Tab := by kernel_rfl
theorem laid_pow : laidX[2]? = some ("internal/strconv.uint64pow10", Rows.laid_internal_strconv_uint64pow10) := rfl
theorem laid_rng : laidX[4]? = some ("strconv.ErrRange", Rows.laid_strconv_ErrRange) := rfl
theorem laid_syn : laidX[5]? = some ("strconv.ErrSyntax", Rows.laid_strconv_ErrSyntax) := rfl
theorem laid_plain : (laidX.all fun x => x.2.handleName?.isNone) = true := by kernel_rfl
theorem glob_of {W : World} (h : laidMetH Tryz.prog laidX W) (hs : W.ShapedOpen Tryz.prog) : Glob W := by
  rw [MakeChecks.laidMetH_plain _ _ _ laid_plain] at h
  refine ⟨?_, ?_, ?_, hs⟩
  · have hm := List.mem_of_getElem? laid_pow
    rw [pow_tab] at hm
    exact var_tab (g := 1) h hm (by kernel_rfl) (by kernel_rfl) Tryz.underlying192 Tryz.underlying179 (by kernel_rfl) (by kernel_rfl)
  · exact var_iface h (List.mem_of_getElem? laid_syn) (g := 2) (by kernel_rfl) (by kernel_rfl) Tryz.underlying153
  · exact var_iface h (List.mem_of_getElem? laid_rng) (g := 3) (by kernel_rfl) (by kernel_rfl) Tryz.underlying153

/-- the wrap of a row whose condition lists variables, the world's shape kept -/
theorem returns_laid {C : Checked} {os : Os} {H : Type} {enc : TypeId × Value → H} {f : FuncId} {fn : Func} {s : ChangeSpec} {conds : List PathCond} {apart fresh handsOn again : Bool} {X : World → Array Value → Prop}
    (hX : ∀ (w w' : World) (args : Array Value), w.heap = w'.heap → X w args → X w' args)
    (own : ownKnob C.prog.godebug = none) (started : os.Started) (noInit : C.prog.inits.idxOf? f = none) (hfn : C.prog.funcs[f]? = some fn)
    (witness : ∃ (w : World) (tape : Tape) (i : Input), w.os = os ∧ (w.forCall tape i).Shaped C.prog ∧ i.vars = [] ∧ Input.okWide C.prog (w.forCall tape i) .any w.heap.size f i ∧
      ((s.pre enc C.prog fn conds apart (w.forCall tape i).memory i.args ∧ X (w.forCall tape i).memory i.args) ∧ sizedMet enc C.prog fn (OpenSpec.ofChange s) apart (w.forCall tape i).memory i.args) ∧ ({} : Assume).holds C.prog (lone (Frame.enter C.prog f i.args .normal) [] (w.forCall tape i)))
    (contract : ∀ (W : World) (base : Nat) (args : Array Value) (ds gs : List (DataW H)) (before : List MemPlace),
      (∀ (j : Nat) t v, fn.params[j]? = some t → args[j]? = some v → Value.okWide C.prog W .any base t v) →
      DataW.Whole enc C.prog fn.params.toList s.vars apart W args.toList ds gs before →
      (DataW.weightsEach C.prog (fn.params.toList ++ s.plain.varTypes C.prog) (ds ++ gs)).all (· ≤ reachBytes) = true → X W args → W.ShapedOpen C.prog →
      Calls C.prog f args W fun e W' => ∃ v, e = .returned v ∧ s.post enc C.prog fn apart fresh handsOn again W args v W') :
    ReturnsInHanded {} C os f .any (fun w args => (s.pre enc C.prog fn conds apart w args ∧ X w args) ∧ sizedMet enc C.prog fn (OpenSpec.ofChange s) apart w args) (s.post enc C.prog fn apart fresh handsOn again) := by
  refine returnsInHanded_of_calls own started noInit witness ?_
  intro w tape i _ hsh _ hok hpre _
  obtain ⟨_, _, _, fn', hfn', _, _, _, _, hval⟩ := hok
  have e : fn' = fn := Option.some.inj (hfn'.symm.trans hfn)
  subst e
  obtain ⟨⟨⟨ds, gs, before, hw, _⟩, hx⟩, hz⟩ := hpre
  have hw' := DataW.Whole.of_heap (w' := w.forCall tape i) (by rfl) hw
  refine (contract (w.forCall tape i) w.heap.size i.args ds gs before hval hw' (hz.weights hw) (hX _ _ _ (by rfl) hx) hsh).mono fun e W' ⟨v, he, hp⟩ => ?_
  subst he
  exact ChangeSpec.post_blind hp

set_option maxRecDepth 100000 in
/-- A call that returned true and left every old block as it was meets the specification that says so. -/
theorem post_true {H : Type} {enc : TypeId × Value → H} {f : Func} {s : ChangeSpec} {apart fresh handsOn again : Bool} {W W' : World} {args : Array Value} {ds gs : List (DataW H)} {before pa pv : List MemPlace}
    (hW : DataW.Whole enc Tryz.prog f.params.toList s.vars apart W args.toList ds gs before) (hf : f.resultTypes = #[4]) (hs : (s.fn H (ds ++ gs)).results = [.lit (.bool true)]) (hb : Below W.heap.size W W')
    (hargs : ∀ sp : Nat → Bool, (∀ p ∈ before, sp p.block = true) → DataW.TrodAll enc Tryz.prog W' 0 sp true f.params.toList args.toList (s.fn H (ds ++ gs)).args pa)
    (hvars : ∀ sp : Nat → Bool, (∀ p ∈ before, sp p.block = true) → DataW.TrodVars enc Tryz.prog W' sp s.vars (s.fn H (ds ++ gs)).vars pv) (hps : before = pa ++ pv) :
    s.post enc Tryz.prog f apart fresh handsOn again W args (.bool true) W' := by
  have old : ∀ p ∈ before, p.block < W.heap.size := fun p hp => hW.lt p hp
  have res : ∀ (b : Nat) (sp : Nat → Bool) (hd : Bool), DataW.TrodAll enc Tryz.prog W' b sp hd f.resultTypes.toList ((Value.bool true).resultList f.resultTypes.size) (s.fn H (ds ++ gs)).results [] := fun b sp hd => by
    rw [hs, hf]
    exact trodAll_cons_mk (shut_bool Tryz.underlying4 _) trodAll_mk0
  have seen := hargs (fun b => decide (b < W.heap.size)) fun p hp => decide_eq_true (old p hp)
  have vars := hvars (fun b => decide (b < W.heap.size)) fun p hp => decide_eq_true (old p hp)
  refine ⟨ds, gs, before, [], pa, pv, hW, res _ _ _, seen, vars, World.keptBut_mono (fun p hp => ⟨hp, .inr ?_⟩) (hb.frame (· ∈ before)), fun _ => ?_⟩
  · exact List.mem_append.1 (hps ▸ hp)
  · obtain ⟨_, _, _, _, _, frozen, apart'⟩ := hW
    have whole : [] ++ pa ++ pv = before := by rw [hps, List.nil_append]
    refine ⟨?_, _, _, [] ++ pa ++ pv, ⟨[] ++ pa, pv, trodAll_append (hargs _ fun _ _ => rfl) (res _ _ _), hvars _ fun _ _ => rfl, rfl, ?_, ?_⟩, fun p hp _ => whole ▸ hp⟩
    · exact ok_one hf rfl (okWide_bool_mk Tryz.underlying4 _)
    · intro b off hp
      rw [whole] at hp
      exact (hb.frozen (p := ⟨b, off, none⟩) (old _ hp)).trans (frozen b off hp)
    · intro ha
      rw [whole]
      exact apart' ha
section
variable {H : Type} {enc : TypeId × Value → H} {W : World} {base : Nat} {sp : Nat → Bool} {held : Bool}

theorem rd_open {α : Type} {At : World → Addr → α → Prop} {sz : Nat} [Inhabited α] {Q : α → Prop} {t e : TypeId} (ht : Tryz.prog.underlying t = some (.slice e)) (hC : Tryz.prog.cellsOf e = sz) (hsz : 0 < sz)
    (hel : ∀ (a : Addr) (n : Nat) (cs : List Value) (x : DataW H × List MemPlace), (∀ i, i < sz → W.cell? (a.add i) = cs[i]?) → cs.length = sz → DataW.trod enc Tryz.prog W base sp held n e cs = some x → ∃ y : α, At W a y ∧ Q y)
    {fuel : Nat} {v : Value} {x : DataW H × List MemPlace} (h : DataW.trod enc Tryz.prog W base sp held fuel t [v] = some x) :
    ∃ xs : List α, Rd At sz W.heap.size W v xs ∧ ∀ y ∈ xs, Q y := by
  rcases open_slice ht h with ⟨h0, _⟩ | ⟨a, len, cap, m, n, D, Pl, hcs, hb, hl, hm, hmm, _, hi⟩
  · injection h0 with h0
    subst h0
    exact ⟨[], Rd.nil _ _, by simp⟩
  · injection hcs with hcs
    subst hcs
    have hlm : len ≤ m := by rw [hmm]; split <;> omega
    have each : ∀ i, i < len → ∃ y : α, (a.block < W.heap.size ∧ At W (a.add (i * sz)) y) ∧ Q y := fun i hi2 => by
      obtain ⟨cs, hc, htr⟩ := hi i (by omega)
      rw [hC] at hc
      obtain ⟨_, hlen, hat⟩ := World.cells?_some hc
      obtain ⟨y, hy, hq⟩ := hel _ _ _ _ hat hlen htr
      have hblk := World.cells?_block hc hsz
      rw [block_add] at hblk
      exact ⟨y, ⟨hblk, hy⟩, hq⟩
    let f : Nat → α := fun i => if hi : i < len then Classical.choose (each i hi) else default
    have hf : ∀ i, i < len → (a.block < W.heap.size ∧ At W (a.add (i * sz)) (f i)) ∧ Q (f i) := fun i hi => by
      have := Classical.choose_spec (each i hi)
      simp only [f, hi, dif_pos]
      exact this
    have hcap : cap ≤ 9223372036854775807 := by unfold maxLen at hm; exact hm
    refine ⟨(List.range len).map f, ⟨some a, cap, by simp, by simpa using hl, hcap, fun i y hy => ?_⟩, fun y hy => ?_⟩
    · rw [List.getElem?_map] at hy
      obtain ⟨j, hj, rfl⟩ := Option.map_eq_some_iff.1 hy
      have hj2 : i < len := by
        have := (List.getElem?_eq_some_iff.1 hj).1
        simpa using this
      rw [List.getElem?_range hj2] at hj
      injection hj with hj
      subst hj
      exact ⟨a, rfl, (hf i hj2).1⟩
    · obtain ⟨i, hi, rfl⟩ := List.mem_map.1 hy
      exact (hf i (by simpa using hi)).2

/-- a field of a struct, as it reads -/
theorem field_at {e : TypeId} {fs : Array Field} (he : Tryz.prog.underlying e = some (.struct fs)) {n : Nat} {cs : List Value} {x : DataW H × List MemPlace}
    (h : DataW.trod enc Tryz.prog W base sp held n e cs = some x) {j o k : Nat} {t : TypeId} {f : Field} (hj : fs[j]? = some f) (ht : f.type = t) (ho : f.offset = o) (hk : Tryz.prog.cellsOf t = k) :
    ∃ (y : DataW H × List MemPlace) (m : Nat), DataW.trod enc Tryz.prog W base sp held m t ((cs.drop o).take k) = some y := by
  obtain ⟨ys, m, _, _, _, hyl, hf⟩ := DataW.trod_struct he h
  have hjl : j < fs.size := (Array.getElem?_eq_some_iff.1 hj).1
  have h1 := hf j f hj
  rw [ht, ho, hk] at h1
  exact ⟨ys[j]'(by omega), m, h1.trans (List.getElem?_eq_getElem (by omega))⟩
theorem int_at {fuel : Nat} {cs : List Value} {o : Nat} {y : DataW H × List MemPlace} (h : DataW.trod enc Tryz.prog W base sp held fuel 3 ((cs.drop o).take 1) = some y) : ∃ k : Int, cs[o]? = some (.int .i64 k) := by
  obtain ⟨k, e, _, _⟩ := DataW.trod_int Tryz.underlying3 h
  refine ⟨k, ?_⟩
  have h0 : ((cs.drop o).take 1)[0]? = some (.int .i64 k) := by rw [e]; rfl
  simpa using h0
theorem open_pts {fuel : Nat} {v : Value} {x : DataW H × List MemPlace} (h : DataW.trod enc Tryz.prog W base sp held fuel 22 [v] = some x) : ∃ xs : List ByteArray, Rd StrAt 1 W.heap.size W v xs ∧ ∀ p ∈ xs, p.size ≤ 9223372036854775807 :=
  rd_open (α := ByteArray) (At := StrAt) (sz := 1) (Q := fun p => p.size ≤ 9223372036854775807) Tryz.underlying22 (by kernel_rfl) (by omega) (fun a n cs x hat hlen htr => by
    obtain ⟨k, q, _, hs⟩ := DataW.trod_string Tryz.underlying9 htr
    cases q
    exact ⟨k, by simpa [Addr.add, StrAt] using hat 0 (by omega), by unfold maxLen at hs; exact hs⟩) h
set_option maxRecDepth 100000 in
theorem open_notes {fuel : Nat} {v : Value} {x : DataW H × List MemPlace} (h : DataW.trod enc Tryz.prog W base sp held fuel 23 [v] = some x) : ∃ xs : List NoteR, Rd NoteAt 5 W.heap.size W v xs := by
  obtain ⟨xs, hr, _⟩ := rd_open (α := NoteR) (At := NoteAt) (sz := 5) (Q := fun _ => True) Tryz.underlying23 (by kernel_rfl) (by omega) (fun a n cs x hat hlen htr => by
    obtain ⟨y0, m0, t0⟩ := field_at (o := 0) (k := 1) Tryz.underlying69 htr (j := 0) rfl rfl rfl (by kernel_rfl)
    obtain ⟨y1, m1, t1⟩ := field_at (o := 1) (k := 1) Tryz.underlying69 htr (j := 1) rfl rfl rfl (by kernel_rfl)
    obtain ⟨y2, m2, t2⟩ := field_at (o := 2) (k := 1) Tryz.underlying69 htr (j := 2) rfl rfl rfl (by kernel_rfl)
    obtain ⟨y3, m3, t3⟩ := field_at (o := 3) (k := 2) Tryz.underlying69 htr (j := 3) rfl rfl rfl (by kernel_rfl)
    obtain ⟨y4, m4, t4⟩ := field_at (o := 0) (k := 1) Tryz.underlying40 t3 (j := 0) rfl rfl rfl (by kernel_rfl)
    obtain ⟨y5, m5, t5⟩ := field_at (o := 1) (k := 1) Tryz.underlying40 t3 (j := 1) rfl rfl rfl (by kernel_rfl)
    obtain ⟨k0, q0⟩ := int_at t0
    obtain ⟨k1, q1⟩ := int_at t1
    obtain ⟨k2, q2⟩ := int_at t2
    obtain ⟨k4, q4⟩ := int_at t4
    obtain ⟨k5, q5⟩ := int_at t5
    have q4 : cs[3]? = some (.int .i64 k4) := by simpa [List.getElem?_take] using q4
    have q5 : cs[4]? = some (.int .i64 k5) := by simpa [List.getElem?_take] using q5
    refine ⟨⟨k0, k1, k2, k4, k5⟩, ⟨?_, ?_, ?_, ?_, ?_⟩, trivial⟩
    · have := hat 0 (by omega); rw [q0] at this; simpa [Addr.add] using this
    · have := hat 1 (by omega); rw [q1] at this; simpa [Addr.add] using this
    · have := hat 2 (by omega); rw [q2] at this; simpa [Addr.add] using this
    · have := hat 3 (by omega); rw [q4] at this; simpa [Addr.add] using this
    · have := hat 4 (by omega); rw [q5] at this; simpa [Addr.add] using this) h
  exact ⟨xs, hr⟩
set_option maxRecDepth 100000 in
theorem open_sheet {r : Reach} {b0 : Nat} {v : Value} {d : DataW H} {p : List MemPlace} (hv : Value.okWide Tryz.prog W r b0 25 v) (h : DataW.Trod enc Tryz.prog W base sp held 25 v d p) :
    ∃ s : ShR, RdSh W.heap.size W v s ∧ Named s := by
  obtain ⟨v0, v1, v2, y0, y1, y2, n, rfl, _, _, t0, t1, t2⟩ := open_agg3 Tryz.underlying25 (by kernel_rfl) (by kernel_rfl) hv h
  obtain ⟨k0, q0, _, _⟩ := DataW.trod_int Tryz.underlying3 t0
  cases q0
  obtain ⟨pp, r1, hn⟩ := open_pts t1
  obtain ⟨oo, r2⟩ := open_notes t2
  exact ⟨⟨k0, pp, oo⟩, ⟨v1, v2, rfl, r1, r2⟩, hn⟩
set_option maxRecDepth 100000 in
theorem open_str {r : Reach} {b0 : Nat} {v : Value} {d : DataW H} {p : List MemPlace} (hv : Value.okWide Tryz.prog W r b0 9 v) (h : DataW.Trod enc Tryz.prog W base sp held 9 v d p) :
    ∃ s : ByteArray, v = .string s ∧ d = .lit (.string s.data.toList) ∧ s.size ≤ 9223372036854775807 := by
  obtain ⟨s, e1, e2, _, hs⟩ := Go.ChangeMaps.open_string Tryz.underlying9 hv h
  exact ⟨s, e1, e2, by unfold maxLen at hs; exact hs⟩
end
set_option maxRecDepth 100000 in
theorem laidOut : laidOutB Tryz.prog = true := by kernel_rfl
/-- each argument reads behind the call as it read before -/
theorem args_stay {H : Type} {enc : TypeId × Value → H} {W W' : World} (hb : Below W.heap.size W W') : ∀ {ts : List TypeId} {vs : List Value} {ds : List (DataW H)} {ps : List MemPlace},
    (∀ t ∈ ts, Tryz.prog.readableRec t = true ∧ t < Tryz.prog.types.size) → DataW.TrodAll enc Tryz.prog W 0 (fun _ => true) true ts vs ds ps → (∀ x ∈ ps, x.block < W.heap.size) →
    ∀ sp : Nat → Bool, (∀ x ∈ ps, sp x.block = true) → DataW.TrodAll enc Tryz.prog W' 0 sp true ts vs ds ps := by
  intro ts
  induction ts with
  | nil => intro vs ds ps _ h _ sp _; cases vs <;> cases ds <;> first | exact h | exact h.elim
  | cons t ts ih =>
    intro vs ds ps ht h hlt sp hsp
    obtain ⟨v, vs', d, ds', p, q, rfl, rfl, rfl, h1, h2⟩ := trodAll_cons h
    obtain ⟨hr, hrow⟩ := ht t (by simp)
    refine ⟨p, q, WideElems.Trod_stays laidOut hr hrow h1 (fun x hx => hb.same (hlt x (by simp [hx]))) (fun x hx => hsp x (by simp [hx])), ?_, rfl⟩
    exact ih (fun t ht2 => ht t (by simp [ht2])) h2 (fun x hx => hlt x (by simp [hx])) sp (fun x hx => hsp x (by simp [hx]))
end Go.Proofs.YtajdgdelhlfniaaGreatDoor
namespace Go.Proofs.YtajdgdelhlfniaaGreatDoor

/-- bounds: the most by which the latter is above the former -/
abbrev Mat := Nat → Nat → Int
/-- nothing can be narrower -/
structure Closed (n : Nat) (b : Mat) : Prop where
  diag : ∀ i, i < n → b i i = 0
  tri : ∀ i j k, i < n → j < n → k < n → b i k ≤ b i j + b j k
/-- heights that bounds allow -/
def Sol (n : Nat) (b : Mat) (h : Nat → Int) : Prop := ∀ i k, i < n → k < n → h k - h i ≤ b i k
/-- one bound more -/
def bindM (f t : Nat) (m : Int) (b : Mat) : Mat := fun i k => min (b i k) (b i f + m + b t k)

theorem min_le_l (a b : Int) : min a b ≤ a := by omega
theorem min_le_r (a b : Int) : min a b ≤ b := by omega
theorem le_min {a b c : Int} (h1 : c ≤ a) (h2 : c ≤ b) : c ≤ min a b := by omega

theorem Closed.bind {n f t : Nat} {b : Mat} {m : Int} (h : Closed n b) (hf : f < n) (ht : t < n) (h0 : 0 ≤ m + b t f) : Closed n (bindM f t m b) := by
  refine ⟨fun i hi => ?_, fun i j k hi hj hk => ?_⟩
  · have h1 := h.diag i hi
    have h2 := h.tri t i f ht hi hf
    unfold bindM
    omega
  · unfold bindM
    have a1 := h.tri i j k hi hj hk
    have a2 := h.tri i j f hi hj hf
    have a3 := h.tri t j k ht hj hk
    have a4 := h.tri t j f ht hj hf
    omega
theorem Closed.bind_f {n f t : Nat} {b : Mat} {m : Int} (_h : Closed n b) (h0 : 0 ≤ m + b t f) (i : Nat) : bindM f t m b i f = b i f := by
  unfold bindM
  omega
theorem Closed.bind_t {n f t : Nat} {b : Mat} {m : Int} (_h : Closed n b) (h0 : 0 ≤ m + b t f) (k : Nat) : bindM f t m b t k = b t k := by
  unfold bindM
  omega
theorem bind_sol {n f t : Nat} {b : Mat} {m : Int} {h : Nat → Int} (hc : Closed n b) (hf : f < n) (ht : t < n) : Sol n (bindM f t m b) h ↔ Sol n b h ∧ h t - h f ≤ m := by
  constructor
  · intro hs
    refine ⟨fun i k hi hk => Int.le_trans (hs i k hi hk) (min_le_l _ _), ?_⟩
    have := hs f t hf ht
    have h1 := hc.diag f hf
    have h2 := hc.diag t ht
    unfold bindM at this
    omega
  · rintro ⟨hs, hm⟩ i k hi hk
    have h1 := hs i f hi hf
    have h2 := hs t k ht hk
    have h3 := hs i k hi hk
    unfold bindM
    omega
theorem bind_no {n f t : Nat} {b : Mat} {m : Int} (hf : f < n) (ht : t < n) (h0 : m + b t f < 0) (h : Nat → Int) : ¬ (Sol n b h ∧ h t - h f ≤ m) := by
  rintro ⟨hs, hm⟩
  have := hs t f ht hf
  omega
theorem bind_same {n f t : Nat} {b : Mat} {m : Int} (hf : f < n) (ht : t < n) (h0 : b f t ≤ m) (h : Nat → Int) : (Sol n b h ∧ h t - h f ≤ m) ↔ Sol n b h := by
  constructor
  · exact fun x => x.1
  · intro hs
    have := hs f t hf ht
    exact ⟨hs, by omega⟩
/-- each row of what is closed is a truth -/
theorem Closed.row {n : Nat} {b : Mat} (h : Closed n b) {i : Nat} (hi : i < n) : Sol n b (fun j => b i j) := fun j k hj hk => by
  have := h.tri i j k hi hj hk
  show b i k - b i j ≤ b j k
  omega
theorem closed_le {n : Nat} {b c : Mat} (hb : Closed n b) (h : ∀ x, Sol n b x → Sol n c x) {i k : Nat} (hi : i < n) (hk : k < n) : b i k ≤ c i k := by
  have h1 : b i k - b i i ≤ c i k := h _ (hb.row hi) i k hi hk
  have h2 := hb.diag i hi
  omega
theorem closed_eq {n : Nat} {b c : Mat} (hb : Closed n b) (hc : Closed n c) (h : ∀ x, Sol n b x ↔ Sol n c x) {i k : Nat} (hi : i < n) (hk : k < n) : b i k = c i k :=
  Int.le_antisymm (closed_le hb (fun x => (h x).1) hi hk) (closed_le hc (fun x => (h x).2) hi hk)
/-- the bound is what truths reach -/
theorem Closed.reach {n : Nat} {b : Mat} (h : Closed n b) {i k : Nat} (hi : i < n) (_hk : k < n) : ∃ x, Sol n b x ∧ x i = 0 ∧ x k - x i = b i k :=
  ⟨_, h.row hi, h.diag i hi, by simp [h.diag i hi]⟩
theorem Closed.lo {n : Nat} {b : Mat} (h : Closed n b) {i k : Nat} (hi : i < n) (hk : k < n) : - b k i ≤ b i k := by
  have h1 := h.tri i k i hi hk hi
  have h2 := h.diag i hi
  omega

/-! ### what the program's bounds are -/
/-- no bound is wider than heights can be apart -/
structure Fine (b : Mat) : Prop where
  closed : Closed 9 b
  le : ∀ i k, i < 9 → k < 9 → b i k ≤ 9000
theorem Fine.ge {b : Mat} (h : Fine b) {i k : Nat} (hi : i < 9) (hk : k < 9) : -9000 ≤ b i k := by
  have := h.closed.lo hi hk
  have := h.le k i hk hi
  omega
theorem Fine.bind {b : Mat} {f t : Nat} {m : Int} (h : Fine b) (hf : f < 9) (ht : t < 9) (h0 : 0 ≤ m + b t f) : Fine (bindM f t m b) :=
  ⟨h.closed.bind hf ht h0, fun i k hi hk => Int.le_trans (min_le_l _ _) (h.le i k hi hk)⟩
/-- bounds without notes -/
def freeM : Mat := fun i k => if i = k ∨ k = 8 then 0 else 9000
theorem free_fine : Fine freeM := by
  refine ⟨⟨fun i hi => by simp [freeM], fun i j k hi hj hk => ?_⟩, fun i k hi hk => ?_⟩
  · unfold freeM
    split <;> split <;> split <;> omega
  · unfold freeM
    split <;> omega
theorem free_sol (h : Nat → Int) : Sol 9 freeM h ↔ ∀ i, i < 8 → 0 ≤ h i - h 8 ∧ h i - h 8 ≤ 9000 := by
  constructor
  · intro hs i hi
    have h1 := hs i 8 (by omega) (by omega)
    have h2 := hs 8 i (by omega) (by omega)
    unfold freeM at h1 h2
    rw [if_pos (.inr rfl)] at h1
    rw [if_neg (by omega)] at h2
    omega
  · intro hs i k hi hk
    have hi' : i < 8 ∨ i = 8 := by omega
    have hk' : k < 8 ∨ k = 8 := by omega
    unfold freeM
    rcases hi' with hi' | rfl <;> rcases hk' with hk' | rfl
    · have h1 := hs i hi'
      have h2 := hs k hk'
      split
      · rename_i h
        have : i = k := by omega
        subst this
        omega
      · omega
    · have h1 := hs i hi'
      rw [if_pos (.inr rfl)]
      omega
    · have h1 := hs k hk'
      rw [if_neg (by omega)]
      omega
    · simp
/-- a further bound: whether there is a truth, and the bounds -/
def bindB (f t : Nat) (m : Int) (b : Mat) : Bool := decide (b f t ≤ m) || decide (0 ≤ m + b t f)
def bindR (f t : Nat) (m : Int) (b : Mat) : Mat := if b f t ≤ m then b else if 0 ≤ m + b t f then bindM f t m b else b
theorem bindR_fine {b : Mat} {f t : Nat} {m : Int} (h : Fine b) (hf : f < 9) (ht : t < 9) : Fine (bindR f t m b) := by
  unfold bindR
  split
  · exact h
  · split
    · rename_i h0
      exact h.bind hf ht h0
    · exact h
theorem bindR_sol {b : Mat} {f t : Nat} {m : Int} (h : Fine b) (hf : f < 9) (ht : t < 9) (hb : bindB f t m b = true) (x : Nat → Int) : Sol 9 (bindR f t m b) x ↔ Sol 9 b x ∧ x t - x f ≤ m := by
  unfold bindR
  split
  · rename_i h0
    exact (bind_same hf ht h0 x).symm
  · rename_i h1
    split
    · exact bind_sol h.closed hf ht
    · rename_i h0
      simp [bindB, h1, h0] at hb
theorem bindB_no {b : Mat} {f t : Nat} {m : Int} (hf : f < 9) (ht : t < 9) (hb : bindB f t m b = false) (x : Nat → Int) : ¬ (Sol 9 b x ∧ x t - x f ≤ m) := by
  simp only [bindB, Bool.or_eq_false_iff, decide_eq_false_iff_not] at hb
  exact bind_no hf ht (by omega) x
end Go.Proofs.YtajdgdelhlfniaaGreatDoor
namespace Go.Proofs.YtajdgdelhlfniaaGreatDoor

/-- the other point of a note; the level of the sea is place 8 -/
def othN (x : NoteR) : Nat := if x.kind = 1 ∨ x.kind = 2 then 8 else x.b.toNat
def nlo (iv : Int) (x : NoteR) : Int := if x.kind = 2 then x.lo * iv else x.lo
def nhi (iv : Int) (x : NoteR) : Int := if x.kind = 2 then x.hi * iv else x.hi
/-- the two bounds of a note that is wider: from, to, most -/
def bnd (iv wd : Int) (x : NoteR) : Nat → Nat × Nat × Int
  | 0 => (othN x, x.a.toNat, nhi iv x + wd)
  | _ => (x.a.toNat, othN x, wd - nlo iv x)
/-- bounds with the first k of them -/
def bndM (iv wd : Int) (x : NoteR) (b : Mat) : Nat → Mat
  | 0 => b
  | k + 1 => bindR (bnd iv wd x k).1 (bnd iv wd x k).2.1 (bnd iv wd x k).2.2 (bndM iv wd x b k)
def bndB (iv wd : Int) (x : NoteR) (b : Mat) (k : Nat) : Bool := bindB (bnd iv wd x k).1 (bnd iv wd x k).2.1 (bnd iv wd x k).2.2 (bndM iv wd x b k)
/-- bounds with a note; whether there is a truth -/
def withM (iv wd : Int) (b : Mat) (x : NoteR) : Mat × Bool :=
  if bndB iv wd x b 0 = false then (bndM iv wd x b 1, false) else if bndB iv wd x b 1 = false then (bndM iv wd x b 2, false) else (bndM iv wd x b 2, true)

theorem noteOK_oth {np : Nat} {iv : Int} {x : NoteR} (h : NoteOK np iv x) (hn : np ≤ 8) : othN x < 9 := by
  have := h.b
  unfold othN
  split <;> omega
theorem noteOK_a {np : Nat} {iv : Int} {x : NoteR} (h : NoteOK np iv x) (hn : np ≤ 8) : x.a.toNat < 8 := by
  have := h.a
  omega
theorem noteOK_ends {np : Nat} {iv : Int} {x : NoteR} (h : NoteOK np iv x) (hi : 1 ≤ iv) : -9000 ≤ nlo iv x ∧ nlo iv x ≤ nhi iv x ∧ nhi iv x ≤ 9000 := by
  have hk := h.kind
  have hle := h.le
  unfold nlo nhi
  by_cases k2 : x.kind = 2
  · obtain ⟨h1, h2, h3⟩ := h.band k2
    rw [if_pos k2, if_pos k2]
    have a1 : 0 ≤ x.lo * iv := Int.mul_nonneg h1 (by omega)
    have a2 : x.lo * iv ≤ x.hi * iv := Int.mul_le_mul_of_nonneg_right hle (by omega)
    omega
  · rw [if_neg k2, if_neg k2]
    have h1 := h.spot
    have h3 := h.lake
    have h4 := h.slope
    omega
theorem bnd_lt {np : Nat} {iv wd : Int} {x : NoteR} (h : NoteOK np iv x) (hn : np ≤ 8) (k : Nat) : (bnd iv wd x k).1 < 9 ∧ (bnd iv wd x k).2.1 < 9 := by
  have h1 := noteOK_oth h hn
  have h2 := noteOK_a h hn
  cases k with
  | zero => exact ⟨h1, by show x.a.toNat < 9; omega⟩
  | succ k => exact ⟨by show x.a.toNat < 9; omega, h1⟩
theorem bnd_most {np : Nat} {iv wd : Int} {x : NoteR} (h : NoteOK np iv x) (hi : 1 ≤ iv) (hw : 0 ≤ wd ∧ wd ≤ 9000) (k : Nat) : -9000 ≤ (bnd iv wd x k).2.2 ∧ (bnd iv wd x k).2.2 ≤ 18000 := by
  have h1 := noteOK_ends h hi
  cases k with
  | zero => show -9000 ≤ nhi iv x + wd ∧ nhi iv x + wd ≤ 18000; omega
  | succ k => show -9000 ≤ wd - nlo iv x ∧ wd - nlo iv x ≤ 18000; omega
theorem bndM_fine {np : Nat} {iv wd : Int} {x : NoteR} {b : Mat} (h : NoteOK np iv x) (hn : np ≤ 8) (hb : Fine b) (k : Nat) : Fine (bndM iv wd x b k) := by
  induction k with
  | zero => exact hb
  | succ k ih => exact bindR_fine ih (bnd_lt h hn k).1 (bnd_lt h hn k).2
/-- what a note that is wider says of heights; the level of the sea is that of place 8 -/
def Says (iv wd : Int) (x : NoteR) (h : Nat → Int) : Prop := nlo iv x - wd ≤ h x.a.toNat - h (othN x) ∧ h x.a.toNat - h (othN x) ≤ nhi iv x + wd
theorem says_iff {iv wd : Int} {x : NoteR} {h : Nat → Int} : Says iv wd x h ↔ h (bnd iv wd x 0).2.1 - h (bnd iv wd x 0).1 ≤ (bnd iv wd x 0).2.2 ∧ h (bnd iv wd x 1).2.1 - h (bnd iv wd x 1).1 ≤ (bnd iv wd x 1).2.2 := by
  unfold Says bnd
  simp only
  omega
theorem withM_fine {np : Nat} {iv wd : Int} {x : NoteR} {b : Mat} (h : NoteOK np iv x) (hn : np ≤ 8) (hb : Fine b) : Fine (withM iv wd b x).1 := by
  unfold withM
  split
  · exact bndM_fine h hn hb 1
  · split <;> exact bndM_fine h hn hb 2
theorem withM_sol {np : Nat} {iv wd : Int} {x : NoteR} {b : Mat} (h : NoteOK np iv x) (hn : np ≤ 8) (hb : Fine b) (hw : (withM iv wd b x).2 = true) (y : Nat → Int) : Sol 9 (withM iv wd b x).1 y ↔ Sol 9 b y ∧ Says iv wd x y := by
  unfold withM at *
  by_cases h0 : bndB iv wd x b 0 = false
  · rw [if_pos h0] at hw; cases hw
  · rw [if_neg h0] at *
    by_cases h1 : bndB iv wd x b 1 = false
    · rw [if_pos h1] at hw; cases hw
    · rw [if_neg h1]
      have e0 : bndB iv wd x b 0 = true := by simpa using h0
      have e1 : bndB iv wd x b 1 = true := by simpa using h1
      have s0 := bindR_sol (bndM_fine (wd := wd) h hn hb 0) (bnd_lt (wd := wd) h hn 0).1 (bnd_lt (wd := wd) h hn 0).2 e0 y
      have s1 := bindR_sol (bndM_fine (wd := wd) h hn hb 1) (bnd_lt (wd := wd) h hn 1).1 (bnd_lt (wd := wd) h hn 1).2 e1 y
      rw [says_iff]
      show Sol 9 (bindR _ _ _ (bindR _ _ _ b)) y ↔ _
      rw [show bindR (bnd iv wd x 0).1 (bnd iv wd x 0).2.1 (bnd iv wd x 0).2.2 b = bndM iv wd x b 1 from rfl, s1]
      rw [show bndM iv wd x b 1 = bindR (bnd iv wd x 0).1 (bnd iv wd x 0).2.1 (bnd iv wd x 0).2.2 (bndM iv wd x b 0) from rfl, s0]
      rw [show bndM iv wd x b 0 = b from rfl]
      exact ⟨fun ⟨⟨a, b⟩, c⟩ => ⟨a, b, c⟩, fun ⟨a, b, c⟩ => ⟨⟨a, b⟩, c⟩⟩
theorem withM_no {np : Nat} {iv wd : Int} {x : NoteR} {b : Mat} (h : NoteOK np iv x) (hn : np ≤ 8) (hb : Fine b) (hw : (withM iv wd b x).2 = false) (y : Nat → Int) : ¬ (Sol 9 b y ∧ Says iv wd x y) := by
  rintro ⟨hs, hy⟩
  rw [says_iff] at hy
  unfold withM at hw
  by_cases h0 : bndB iv wd x b 0 = false
  · exact bindB_no (bnd_lt (wd := wd) h hn 0).1 (bnd_lt (wd := wd) h hn 0).2 h0 y ⟨hs, hy.1⟩
  · rw [if_neg h0] at hw
    have e0 : bndB iv wd x b 0 = true := by simpa using h0
    have s0 := (bindR_sol (bndM_fine (wd := wd) h hn hb 0) (bnd_lt (wd := wd) h hn 0).1 (bnd_lt (wd := wd) h hn 0).2 e0 y).2 ⟨hs, hy.1⟩
    by_cases h1 : bndB iv wd x b 1 = false
    · exact bindB_no (bnd_lt (wd := wd) h hn 1).1 (bnd_lt (wd := wd) h hn 1).2 h1 y ⟨s0, hy.2⟩
    · rw [if_neg h1] at hw
      cases hw

/-- bounds with notes -/
def allM (iv wd : Int) : List NoteR → Mat → Mat × Bool
  | [], b => (b, true)
  | x :: l, b => if (withM iv wd b x).2 = false then ((withM iv wd b x).1, false) else allM iv wd l (withM iv wd b x).1
theorem allM_cons (iv wd : Int) (x : NoteR) (l : List NoteR) (b : Mat) : allM iv wd (x :: l) b = if (withM iv wd b x).2 = false then ((withM iv wd b x).1, false) else allM iv wd l (withM iv wd b x).1 := rfl
theorem allM_fine {np : Nat} {iv wd : Int} (hn : np ≤ 8) : ∀ {l : List NoteR} {b : Mat}, (∀ x ∈ l, NoteOK np iv x) → Fine b → Fine (allM iv wd l b).1 := by
  intro l
  induction l with
  | nil => intro b _ hb; exact hb
  | cons x l ih =>
    intro b hl hb
    rw [allM_cons]
    have h1 := withM_fine (wd := wd) (hl x (by simp)) hn hb
    split
    · exact h1
    · exact ih (fun y hy => hl y (by simp [hy])) h1
theorem allM_sol {np : Nat} {iv wd : Int} (hn : np ≤ 8) : ∀ {l : List NoteR} {b : Mat}, (∀ x ∈ l, NoteOK np iv x) → Fine b → (allM iv wd l b).2 = true → ∀ y, Sol 9 (allM iv wd l b).1 y ↔ Sol 9 b y ∧ ∀ x ∈ l, Says iv wd x y := by
  intro l
  induction l with
  | nil => intro b _ _ _ y; simp [allM]
  | cons x l ih =>
    intro b hl hb hw y
    rw [allM_cons] at *
    have h1 := withM_fine (wd := wd) (hl x (by simp)) hn hb
    by_cases h2 : (withM iv wd b x).2 = false
    · rw [if_pos h2] at hw; cases hw
    · rw [if_neg h2] at *
      rw [ih (fun y hy => hl y (by simp [hy])) h1 hw y, withM_sol (hl x (by simp)) hn hb (by simpa using h2) y]
      simp [and_assoc]
theorem allM_no {np : Nat} {iv wd : Int} (hn : np ≤ 8) : ∀ {l : List NoteR} {b : Mat}, (∀ x ∈ l, NoteOK np iv x) → Fine b → (allM iv wd l b).2 = false → ∀ y, ¬ (Sol 9 b y ∧ ∀ x ∈ l, Says iv wd x y) := by
  intro l
  induction l with
  | nil => intro b _ _ h; cases h
  | cons x l ih =>
    intro b hl hb hw y
    rw [allM_cons] at hw
    have h1 := withM_fine (wd := wd) (hl x (by simp)) hn hb
    rintro ⟨hs, hy⟩
    by_cases h2 : (withM iv wd b x).2 = false
    · exact withM_no (hl x (by simp)) hn hb h2 y ⟨hs, hy x (by simp)⟩
    · rw [if_neg h2] at hw
      refine ih (fun y hy => hl y (by simp [hy])) h1 hw y ⟨?_, fun z hz => hy z (by simp [hz])⟩
      exact (withM_sol (hl x (by simp)) hn hb (by simpa using h2) y).2 ⟨hs, hy x (by simp)⟩
theorem allM_snoc (iv wd : Int) : ∀ (l : List NoteR) (x : NoteR) (b : Mat), (allM iv wd l b).2 = true → allM iv wd (l ++ [x]) b = withM iv wd (allM iv wd l b).1 x := by
  intro l
  induction l with
  | nil =>
    intro x b _
    show (if (withM iv wd b x).2 = false then _ else allM iv wd [] _) = withM iv wd b x
    unfold allM
    cases h : (withM iv wd b x).2 with
    | true => simp [← h]
    | false => simp [← h]
  | cons z l ih =>
    intro x b h
    rw [List.cons_append, allM_cons, allM_cons]
    rw [allM_cons] at h
    by_cases h2 : (withM iv wd b z).2 = false
    · rw [if_pos h2] at h; cases h
    · rw [if_neg h2] at h
      rw [if_neg h2, if_neg h2]
      exact ih x _ h
theorem allM_stop (iv wd : Int) : ∀ (l l' : List NoteR) (b : Mat), (allM iv wd l b).2 = false → allM iv wd (l ++ l') b = allM iv wd l b := by
  intro l
  induction l with
  | nil => intro l' b h; cases h
  | cons z l ih =>
    intro l' b h
    rw [List.cons_append, allM_cons, allM_cons]
    rw [allM_cons] at h
    by_cases h2 : (withM iv wd b z).2 = false
    · rw [if_pos h2, if_pos h2]
    · rw [if_neg h2] at h
      rw [if_neg h2, if_neg h2]
      exact ih l' _ h
end Go.Proofs.YtajdgdelhlfniaaGreatDoor
