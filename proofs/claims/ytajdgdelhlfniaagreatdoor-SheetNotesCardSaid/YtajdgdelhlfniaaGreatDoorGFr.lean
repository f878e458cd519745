/- The frame of a claim of the layer sheet: what the row's condition gives; the last step. The frame of a claim of the layer sheet: what further arguments read as. -/
import Derived.Test.YtajdgdelhlfniaaGreatDoorRows
import Derived.Test.YtajdgdelhlfniaaGreatDoorGTxt
import Derived.Test.YtajdgdelhlfniaaGreatDoorGRChk
import Derived.Below
import Derived.ChangeSame
import Derived.ProofKit
import Derived.OpenShut
import Derived.LaidMore
import Derived.Lay
import Derived.MakeChecks
import Derived.Handed
import Derived.HandedShaped
import Derived.Deep.Slices
import Derived.Deep.Fields
import Derived.Lib.SmallJoins
import Derived.Carry
import Derived.WideKeyArgs
import Derived.ChangeMaps5
import Derived.Lib.LaidTab
import Derived.Test.YtajdgdelhlfniaaGreatDoorGB
import Derived.Test.YtajdgdelhlfniaaGreatDoorGWi
import Derived.SizedLaws
set_option linter.unusedSimpArgs false
set_option linter.unusedVariables false
namespace Go.Proofs.YtajdgdelhlfniaaGreatDoor
open Go.RowKit Go.WideShapes Go.ChangeShapes Go.ChangeAt Go.Deep Go.Joins

theorem ownX : ownKnob Tryz.prog.godebug = none := by kernel_rfl
/-- what the rows list -/
def laidX : List (String × DataW Unit) := Rows.sheetChecksRow.laid
theorem laid_at {P : Program} {w : World} {n : String} {d : DataW Unit} : ∀ {l : List (String × DataW Unit)} {ps : List MemPlace}, DataW.LaidVars P w l ps → (n, d) ∈ l →
    ∃ g t cs fuel p, P.globalNamed n = some g ∧ (P.globals[g]?).map (·.type) = some t ∧ w.var? P n = some cs ∧ DataW.trod (fun _ => ()) P w 0 (fun _ => true) false fuel t cs.toList = some (d, p) := by
  intro l
  induction l with
  | nil => intro ps _ h; cases h
  | cons x r ih =>
    obtain ⟨m, e⟩ := x
    intro ps h hm
    obtain ⟨g, t, cs, fuel, p, q, h1, h2, h3, h4, h5, _⟩ := h
    rcases List.mem_cons.1 hm with he | hm
    · cases he
      exact ⟨g, t, cs, fuel, p, h1, h2, h3, h4⟩
    · exact ih h5 hm
theorem iface_cells {H : Type} {enc : TypeId × Value → H} {P : Program} {w : World} {base fuel : Nat} {sp : Nat → Bool} {t : TypeId} {ms : Array (String × TypeId)} {cs : List Value} {nm : String} {d : DataW H} {p : List MemPlace} (ht : P.underlying t = some (.interface ms))
    (h : DataW.trod enc P w base sp false fuel t cs = some (.iface nm d, p)) : ∃ u v, cs = [.iface u v] := by
  cases fuel with
  | zero => simp [DataW.trod] at h
  | succ m =>
    unfold DataW.trod at h
    rw [ht] at h
    split at h <;> first | (rename_i h1 _; cases h1; done) | skip
    all_goals first | exact ⟨_, _, rfl⟩ | (simp at h; done) | (simp_all; done)
set_option maxRecDepth 100000 in
theorem var_iface {l : List (String × DataW Unit)} {w : World} (h : laidMet Tryz.prog l w) {n nm : String} {d : DataW Unit} (hm : (n, DataW.iface nm d) ∈ l) {g : Nat} {t : TypeId} {ms : Array (String × TypeId)} (hg : Tryz.prog.globalNamed n = some g) (hty : (Tryz.prog.globals[g]?).map (·.type) = some t) (ht : Tryz.prog.underlying t = some (.interface ms)) :
    ∃ tp p, w.var? Tryz.prog n = some #[.iface tp p] := by
  obtain ⟨ps, hl, _⟩ := h
  obtain ⟨g', t', cs, fuel, p, h1, h2, h3, h4⟩ := laid_at hl hm
  obtain rfl := Option.some.inj (hg.symm.trans h1)
  obtain rfl := Option.some.inj (hty.symm.trans h2)
  obtain ⟨u, v, hu⟩ := iface_cells ht h4
  exact ⟨u, v, by rw [h3]; congr 1; exact Array.toList_inj.1 hu⟩
set_option maxRecDepth 100000 in
theorem var_tab {l : List (String × DataW Unit)} {w : World} (h : laidMet Tryz.prog l w) {n : String} {zs : List Int} {k : IntKind} (hm : (n, Lib.tabData k zs) ∈ l) {g m : Nat} {t e : TypeId} (hg : Tryz.prog.globalNamed n = some g) (hty : (Tryz.prog.globals[g]?).map (·.type) = some t) (ht : Tryz.prog.underlying t = some (.array m e)) (he : Tryz.prog.underlying e = some (.int k)) (hce : Tryz.prog.cellsOf e = 1) (hct : Tryz.prog.cellsOf t = m) :
    Lib.TabIs Tryz.prog w n k zs := by
  obtain ⟨ps, hl, _⟩ := h
  obtain ⟨g', t', cs, fuel, p, h1, h2, h3, h4⟩ := laid_at hl hm
  obtain rfl := Option.some.inj (hg.symm.trans h1)
  obtain rfl := Option.some.inj (hty.symm.trans h2)
  unfold Lib.TabIs
  rw [h3, ← Lib.cells_of_tab ht he hce hct h4]
theorem pow_tab : (Rows.laid_internal_strconv_uint64pow10 : DataW Unit) = Lib.tabData .u64 Lib.pow10Tab := by kernel_rfl
theorem laid_pow : laidX[2]? = some ("internal/strconv.uint64pow10", Rows.laid_internal_strconv_uint64pow10) := rfl
theorem laid_rng : laidX[4]? = some ("strconv.ErrRange", Rows.laid_strconv_ErrRange) := rfl
theorem laid_syn : laidX[5]? = some ("strconv.ErrSyntax", Rows.laid_strconv_ErrSyntax) := rfl
theorem laid_plain : (laidX.all fun x => x.2.handleName?.isNone) = true := by kernel_rfl
theorem glob_of {W : World} (h : laidMetH Tryz.prog laidX W) (hs : W.ShapedOpen Tryz.prog) : Glob W := by
  rw [MakeChecks.laidMetH_plain _ _ _ laid_plain] at h
  refine ⟨?_, ?_, ?_, hs⟩
  · have hm := List.mem_of_getElem? laid_pow
    rw [pow_tab] at hm
    exact var_tab (g := 1) h hm (by kernel_rfl) (by kernel_rfl) Tryz.underlying192 Tryz.underlying179 (by kernel_rfl) (by kernel_rfl)
  · exact var_iface h (List.mem_of_getElem? laid_syn) (g := 2) (by kernel_rfl) (by kernel_rfl) Tryz.underlying153
  · exact var_iface h (List.mem_of_getElem? laid_rng) (g := 3) (by kernel_rfl) (by kernel_rfl) Tryz.underlying153

/-- the wrap of a row whose condition lists variables, the world's shape kept -/
theorem returns_laid {C : Checked} {os : Os} {H : Type} {enc : TypeId × Value → H} {f : FuncId} {fn : Func} {s : ChangeSpec} {conds : List PathCond} {apart fresh handsOn again : Bool} {X : World → Array Value → Prop}
    (hX : ∀ (w w' : World) (args : Array Value), w.heap = w'.heap → X w args → X w' args)
    (own : ownKnob C.prog.godebug = none) (started : os.Started) (noInit : C.prog.inits.idxOf? f = none) (hfn : C.prog.funcs[f]? = some fn)
    (witness : ∃ (w : World) (tape : Tape) (i : Input), w.os = os ∧ (w.forCall tape i).Shaped C.prog ∧ i.vars = [] ∧ Input.okWide C.prog (w.forCall tape i) .any w.heap.size f i ∧
      ((s.pre enc C.prog fn conds apart (w.forCall tape i).memory i.args ∧ X (w.forCall tape i).memory i.args) ∧ sizedMet enc C.prog fn (OpenSpec.ofChange s) apart (w.forCall tape i).memory i.args) ∧ ({} : Assume).holds C.prog (lone (Frame.enter C.prog f i.args .normal) [] (w.forCall tape i)))
    (contract : ∀ (W : World) (base : Nat) (args : Array Value) (ds gs : List (DataW H)) (before : List MemPlace),
      (∀ (j : Nat) t v, fn.params[j]? = some t → args[j]? = some v → Value.okWide C.prog W .any base t v) →
      DataW.Whole enc C.prog fn.params.toList s.vars apart W args.toList ds gs before →
      (DataW.weightsEach C.prog (fn.params.toList ++ s.plain.varTypes C.prog) (ds ++ gs)).all (· ≤ reachBytes) = true → X W args → W.ShapedOpen C.prog →
      Calls C.prog f args W fun e W' => ∃ v, e = .returned v ∧ s.post enc C.prog fn apart fresh handsOn again W args v W') :
    ReturnsInHanded {} C os f .any (fun w args => (s.pre enc C.prog fn conds apart w args ∧ X w args) ∧ sizedMet enc C.prog fn (OpenSpec.ofChange s) apart w args) (s.post enc C.prog fn apart fresh handsOn again) := by
  refine returnsInHanded_of_calls own started noInit witness ?_
  intro w tape i _ hsh _ hok hpre _
  obtain ⟨_, _, _, fn', hfn', _, _, _, _, hval⟩ := hok
  have e : fn' = fn := Option.some.inj (hfn'.symm.trans hfn)
  subst e
  obtain ⟨⟨⟨ds, gs, before, hw, _⟩, hx⟩, hz⟩ := hpre
  have hw' := DataW.Whole.of_heap (w' := w.forCall tape i) (by rfl) hw
  refine (contract (w.forCall tape i) w.heap.size i.args ds gs before hval hw' (hz.weights hw) (hX _ _ _ (by rfl) hx) hsh).mono fun e W' ⟨v, he, hp⟩ => ?_
  subst he
  exact ChangeSpec.post_blind hp

set_option maxRecDepth 100000 in
/-- A call that returned true and left every old block as it was meets the specification that says so. -/
theorem post_true {H : Type} {enc : TypeId × Value → H} {f : Func} {s : ChangeSpec} {apart fresh handsOn again : Bool} {W W' : World} {args : Array Value} {ds gs : List (DataW H)} {before pa pv : List MemPlace}
    (hW : DataW.Whole enc Tryz.prog f.params.toList s.vars apart W args.toList ds gs before) (hf : f.resultTypes = #[4]) (hs : (s.fn H (ds ++ gs)).results = [.lit (.bool true)]) (hb : Below W.heap.size W W')
    (hargs : ∀ sp : Nat → Bool, (∀ p ∈ before, sp p.block = true) → DataW.TrodAll enc Tryz.prog W' 0 sp true f.params.toList args.toList (s.fn H (ds ++ gs)).args pa)
    (hvars : ∀ sp : Nat → Bool, (∀ p ∈ before, sp p.block = true) → DataW.TrodVars enc Tryz.prog W' sp s.vars (s.fn H (ds ++ gs)).vars pv) (hps : before = pa ++ pv) :
    s.post enc Tryz.prog f apart fresh handsOn again W args (.bool true) W' := by
  have old : ∀ p ∈ before, p.block < W.heap.size := fun p hp => hW.lt p hp
  have res : ∀ (b : Nat) (sp : Nat → Bool) (hd : Bool), DataW.TrodAll enc Tryz.prog W' b sp hd f.resultTypes.toList ((Value.bool true).resultList f.resultTypes.size) (s.fn H (ds ++ gs)).results [] := fun b sp hd => by
    rw [hs, hf]
    exact trodAll_cons_mk (shut_bool Tryz.underlying4 _) trodAll_mk0
  have seen := hargs (fun b => decide (b < W.heap.size)) fun p hp => decide_eq_true (old p hp)
  have vars := hvars (fun b => decide (b < W.heap.size)) fun p hp => decide_eq_true (old p hp)
  refine ⟨ds, gs, before, [], pa, pv, hW, res _ _ _, seen, vars, World.keptBut_mono (fun p hp => ⟨hp, .inr ?_⟩) (hb.frame (· ∈ before)), fun _ => ?_⟩
  · exact List.mem_append.1 (hps ▸ hp)
  · obtain ⟨_, _, _, _, _, frozen, apart'⟩ := hW
    have whole : [] ++ pa ++ pv = before := by rw [hps, List.nil_append]
    refine ⟨?_, _, _, [] ++ pa ++ pv, ⟨[] ++ pa, pv, trodAll_append (hargs _ fun _ _ => rfl) (res _ _ _), hvars _ fun _ _ => rfl, rfl, ?_, ?_⟩, fun p hp _ => whole ▸ hp⟩
    · exact ok_one hf rfl (okWide_bool_mk Tryz.underlying4 _)
    · intro b off hp
      rw [whole] at hp
      exact (hb.frozen (p := ⟨b, off, none⟩) (old _ hp)).trans (frozen b off hp)
    · intro ha
      rw [whole]
      exact apart' ha
section
variable {H : Type} {enc : TypeId × Value → H} {W : World} {base : Nat} {sp : Nat → Bool} {held : Bool}

theorem rd_open {α : Type} {At : World → Addr → α → Prop} {sz : Nat} [Inhabited α] {Q : α → Prop} {t e : TypeId} (ht : Tryz.prog.underlying t = some (.slice e)) (hC : Tryz.prog.cellsOf e = sz) (hsz : 0 < sz)
    (hel : ∀ (a : Addr) (n : Nat) (cs : List Value) (x : DataW H × List MemPlace), (∀ i, i < sz → W.cell? (a.add i) = cs[i]?) → cs.length = sz → DataW.trod enc Tryz.prog W base sp held n e cs = some x → ∃ y : α, At W a y ∧ Q y)
    {fuel : Nat} {v : Value} {x : DataW H × List MemPlace} (h : DataW.trod enc Tryz.prog W base sp held fuel t [v] = some x) :
    ∃ xs : List α, Rd At sz W.heap.size W v xs ∧ ∀ y ∈ xs, Q y := by
  rcases open_slice ht h with ⟨h0, _⟩ | ⟨a, len, cap, m, n, D, Pl, hcs, hb, hl, hm, hmm, _, hi⟩
  · injection h0 with h0
    subst h0
    exact ⟨[], Rd.nil _ _, by simp⟩
  · injection hcs with hcs
    subst hcs
    have hlm : len ≤ m := by rw [hmm]; split <;> omega
    have each : ∀ i, i < len → ∃ y : α, (a.block < W.heap.size ∧ At W (a.add (i * sz)) y) ∧ Q y := fun i hi2 => by
      obtain ⟨cs, hc, htr⟩ := hi i (by omega)
      rw [hC] at hc
      obtain ⟨_, hlen, hat⟩ := World.cells?_some hc
      obtain ⟨y, hy, hq⟩ := hel _ _ _ _ hat hlen htr
      have hblk := World.cells?_block hc hsz
      rw [block_add] at hblk
      exact ⟨y, ⟨hblk, hy⟩, hq⟩
    let f : Nat → α := fun i => if hi : i < len then Classical.choose (each i hi) else default
    have hf : ∀ i, i < len → (a.block < W.heap.size ∧ At W (a.add (i * sz)) (f i)) ∧ Q (f i) := fun i hi => by
      have := Classical.choose_spec (each i hi)
      simp only [f, hi, dif_pos]
      exact this
    have hcap : cap ≤ 9223372036854775807 := by unfold maxLen at hm; exact hm
    refine ⟨(List.range len).map f, ⟨some a, cap, by simp, by simpa using hl, hcap, fun i y hy => ?_⟩, fun y hy => ?_⟩
    · rw [List.getElem?_map] at hy
      obtain ⟨j, hj, rfl⟩ := Option.map_eq_some_iff.1 hy
      have hj2 : i < len := by
        have := (List.getElem?_eq_some_iff.1 hj).1
        simpa using this
      rw [List.getElem?_range hj2] at hj
      injection hj with hj
      subst hj
      exact ⟨a, rfl, (hf i hj2).1⟩
    · obtain ⟨i, hi, rfl⟩ := List.mem_map.1 hy
      exact (hf i (by simpa using hi)).2

/-- a field of a struct, as it reads -/
theorem field_at {e : TypeId} {fs : Array Field} (he : Tryz.prog.underlying e = some (.struct fs)) {n : Nat} {cs : List Value} {x : DataW H × List MemPlace}
    (h : DataW.trod enc Tryz.prog W base sp held n e cs = some x) {j o k : Nat} {t : TypeId} {f : Field} (hj : fs[j]? = some f) (ht : f.type = t) (ho : f.offset = o) (hk : Tryz.prog.cellsOf t = k) :
    ∃ (y : DataW H × List MemPlace) (m : Nat), DataW.trod enc Tryz.prog W base sp held m t ((cs.drop o).take k) = some y := by
  obtain ⟨ys, m, _, _, _, hyl, hf⟩ := DataW.trod_struct he h
  have hjl : j < fs.size := (Array.getElem?_eq_some_iff.1 hj).1
  have h1 := hf j f hj
  rw [ht, ho, hk] at h1
  exact ⟨ys[j]'(by omega), m, h1.trans (List.getElem?_eq_getElem (by omega))⟩
theorem int_at {fuel : Nat} {cs : List Value} {o : Nat} {y : DataW H × List MemPlace} (h : DataW.trod enc Tryz.prog W base sp held fuel 3 ((cs.drop o).take 1) = some y) : ∃ k : Int, cs[o]? = some (.int .i64 k) := by
  obtain ⟨k, e, _, _⟩ := DataW.trod_int Tryz.underlying3 h
  refine ⟨k, ?_⟩
  have h0 : ((cs.drop o).take 1)[0]? = some (.int .i64 k) := by rw [e]; rfl
  simpa using h0
theorem open_pts {fuel : Nat} {v : Value} {x : DataW H × List MemPlace} (h : DataW.trod enc Tryz.prog W base sp held fuel 22 [v] = some x) : ∃ xs : List ByteArray, Rd StrAt 1 W.heap.size W v xs ∧ ∀ p ∈ xs, p.size ≤ 9223372036854775807 :=
  rd_open (α := ByteArray) (At := StrAt) (sz := 1) (Q := fun p => p.size ≤ 9223372036854775807) Tryz.underlying22 (by kernel_rfl) (by omega) (fun a n cs x hat hlen htr => by
    obtain ⟨k, q, _, hs⟩ := DataW.trod_string Tryz.underlying9 htr
    cases q
    exact ⟨k, by simpa [Addr.add, StrAt] using hat 0 (by omega), by unfold maxLen at hs; exact hs⟩) h
set_option maxRecDepth 100000 in
theorem open_notes {fuel : Nat} {v : Value} {x : DataW H × List MemPlace} (h : DataW.trod enc Tryz.prog W base sp held fuel 23 [v] = some x) : ∃ xs : List NoteR, Rd NoteAt 5 W.heap.size W v xs := by
  obtain ⟨xs, hr, _⟩ := rd_open (α := NoteR) (At := NoteAt) (sz := 5) (Q := fun _ => True) Tryz.underlying23 (by kernel_rfl) (by omega) (fun a n cs x hat hlen htr => by
    obtain ⟨y0, m0, t0⟩ := field_at (o := 0) (k := 1) Tryz.underlying69 htr (j := 0) rfl rfl rfl (by kernel_rfl)
    obtain ⟨y1, m1, t1⟩ := field_at (o := 1) (k := 1) Tryz.underlying69 htr (j := 1) rfl rfl rfl (by kernel_rfl)
    obtain ⟨y2, m2, t2⟩ := field_at (o := 2) (k := 1) Tryz.underlying69 htr (j := 2) rfl rfl rfl (by kernel_rfl)
    obtain ⟨y3, m3, t3⟩ := field_at (o := 3) (k := 2) Tryz.underlying69 htr (j := 3) rfl rfl rfl (by kernel_rfl)
    obtain ⟨y4, m4, t4⟩ := field_at (o := 0) (k := 1) Tryz.underlying40 t3 (j := 0) rfl rfl rfl (by kernel_rfl)
    obtain ⟨y5, m5, t5⟩ := field_at (o := 1) (k := 1) Tryz.underlying40 t3 (j := 1) rfl rfl rfl (by kernel_rfl)
    obtain ⟨k0, q0⟩ := int_at t0
    obtain ⟨k1, q1⟩ := int_at t1
    obtain ⟨k2, q2⟩ := int_at t2
    obtain ⟨k4, q4⟩ := int_at t4
    obtain ⟨k5, q5⟩ := int_at t5
    have q4 : cs[3]? = some (.int .i64 k4) := by simpa [List.getElem?_take] using q4
    have q5 : cs[4]? = some (.int .i64 k5) := by simpa [List.getElem?_take] using q5
    refine ⟨⟨k0, k1, k2, k4, k5⟩, ⟨?_, ?_, ?_, ?_, ?_⟩, trivial⟩
    · have := hat 0 (by omega); rw [q0] at this; simpa [Addr.add] using this
    · have := hat 1 (by omega); rw [q1] at this; simpa [Addr.add] using this
    · have := hat 2 (by omega); rw [q2] at this; simpa [Addr.add] using this
    · have := hat 3 (by omega); rw [q4] at this; simpa [Addr.add] using this
    · have := hat 4 (by omega); rw [q5] at this; simpa [Addr.add] using this) h
  exact ⟨xs, hr⟩
set_option maxRecDepth 100000 in
theorem open_sheet {r : Reach} {b0 : Nat} {v : Value} {d : DataW H} {p : List MemPlace} (hv : Value.okWide Tryz.prog W r b0 25 v) (h : DataW.Trod enc Tryz.prog W base sp held 25 v d p) :
    ∃ s : ShR, RdSh W.heap.size W v s ∧ Named s := by
  obtain ⟨v0, v1, v2, y0, y1, y2, n, rfl, _, _, t0, t1, t2⟩ := open_agg3 Tryz.underlying25 (by kernel_rfl) (by kernel_rfl) hv h
  obtain ⟨k0, q0, _, _⟩ := DataW.trod_int Tryz.underlying3 t0
  cases q0
  obtain ⟨pp, r1, hn⟩ := open_pts t1
  obtain ⟨oo, r2⟩ := open_notes t2
  exact ⟨⟨k0, pp, oo⟩, ⟨v1, v2, rfl, r1, r2⟩, hn⟩
set_option maxRecDepth 100000 in
theorem open_str {r : Reach} {b0 : Nat} {v : Value} {d : DataW H} {p : List MemPlace} (hv : Value.okWide Tryz.prog W r b0 9 v) (h : DataW.Trod enc Tryz.prog W base sp held 9 v d p) :
    ∃ s : ByteArray, v = .string s ∧ d = .lit (.string s.data.toList) ∧ s.size ≤ 9223372036854775807 := by
  obtain ⟨s, e1, e2, _, hs⟩ := Go.ChangeMaps.open_string Tryz.underlying9 hv h
  exact ⟨s, e1, e2, by unfold maxLen at hs; exact hs⟩
end
set_option maxRecDepth 100000 in
theorem laidOut : laidOutB Tryz.prog = true := by kernel_rfl
/-- each argument reads behind the call as it read before -/
theorem args_stay {H : Type} {enc : TypeId × Value → H} {W W' : World} (hb : Below W.heap.size W W') : ∀ {ts : List TypeId} {vs : List Value} {ds : List (DataW H)} {ps : List MemPlace},
    (∀ t ∈ ts, Tryz.prog.readableRec t = true ∧ t < Tryz.prog.types.size) → DataW.TrodAll enc Tryz.prog W 0 (fun _ => true) true ts vs ds ps → (∀ x ∈ ps, x.block < W.heap.size) →
    ∀ sp : Nat → Bool, (∀ x ∈ ps, sp x.block = true) → DataW.TrodAll enc Tryz.prog W' 0 sp true ts vs ds ps := by
  intro ts
  induction ts with
  | nil => intro vs ds ps _ h _ sp _; cases vs <;> cases ds <;> first | exact h | exact h.elim
  | cons t ts ih =>
    intro vs ds ps ht h hlt sp hsp
    obtain ⟨v, vs', d, ds', p, q, rfl, rfl, rfl, h1, h2⟩ := trodAll_cons h
    obtain ⟨hr, hrow⟩ := ht t (by simp)
    refine ⟨p, q, WideElems.Trod_stays laidOut hr hrow h1 (fun x hx => hb.same (hlt x (by simp [hx]))) (fun x hx => hsp x (by simp [hx])), ?_, rfl⟩
    exact ih (fun t ht2 => ht t (by simp [ht2])) h2 (fun x hx => hlt x (by simp [hx])) sp (fun x hx => hsp x (by simp [hx]))
end Go.Proofs.YtajdgdelhlfniaaGreatDoor
namespace Go.Proofs.YtajdgdelhlfniaaGreatDoor
open Go.RowKit Go.WideShapes Go.ChangeShapes Go.ChangeAt Go.Deep Go.Joins

section
variable {H : Type} {enc : TypeId × Value → H} {W : World} {base : Nat} {sp : Nat → Bool} {held : Bool}
set_option maxRecDepth 100000 in
theorem okWide_arr {r : Reach} {b0 n : Nat} {t e : TypeId} (ht : Tryz.prog.underlying t = some (.array n e)) {v : Value} (h : Value.okWide Tryz.prog W r b0 t v) : ∃ xs : Array Value, v = .agg xs ∧ xs.size = Tryz.prog.cellsOf t := by
  simp only [Value.okWide, ht] at h
  obtain ⟨cs, h1, h2, _⟩ := h
  exact ⟨cs, h1, h2⟩
set_option maxRecDepth 100000 in
theorem open_array {r : Reach} {b0 n : Nat} {t e : TypeId} (ht : Tryz.prog.underlying t = some (.array n e)) (hce : Tryz.prog.cellsOf e = 1) (hct : Tryz.prog.cellsOf t = n) {v : Value} {d : DataW H} {p : List MemPlace} (hv : Value.okWide Tryz.prog W r b0 t v)
    (h : DataW.Trod enc Tryz.prog W base sp held t v d p) : ∃ xs : Array Value, v = .agg xs ∧ xs.size = n ∧ ∀ i, i < n → ∃ u y m, xs[i]? = some u ∧ DataW.trod enc Tryz.prog W base sp held m e [u] = some y := by
  obtain ⟨xs, rfl, hsz⟩ := okWide_arr ht hv
  rw [hct] at hsz
  obtain ⟨fuel, hf⟩ := h
  obtain ⟨ys, m, _, _, hlen, hyl, hi⟩ := DataW.trod_array ht hf
  refine ⟨xs, rfl, hsz, fun i hi2 => ?_⟩
  have h1 := hi i hi2
  rw [hce, Nat.mul_one] at h1
  simp only [Value.cells] at h1
  rw [List.drop_eq_getElem_cons (by simpa [hsz] using hi2)] at h1
  refine ⟨xs[i], ys[i], m, Array.getElem?_eq_getElem (by omega), ?_⟩
  simpa [List.getElem?_eq_getElem (show i < ys.length by omega)] using h1
theorem byte_of {n : Nat} {u : Value} {y : DataW H × List MemPlace} (h : DataW.trod enc Tryz.prog W base sp held n 5 [u] = some y) : ∃ x : Nat, u = .int .u8 x ∧ x ≤ 255 := by
  obtain ⟨k, hk, _, hw⟩ := DataW.trod_int Tryz.underlying5 h
  cases hk
  simp only [Lit.wf, Bool.and_eq_true, decide_eq_true_eq] at hw
  obtain ⟨h0, h1⟩ := hw
  have h0' : (0 : Int) ≤ k := h0
  have h1' : k ≤ (255 : Int) := h1
  obtain ⟨x, rfl⟩ := Int.eq_ofNat_of_zero_le h0'
  exact ⟨x, rfl, by omega⟩
theorem int_of {n : Nat} {u : Value} {y : DataW H × List MemPlace} (h : DataW.trod enc Tryz.prog W base sp held n 3 [u] = some y) : ∃ x : Int, u = .int .i64 x := by
  obtain ⟨k, hk, _, _⟩ := DataW.trod_int Tryz.underlying3 h
  cases hk
  exact ⟨k, rfl⟩
set_option maxRecDepth 100000 in
theorem open_bytes2 {r : Reach} {b0 : Nat} {v : Value} {d : DataW H} {p : List MemPlace} (hv : Value.okWide Tryz.prog W r b0 60 v) (h : DataW.Trod enc Tryz.prog W base sp held 60 v d p) :
    ∃ x0 x1 : Nat, v = .agg #[.int .u8 x0, .int .u8 x1] ∧ x0 ≤ 255 ∧ x1 ≤ 255 := by
  obtain ⟨xs, rfl, hsz, hi⟩ := open_array Tryz.underlying60 (by kernel_rfl) (by kernel_rfl) hv h
  obtain ⟨u0, u1, rfl⟩ := array2 hsz
  obtain ⟨_, _, _, e0, t0⟩ := hi 0 (by omega)
  obtain ⟨_, _, _, e1, t1⟩ := hi 1 (by omega)
  cases e0; cases e1
  obtain ⟨x0, rfl, h0⟩ := byte_of t0
  obtain ⟨x1, rfl, h1⟩ := byte_of t1
  exact ⟨x0, x1, rfl, h0, h1⟩
set_option maxRecDepth 100000 in
theorem open_ints2 {r : Reach} {b0 : Nat} {v : Value} {d : DataW H} {p : List MemPlace} (hv : Value.okWide Tryz.prog W r b0 32 v) (h : DataW.Trod enc Tryz.prog W base sp held 32 v d p) : ∃ x0 x1 : Int, v = .agg #[.int .i64 x0, .int .i64 x1] := by
  obtain ⟨xs, rfl, hsz, hi⟩ := open_array Tryz.underlying32 (by kernel_rfl) (by kernel_rfl) hv h
  obtain ⟨u0, u1, rfl⟩ := array2 hsz
  obtain ⟨_, _, _, e0, t0⟩ := hi 0 (by omega)
  obtain ⟨_, _, _, e1, t1⟩ := hi 1 (by omega)
  cases e0; cases e1
  obtain ⟨x0, rfl⟩ := int_of t0
  obtain ⟨x1, rfl⟩ := int_of t1
  exact ⟨x0, x1, rfl⟩
theorem word_of {n : Nat} {cs : List Value} {y : DataW H × List MemPlace} (h : DataW.trod enc Tryz.prog W base sp held n 66 cs = some y) : ∃ x : Int, cs = [.int .u16 x] ∧ 0 ≤ x ∧ x ≤ 65535 := by
  obtain ⟨k, hk, _, hw⟩ := DataW.trod_int Tryz.underlying66 h
  simp only [Lit.wf, Bool.and_eq_true, decide_eq_true_eq] at hw
  obtain ⟨h0, h1⟩ := hw
  have h0' : (0 : Int) ≤ k := h0
  have h1' : k ≤ (65535 : Int) := h1
  exact ⟨k, hk, h0', h1'⟩
set_option maxRecDepth 100000 in
theorem open_u16 {r : Reach} {b0 : Nat} {v : Value} {d : DataW H} {p : List MemPlace} (_hv : Value.okWide Tryz.prog W r b0 66 v) (h : DataW.Trod enc Tryz.prog W base sp held 66 v d p) : ∃ x : Int, v = .int .u16 x ∧ 0 ≤ x ∧ x ≤ 65535 := by
  obtain ⟨fuel, hf⟩ := h
  obtain ⟨k, hk, h0, h1⟩ := word_of hf
  obtain ⟨n, rfl⟩ := okWide_int Tryz.underlying66 _hv
  cases hk
  exact ⟨k, rfl, h0, h1⟩
theorem open_u16s {fuel : Nat} {v : Value} {x : DataW H × List MemPlace} (h : DataW.trod enc Tryz.prog W base sp held fuel 58 [v] = some x) : ∃ xs : List Int, Rd U16At 1 W.heap.size W v xs ∧ ∀ y ∈ xs, 0 ≤ y ∧ y ≤ 65535 :=
  rd_open (α := Int) (At := U16At) (sz := 1) (Q := fun y => 0 ≤ y ∧ y ≤ 65535) Tryz.underlying58 (by kernel_rfl) (by omega) (fun a n cs x hat hlen htr => by
    obtain ⟨k, q, h0, h1⟩ := word_of htr
    cases q
    exact ⟨k, by simpa [Addr.add, U16At] using hat 0 (by omega), h0, h1⟩) h
set_option maxRecDepth 100000 in
theorem open_words {r : Reach} {b0 : Nat} {v : Value} {d : DataW H} {p : List MemPlace} (hv : Value.okWide Tryz.prog W r b0 58 v) (h : DataW.Trod enc Tryz.prog W base sp held 58 v d p) : ∃ xs : List Int, Rd U16At 1 W.heap.size W v xs ∧ ∀ y ∈ xs, 0 ≤ y ∧ y ≤ 65535 := by
  obtain ⟨a, l, c, rfl⟩ := okWide_slice Tryz.underlying58 hv
  obtain ⟨fuel, hf⟩ := h
  exact open_u16s hf
set_option maxRecDepth 100000 in
theorem open_words2 {r : Reach} {b0 : Nat} {v : Value} {d : DataW H} {p : List MemPlace} (hv : Value.okWide Tryz.prog W r b0 59 v) (h : DataW.Trod enc Tryz.prog W base sp held 59 v d p) :
    ∃ v0 v1 : Value, v = .agg #[v0, v1] ∧ (∃ xs : List Int, Rd U16At 1 W.heap.size W v0 xs ∧ ∀ y ∈ xs, 0 ≤ y ∧ y ≤ 65535) ∧ ∃ xs : List Int, Rd U16At 1 W.heap.size W v1 xs ∧ ∀ y ∈ xs, 0 ≤ y ∧ y ≤ 65535 := by
  obtain ⟨xs, rfl, hsz, hi⟩ := open_array Tryz.underlying59 (by kernel_rfl) (by kernel_rfl) hv h
  obtain ⟨u0, u1, rfl⟩ := array2 hsz
  obtain ⟨_, _, _, e0, t0⟩ := hi 0 (by omega)
  obtain ⟨_, _, _, e1, t1⟩ := hi 1 (by omega)
  cases e0; cases e1
  exact ⟨_, _, rfl, open_u16s t0, open_u16s t1⟩
set_option maxRecDepth 100000 in
theorem open_note {r : Reach} {b0 : Nat} {v : Value} {d : DataW H} {p : List MemPlace} (hv : Value.okWide Tryz.prog W r b0 69 v) (h : DataW.Trod enc Tryz.prog W base sp held 69 v d p) : ∃ x : NoteR, v = noteV x := by
  obtain ⟨cs, rfl, hsz⟩ := okWide_struct Tryz.underlying69 hv
  obtain ⟨fuel, htr⟩ := h
  simp only [Value.cells] at htr
  have hsz : cs.size = 5 := hsz.trans (by kernel_rfl)
  obtain ⟨y0, m0, t0⟩ := field_at (o := 0) (k := 1) Tryz.underlying69 htr (j := 0) rfl rfl rfl (by kernel_rfl)
  obtain ⟨y1, m1, t1⟩ := field_at (o := 1) (k := 1) Tryz.underlying69 htr (j := 1) rfl rfl rfl (by kernel_rfl)
  obtain ⟨y2, m2, t2⟩ := field_at (o := 2) (k := 1) Tryz.underlying69 htr (j := 2) rfl rfl rfl (by kernel_rfl)
  obtain ⟨y3, m3, t3⟩ := field_at (o := 3) (k := 2) Tryz.underlying69 htr (j := 3) rfl rfl rfl (by kernel_rfl)
  obtain ⟨y4, m4, t4⟩ := field_at (o := 0) (k := 1) Tryz.underlying40 t3 (j := 0) rfl rfl rfl (by kernel_rfl)
  obtain ⟨y5, m5, t5⟩ := field_at (o := 1) (k := 1) Tryz.underlying40 t3 (j := 1) rfl rfl rfl (by kernel_rfl)
  obtain ⟨k0, q0⟩ := int_at t0
  obtain ⟨k1, q1⟩ := int_at t1
  obtain ⟨k2, q2⟩ := int_at t2
  obtain ⟨k4, q4⟩ := int_at t4
  obtain ⟨k5, q5⟩ := int_at t5
  have q4 : cs.toList[3]? = some (.int .i64 k4) := by simpa [List.getElem?_take] using q4
  have q5 : cs.toList[4]? = some (.int .i64 k5) := by simpa [List.getElem?_take] using q5
  refine ⟨⟨k0, k1, k2, k4, k5⟩, ?_⟩
  unfold noteV
  congr 1
  apply Array.ext_getElem?
  intro i
  by_cases hi : i < 5
  · match i, hi with
    | 0, _ => simpa using q0
    | 1, _ => simpa using q1
    | 2, _ => simpa using q2
    | 3, _ => simpa using q4
    | 4, _ => simpa using q5
  · rw [Array.getElem?_eq_none (by omega), Array.getElem?_eq_none (by simp; omega)]
set_option maxRecDepth 100000 in
theorem open_sheet2 {r : Reach} {b0 : Nat} {v : Value} {d : DataW H} {p : List MemPlace} (hv : Value.okWide Tryz.prog W r b0 25 v) (h : DataW.Trod enc Tryz.prog W base sp held 25 v d p) (hw : ∀ n ∈ d.weights Tryz.prog 25, n ≤ reachBytes) :
    ∃ s : ShR, RdSh W.heap.size W v s ∧ Named s ∧ Small s := by
  obtain ⟨v0, v1, v2, y0, y1, y2, n, rfl, rfl, _, t0, t1, t2⟩ := open_agg3 Tryz.underlying25 (by kernel_rfl) (by kernel_rfl) hv h
  obtain ⟨k0, q0, _, _⟩ := DataW.trod_int Tryz.underlying3 t0
  cases q0
  obtain ⟨pp, r1, hn⟩ := open_pts t1
  obtain ⟨oo, r2⟩ := open_notes t2
  refine ⟨⟨k0, pp, oo⟩, ⟨v1, v2, rfl, r1, r2⟩, hn, ?_⟩
  unfold Small
  show oo.length * 40 ≤ _
  have hb : Tryz.prog.bytesOf 69 = 40 := by kernel_rfl
  obtain ⟨A, cap, e, _⟩ := r2
  rcases open_slice Tryz.underlying23 t2 with ⟨h0, _⟩ | ⟨a, len, cap2, m, n2, D, Pl, hcs, _, _, _, _, hx, _⟩
  · injection h0 with h0
    rw [h0] at e
    injection e with _ e2 _
    rw [← e2]
    omega
  · injection hcs with hcs
    rw [hcs] at e
    injection e with _ e2 _
    have hm : (len + (m - len)) * 40 ∈ (DataW.agg [y0.1, y1.1, y2.1]).weights Tryz.prog 25 := by
      rw [hx]
      simp only [DataW.weights, Tryz.underlying25, Tryz.underlying23, DataW.weightsEach, hb, List.length_map, List.length_range, List.map_cons, List.map_nil, List.mem_append, List.mem_cons]
      exact .inr (.inr (.inl (.inl trivial)))
    have := hw _ hm
    unfold reachBytes at this
    rw [← e2]
    omega
theorem weight_at {ts : List TypeId} {ds : List (DataW H)} (h : (DataW.weightsEach Tryz.prog ts ds).all (· ≤ reachBytes) = true) {j : Nat} {t : TypeId} {d : DataW H} (ht : ts[j]? = some t) (hd : ds[j]? = some d) : ∀ n ∈ d.weights Tryz.prog t, n ≤ reachBytes := fun n hn => by
  have := List.all_eq_true.1 h _ (DataW.weights_mem_each ht hd n hn)
  simpa using this
end
end Go.Proofs.YtajdgdelhlfniaaGreatDoor
