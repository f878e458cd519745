/- Walks of the layer sheet: bounds with a note. Walks of the layer sheet: first at notes; Check of the program. -/
import Derived.Test.YtajdgdelhlfniaaGreatDoorH9
import Derived.WalkKit
import Derived.Deep.Quiet
import Derived.Test.YtajdgdelhlfniaaGreatDoorH8
set_option linter.unusedSimpArgs false
set_option linter.unusedVariables false
namespace Go.Proofs.YtajdgdelhlfniaaGreatDoor
open Go.RowKit Go.Shelf
attribute [local go_sem] Oper.semAt_some

theorem wpListIn_load_mat {l n : Nat} {ops : Array Oper} {rest : List Oper} {o : Oper} {a : Act} {w : World} {Q : Exit → Act → World → Prop} (hgd : o.guard = none) (x : Operand) (ho : o.op = .load 93 x)
    {g : Nat} (hx : a.eval x = .pointer (some ⟨g, 0, none⟩)) {T : TypeId} {b : Mat} (hm : MatAt w g T b) (h : wpListIn (Fence.wide.inRound l) n Tryz.prog ops Q rest (a.put o.dst (.agg (matC b))) w) : wpListIn (Fence.wide.inRound l) n Tryz.prog ops Q (o :: rest) a w := by
  refine wpListIn_plain hgd fun K hK => ?_
  refine ⟨fun _ _ => trivial, ?_⟩
  rw [Oper.semAt_plain _ _ _ (fun c h => by rw [ho] at h; cases h)]
  unfold execOp
  simp only [ho, hx, Instr.loadAt, Instr.sureAddr, Sem.run_bind, Sem.run_pure, Result.andThen_ok, load_mat hm]
  exact hK _ _ h
theorem run_store_mat {w : World} {g : Nat} {T : TypeId} {b b' : Mat} (hm : MatAt w g T b) : (storeVar 93 ⟨g, 0, none⟩ (.agg (matC b'))).run Tryz.prog w = .ok () (w.setRow g (matC b')) :=
  run_storeVar_row w g T 93 (matC b) (matC b') hm (by rw [size93, matC_size]) (by rw [matC_size, matC_size]) (matC_one b')
theorem wpListIn_store_mat {l n : Nat} {ops : Array Oper} {rest : List Oper} {o : Oper} {a : Act} {w : World} {Q : Exit → Act → World → Prop} (hgd : o.guard = none) (x y : Operand) (ho : o.op = .store 93 x y)
    {g : Nat} (hx : a.eval x = .pointer (some ⟨g, 0, none⟩)) {T : TypeId} {b b' : Mat} (hy : a.eval y = .agg (matC b')) (hm : MatAt w g T b)
    (h : ∀ w', MatAt w' g T b' → w.grownBy w' (some g) → wpListIn (Fence.wide.inRound l) n Tryz.prog ops Q rest (a.put o.dst undef) w') : wpListIn (Fence.wide.inRound l) n Tryz.prog ops Q (o :: rest) a w := by
  refine wpListIn_plain hgd fun K hK => ?_
  refine ⟨fun _ _ => trivial, ?_⟩
  rw [Oper.semAt_plain _ _ _ (fun c h => by rw [ho] at h; cases h)]
  unfold execOp
  simp only [ho, hx, hy, Instr.storeAt, Instr.sureAddr, Sem.run_bind, Sem.run_pure, Result.andThen_ok, run_store_mat (b' := b') hm]
  exact hK _ _ (h _ (setRow_mat hm).1 (setRow_mat hm).2)

theorem store_cells_mat {w : World} {g : Nat} {T : TypeId} {b : Mat} (hm : MatAt w g T b) (b' : Mat) : ∃ w', (storeCells ⟨g, 0, none⟩ (matC b').toList).run Tryz.prog w = .ok () w' ∧ MatAt w' g T b' ∧ w.grownBy w' (some g) := by
  have := run_storeCells_from (P := Tryz.prog) g T (matC b').toList 0 (matC b) w hm (by have := matC_size b; have := matC_size b'; simp; omega) (fun v hv => (Array.all_eq_true_iff_forall_mem.1 (matC_one b')) v (by simpa using hv))
  refine ⟨w.setRow g (matC b'), by simpa using this, setRow_mat hm⟩
theorem operIn_load_mat {l n : Nat} {o : Oper} {a : Act} {w : World} {K : Act → World → Prop} {Q : Exit → Act → World → Prop} (x : Operand) (ho : o.op = .load 93 x)
    {g : Nat} (hx : a.eval x = .pointer (some ⟨g, 0, none⟩)) {T : TypeId} {b : Mat} (hm : MatAt w g T b) (h : K (a.put o.dst (.agg (matC b))) w) : o.wpIn (Fence.wide.inRound l) n Tryz.prog a w K Q := by
  refine ⟨fun _ _ => trivial, ?_⟩
  rw [Oper.semAt_plain _ _ _ (fun c h => by rw [ho] at h; cases h)]
  unfold execOp
  simp only [ho, hx, Instr.loadAt, Instr.sureAddr, Sem.run_bind, Sem.run_pure, Result.andThen_ok, load_mat hm]
  exact h
theorem operIn_store_mat {l n : Nat} {o : Oper} {a : Act} {w : World} {K : Act → World → Prop} {Q : Exit → Act → World → Prop} (x y : Operand) (ho : o.op = .store 93 x y)
    {g : Nat} (hx : a.eval x = .pointer (some ⟨g, 0, none⟩)) {T : TypeId} {b b' : Mat} (hy : a.eval y = .agg (matC b')) (hm : MatAt w g T b)
    (h : ∀ w', MatAt w' g T b' → w.grownBy w' (some g) → K (a.put o.dst undef) w') : o.wpIn (Fence.wide.inRound l) n Tryz.prog a w K Q := by
  refine ⟨fun _ _ => trivial, ?_⟩
  rw [Oper.semAt_plain _ _ _ (fun c h => by rw [ho] at h; cases h)]
  unfold execOp
  simp only [ho, hx, hy, Instr.storeAt, Instr.sureAddr, Sem.run_bind, Sem.run_pure, Result.andThen_ok, run_store_mat (b' := b') hm]
  exact h _ (setRow_mat hm).1 (setRow_mat hm).2

theorem withM_stop {iv wd : Int} {x : NoteR} {b : Mat} {k : Nat} (hk : k < 2) (hp : ∀ j, j < k → bndB iv wd x b j = true) (hf : bndB iv wd x b k = false) : withM iv wd b x = (bndM iv wd x b (k + 1), false) := by
  unfold withM
  match k, hk with
  | 0, _ => rw [if_pos hf]
  | 1, _ =>
    have h0 := hp 0 (by omega)
    rw [if_neg (by simp [h0]), if_pos hf]
theorem withM_end {iv wd : Int} {x : NoteR} {b : Mat} (hp : ∀ j, j < 2 → bndB iv wd x b j = true) : withM iv wd b x = (bndM iv wd x b 2, true) := by
  unfold withM
  rw [if_neg (by simp [hp 0 (by omega)]), if_neg (by simp [hp 1 (by omega)])]
theorem results77 {w : World} {g : Nat} {a : Addr} {m : Mat} {r : Bool} {tmps : Array Value} (h1 : MatAt w g 93 m) (h2 : w.cell? a = some (.bool r)) (t1 : tmps[8]?.getD undef = .pointer (some ⟨g, 0, none⟩)) (t2 : tmps[9]?.getD undef = .pointer (some a)) :
    (results Tryz.f77 tmps).run Tryz.prog w = .ok (.tuple #[.agg (matC m), .bool r]) w := by
  have hl := load_mat h1
  clear h1
  generalize matC m = cs at *
  have hb : (loadVar 4 a).run Tryz.prog w = .ok (.bool r) w := by simp [loadVar, go_sem, h2]
  simp [results, Tryz.results77, t1, t2, asAddr, hl, hb]

/-- what holds between two rounds -/
structure WJ (iv wd : Int) (i : Nat) (x : NoteR) (b : Mat) (vp vn : Value) (w : World) (k : Nat) (W : World) : Prop where
  below : Below w.heap.size w W
  m1 : MatAt W (w.heap.size + 1) 93 (bndM iv wd x b k)
  m2 : MatAt W (w.heap.size + 2) 93 zeroM
  b3 : W.heap[w.heap.size + 3]? = some (.cells #[.bool false] 4)
  b4 : W.heap[w.heap.size + 4]? = some (.cells #[.int .i64 iv, vp, vn] 104)
  b5 : W.heap[w.heap.size + 5]? = some (.cells #[.int .i64 i] 3)
  b6 : W.heap[w.heap.size + 6]? = some (.cells #[.int .i64 wd] 3)
  ok : ∀ j, j < k → bndB iv wd x b j = true
theorem WJ.move {iv wd : Int} {i : Nat} {x : NoteR} {b : Mat} {vp vn : Value} {w : World} {k : Nat} {A B : World} (h : WJ iv wd i x b vp vn w k A) (hb : Below w.heap.size w B)
    (hc : ∀ i o, i < w.heap.size + 7 → isData o = true → A.heap[i]? = some o → B.heap[i]? = some o) : WJ iv wd i x b vp vn w k B :=
  ⟨hb, hc _ _ (by omega) rfl h.m1, hc _ _ (by omega) rfl h.m2, hc _ _ (by omega) rfl h.b3, hc _ _ (by omega) rfl h.b4, hc _ _ (by omega) rfl h.b5, hc _ _ (by omega) rfl h.b6, h.ok⟩
/-- how it is left -/
structure WX (iv wd : Int) (x : NoteR) (b : Mat) (w : World) (c : Code) (W : World) : Prop where
  c : c = .ret
  below : Below w.heap.size w W
  res : ∃ k, k < 2 ∧ (∀ j, j < k → bndB iv wd x b j = true) ∧ bndB iv wd x b k = false ∧ MatAt W (w.heap.size + 2) 93 (bndM iv wd x b (k + 1)) ∧ W.heap[w.heap.size + 3]? = some (.cells #[.bool false] 4)

set_option maxRecDepth 100000 in
set_option maxHeartbeats 4000000 in
theorem with_any {B : Nat} {w : World} {v : Value} {s : ShR} {b : Mat} {i : Nat} {wd : Int} (hs : RdSh B w v s) (hg : Good s) (hi : i < s.notes.length) (hfb : Fine b) (hwd : 0 ≤ wd ∧ wd ≤ 9000) (hB : B ≤ w.heap.size) :
    Calls Tryz.prog 77 #[v, .agg (matC b), .int .i64 i, .int .i64 wd] w fun e w' =>
      e = .returned (.tuple #[.agg (matC (withM s.iv wd b (s.notes.getD i default)).1), .bool (withM s.iv wd b (s.notes.getD i default)).2]) ∧ Below w.heap.size w w' := by
  obtain ⟨vp, vn, rfl, hp, ho⟩ := id hs
  obtain ⟨An, cn, rfl, h5, h6, _⟩ := id ho
  have hx := hg.notes _ (getD_mem hi default)
  have hiv := hg.iv
  have hpl := hg.plen
  have hnl := hg.nlen
  have hnt := ho.note hi
  rw [← List.getD_eq_getElem?_getD] at hnt
  generalize s.notes.getD i default = x at *
  generalize s.iv = iv at *
  have HP := Lib.hid hnt
  have HX := Lib.hid hx
  have HF := Lib.hid hfb
  clear hnt hx hfb hs hp ho h5 h6
  refine calls_of_wp_marks Tryz.func77 rfl ?_
  simp only [Tryz.ntmps77, List.size_toArray, List.length_cons, List.length_nil, Nat.reduceAdd, Nat.reduceSub, Array.replicate_succ,
     Array.replicate_zero, List.push_toArray, List.append_toArray, List.nil_append, List.cons_append]
  obtain ⟨W1, hW1, r1, z1, d1⟩ := box_any w #[.int .i64 iv, vp, .slice An s.notes.length cn] 104
  obtain ⟨W2, hW2, r2, z2, d2⟩ := box_any W1 (matC b) 93
  go_upto_region 1 with (refine wpList_alloc_mat rfl rfl ?_; intro W3 hW3 hm3 hb3 hz3)
  clear hW3 hm3 hb3 hz3
  obtain ⟨W3, hW3, r3, z3, d3⟩ := box_any W2 (matC zeroM) 93
  obtain ⟨W4, hW4, r4, z4, d4⟩ := box_any W3 #[.bool false] 4
  rw [← hW1, ← hW2, ← hW3, ← hW4]
  have m1 : MatAt W4 (w.heap.size + 1) 93 b := by
    have := (d4.block _ (by omega)).trans ((d3.block _ (by omega)).trans r2)
    rwa [z1] at this
  have m2 : MatAt W4 (w.heap.size + 2) 93 zeroM := by
    have := (d4.block _ (by omega)).trans r3
    rwa [z2, z1] at this
  have m3 : W4.heap[w.heap.size + 3]? = some (.cells #[.bool false] 4) := by
    have := r4
    rwa [z3, z2, z1] at this
  have c0 : W4.heap[w.heap.size]? = some (.cells #[.int .i64 iv, vp, .slice An s.notes.length cn] 104) := (d4.block _ (by omega)).trans ((d3.block _ (by omega)).trans ((d2.block _ (by omega)).trans r1))
  have hb4 : Below w.heap.size w W4 := d1.trans ((d2.mono (by omega)).trans ((d3.mono (by omega)).trans (d4.mono (by omega))))
  have hz4 : W4.heap.size = w.heap.size + 4 := by omega
  have M1 := Lib.hid m1
  have M2 := Lib.hid m2
  have M3 := Lib.hid m3
  have HB4 := Lib.hid hb4
  have HZ4 := Lib.hid hz4
  have k0 := cellOf c0 0 rfl
  have k1 := cellOf c0 1 rfl
  have k2 := cellOf c0 2 rfl
  clear hW1 hW2 hW3 hW4 r1 r2 r3 r4 z1 z2 z3 z4 d1 d2 d3 d4 m1 m2 m3 c0 hb4 hz4
  obtain ⟨W5, hW5, r5, z5, d5⟩ := box_any W4 #[.int .i64 iv, vp, .slice An s.notes.length cn] 104
  obtain ⟨W6, hW6, r6, z6, d6⟩ := box_any W5 #[.int .i64 i] 3
  obtain ⟨W7, hW7, r7, z7, d7⟩ := box_any W6 #[.int .i64 wd] 3
  go_wp2_with (go_at_call 101; refine (bounds_any _ _ _ _ _ _).mono ?_; rintro e w' ⟨rfl, rfl⟩)
  rw [← hW5, ← hW6, ← hW7, HZ4.out]
  have hz4 := HZ4.out
  have hJ0 : WJ iv wd i x b vp (.slice An s.notes.length cn) w 0 W7 := by
    have hk : ∀ k, k < w.heap.size + 4 → W7.heap[k]? = W4.heap[k]? := fun k hk => (d7.block _ (by omega)).trans ((d6.block _ (by omega)).trans (d5.block _ (by omega)))
    refine ⟨HB4.out.trans ((d5.mono (by omega)).trans ((d6.mono (by omega)).trans (d7.mono (by omega)))), (hk _ (by omega)).trans M1.out, (hk _ (by omega)).trans M2.out, (hk _ (by omega)).trans M3.out, ?_, ?_, ?_, fun j hj => by omega⟩
    · rw [← hz4]; exact (d7.block _ (by omega)).trans ((d6.block _ (by omega)).trans r5)
    · have := (d7.block _ (by omega)).trans r6
      rwa [show W5.heap.size = w.heap.size + 5 by omega] at this
    · have := r7
      rwa [show W6.heap.size = w.heap.size + 6 by omega] at this
  have hz7 : W7.heap.size = w.heap.size + 7 := by omega
  clear hW5 hW6 hW7 d5 d6 d7 r5 r6 r7 z5 z6 z7 M1 M2 M3 k0 k1 k2 hz4
  refine range_law (gf := 118) (lb := #[.pointer (some ⟨w.heap.size + 4, 0, none⟩), .pointer (some ⟨w.heap.size + 4 + 1, 0, none⟩), .pointer (some ⟨w.heap.size + 4 + 2, 0, none⟩)]) rfl (enters_of Tryz.func118 (by kernel_rfl) rfl)
    (fun _ => rfl) (bounds_iter HX.out hpl.2 hiv hwd hi hnl B (w.heap.size + 4) (A := An) (c := cn)) ?hKp ?hSN
    (WJ iv wd i x b vp (.slice An s.notes.length cn) w) (WX iv wd x b w) ?hJb ?hXb ?hJS ?hJN hJ0 ?hround ?hdone ?hstop
  case hKp => exact fun H A B C h hd b cs T f hb hc => hd _ _ (h b cs T f hb hc) rfl
  case hSN => exact fun H A B h => h.2
  case hJb => exact fun k A B h hb => h.move (h.below.trans (hb.below.mono (by omega))) fun i o _ hd ho => hb.data _ _ ho hd
  case hXb =>
    intro c A B h hb
    obtain ⟨k, hk, h1, h2, h3, h4⟩ := h.res
    exact ⟨h.c, h.below.trans (hb.below.mono (by omega)), k, hk, h1, h2, hb.data _ _ h3 rfl, hb.data _ _ h4 rfl⟩
  case hJS => exact fun k A B h hb => h.move (h.below.trans (hb.1.mono (by omega))) fun i o hi _ ho => (hb.1.block i (by omega)).trans ho
  case hJN =>
    intro k A h
    obtain ⟨ad, rfl, hlt, hn⟩ := HP.out
    exact ⟨cellOf h.b4 0 rfl, cellOf h.b4 2 rfl, cellOf h.b5 0 rfl, cellOf h.b6 0 rfl, ad, rfl, AtKeep.keep w A _ x (fun p hp => h.below.cell (by rw [hp, block_add]; omega)) hn⟩
  case hdone =>
    intro d W hd h hk
    have Hh := Lib.hid h
    have Hk := Lib.hid hk
    have m1 := h.m1
    have m2 := h.m2
    have f3 : W.frozen? ⟨w.heap.size + 1 + 1 + 1, 0, none⟩ = false := by
      have := h.b3
      show W.frozen? ⟨w.heap.size + 3, 0, none⟩ = false
      simp [World.frozen?, this]
    have c3 : W.cell? ⟨w.heap.size + 1 + 1 + 1, 0, none⟩ = some (.bool false) := cellOf h.b3 0 rfl
    have hnc : ∀ w2 : World, W.grownBy w2 (some (w.heap.size + 2)) → NC W w2 := fun w2 hg => (NC.refl W).grown hg fun r hr => by
      cases hr
      exact ⟨_, _, _, h.m2⟩
    have HNC := Lib.hid hnc
    clear h hk hnc
    simp only [Exit.inBlock, Exit.then]
    go_wp2_with (first | (refine wpList_load_mat rfl _ rfl rfl m1 ?_) | (refine wpList_store_mat rfl _ _ rfl rfl rfl m2 ?_; intro w2 hm2 hg2; have c3 := hg2.cell c3 (by simp); have f3 := (World.frozen?_of_block (hg2.block (w.heap.size + 1 + 1 + 1) (cell_lt c3 |> fun _ => lt_of_block Hh.out.b3) (by simp))).trans f3))
    have hne : w.heap.size + 2 ≠ w.heap.size + 3 := by omega
    refine leaves_one rfl ((HNC.out w2 hg2).setCell _ _ _ _ Hk.out rfl) (Nat.le_refl d) fun w' hb => ?_
    have e2 : MatAt w' (w.heap.size + 2) 93 (bndM iv wd x b 2) := hb.data _ _ ((Below.heap_setCell _ _ _ _ hne).trans hm2) rfl
    have e3 := hb.cell (a := ⟨w.heap.size + 1 + 1 + 1, 0, none⟩) (v := .bool true) (World.cell?_setCell_same' _ _ _ (by rw [c3]; rfl))
    refine ⟨_, results77 e2 e3 rfl rfl, ?_, ?_⟩
    · rw [withM_end Hh.out.ok]
    · have hk2 := grown_below hg2 (show w.heap.size ≤ w.heap.size + 2 by omega) (by have := Hh.out.below.size; omega)
      exact Hh.out.below.trans ((hk2.setCell (by show w.heap.size ≤ w.heap.size + 3; omega) _).trans (hb.below.mono (by omega)))
  case hstop =>
    intro d c W hd h hk
    obtain ⟨rfl, hbl, k, hk2, h1, h2, h3, h4⟩ := h
    have c3 : W.cell? ⟨w.heap.size + 1 + 1 + 1, 0, none⟩ = some (.bool false) := cellOf h4 0 rfl
    go_wp2
    refine leaves_one rfl hk (Nat.le_refl d) fun w' hb => ?_
    refine ⟨_, results77 (hb.data _ _ h3 rfl : MatAt w' (w.heap.size + 2) 93 _) (hb.cell c3) rfl rfl, ?_, hbl.trans (hb.below.mono (by omega))⟩
    rw [withM_stop hk2 h1 h2]
  case hround =>
    intro r k W hk h hr1 hr2
    have hl := bnd_lt (wd := wd) HX.out hpl.2 k
    have hmo := bnd_most HX.out hiv.1 hwd k
    have Hel := Lib.hid (show bndEl iv wd x k = #[.agg #[.int .i64 (bnd iv wd x k).1, .int .i64 (bnd iv wd x k).2.1, .int .i64 (bnd iv wd x k).2.2]] from rfl)
    have HbB := Lib.hid (show bndB iv wd x b k = bindB (bnd iv wd x k).1 (bnd iv wd x k).2.1 (bnd iv wd x k).2.2 (bndM iv wd x b k) from rfl)
    have HbM := Lib.hid (show bndM iv wd x b (k + 1) = bindR (bnd iv wd x k).1 (bnd iv wd x k).2.1 (bnd iv wd x k).2.2 (bndM iv wd x b k) from rfl)
    have HFk := Lib.hid (bndM_fine (wd := wd) HX.out hpl.2 HF.out k)
    rw [Hel.out]
    clear Hel
    generalize (bnd iv wd x k).1 = f at *
    generalize (bnd iv wd x k).2.1 = t at *
    generalize (bnd iv wd x k).2.2 = m at *
    generalize hT : Array.foldl _ _ _ = T
    simp at hT
    subst hT
    obtain ⟨W1, hW1, r1, z1, d1⟩ := box_any W #[.int .i64 f, .int .i64 t, .int .i64 m] 147
    gi_wp2
    rw [← hW1]
    clear hW1
    have h1 := h.move (h.below.trans (d1.mono h.below.size)) fun i o hi _ ho => (d1.block i (lt_of_block ho)).trans ho
    refine ⟨(NC.refl W).of_below d1, fun W₂ hb2 hz2 => ?_⟩
    have hdk : BK (W7.heap.size + 2) W W₂ := fun b cs T f hb hc => hb2.data _ _ ((d1.block b (lt_of_block hc)).trans hc) rfl
    have h2 := h1.move (h1.below.trans (hb2.below.mono (by omega))) fun i o _ hd ho => hb2.data _ _ ho hd
    have hx := hb2.data _ _ r1 rfl
    have x0 := cellOf hx 0 rfl
    have x1 := cellOf hx 1 rfl
    have x2 := cellOf hx 2 rfl
    have hbd := Lib.hid (bind_any (f := f) (t := t) (m := m) h2.m1 hl.1 hl.2 HFk.out (by omega) (by omega))
    have H2 := Lib.hid h2
    have HDK := Lib.hid hdk
    clear hb2 h1 h2 hdk hx h r1 z1 d1
    cases hbb : bindB f t m (bndM iv wd x b k) with
    | true =>
      rw [hbb] at hbd HbB
      gi_wp2_with (refine ⟨trivial, rfl, ?_⟩; gi_at_call 72; refine (callsIn_wide.2 hbd.out).mono ?_; rintro e w3 ⟨rfl, hm3, hg3⟩)
      rw [← HbM.out] at hm3
      have h3 := H2.out
      refine ⟨(NC.refl W₂).grown hg3 (fun r hr => by cases hr; exact ⟨_, _, _, h3.m1⟩), ⟨h3.below.trans (grown_below hg3 (by omega) h3.below.size), hm3, ?_, ?_, ?_, ?_, ?_, fun j hj => ?_⟩, fun b0 cs T f0 hb0 hc0 => ?_⟩
      · exact h3.m2.grown hg3 (by simp)
      · exact (hg3.block _ (lt_of_block h3.b3) (by simp)).trans h3.b3
      · exact (hg3.block _ (lt_of_block h3.b4) (by simp)).trans h3.b4
      · exact (hg3.block _ (lt_of_block h3.b5) (by simp)).trans h3.b5
      · exact (hg3.block _ (lt_of_block h3.b6) (by simp)).trans h3.b6
      · by_cases e : j < k
        · exact h3.ok j e
        · obtain rfl : j = k := by omega
          exact HbB.out
      · have := HDK.out b0 cs T f0 hb0 hc0
        exact (hg3.block _ (lt_of_block this) (by simp; omega)).trans this
    | false =>
      rw [hbb] at hbd HbB
      have hm2 := H2.out.m2
      gi_wp2_with (refine ⟨trivial, rfl, ?_⟩; gi_at_call 72; refine (callsIn_wide.2 hbd.out).mono ?_; rintro e w3 ⟨rfl, hm3, hg3⟩; have hm2 := hm2.grown hg3 (by simp))
      obtain ⟨w4, hst, hm4, hg4⟩ := store_cells_mat hm2 (bindR f t m (bndM iv wd x b k))
      have r3 : w4.heap[w.heap.size + 3]? = some (.cells #[.bool false] 4) := (hg4.block _ (lt_of_block ((hg3.block _ (lt_of_block H2.out.b3) (by simp)).trans H2.out.b3)) (by simp)).trans ((hg3.block _ (lt_of_block H2.out.b3) (by simp)).trans H2.out.b3)
      have f3 : w4.frozen? ⟨w.heap.size + 1 + 1 + 1, 0, none⟩ = false := by
        show w4.frozen? ⟨w.heap.size + 3, 0, none⟩ = false
        simp [World.frozen?, r3]
      have c3 : w4.cell? ⟨w.heap.size + 1 + 1 + 1, 0, none⟩ = some (.bool false) := cellOf r3 0 rfl
      have R3 := Lib.hid r3
      clear r3
      refine operIn_load_mat _ rfl rfl hm3 ?_
      gi_wp2
      have h3 := H2.out
      refine ⟨((NC.refl W₂).grown hg3 (fun r hr => by cases hr; exact ⟨_, _, _, h3.m1⟩)).trans (((NC.refl w3).grown hg4 (fun r hr => by cases hr; exact ⟨_, _, _, hm2⟩)).setCell _ _), rfl, ?_, k, hk, h3.ok, HbB.out, ?_, ?_⟩
      · exact (h3.below.trans (grown_below hg3 (by omega) h3.below.size)).trans ((grown_below hg4 (by omega) (by have := hg3.size; have := h3.below.size; omega)).setCell (by show w.heap.size ≤ w.heap.size + 3; omega) _)
      · rw [HbM.out]
        exact (Below.heap_setCell _ _ _ _ (by show w.heap.size + 2 ≠ w.heap.size + 3; omega)).trans hm4
      · exact heap_setCell_row R3.out _
end Go.Proofs.YtajdgdelhlfniaaGreatDoor
namespace Go.Proofs.YtajdgdelhlfniaaGreatDoor
open Go.RowKit

theorem check2_any {w : World} {a : Addr} {iv : Int} {A : Option Addr} {n c : Nat} {vn : Value} (i : Int) (x : NoteR) (h0 : w.cell? a = some (.int .i64 iv)) (h1 : w.cell? ⟨a.block, a.off + 1, none⟩ = some (.slice A n c)) (h2 : w.cell? ⟨a.block, a.off + 2, none⟩ = some vn) (hiv : 1 ≤ iv) (hn : n ≤ 1000) :
    Calls Tryz.prog 60 #[.int .i64 i, noteV x, .pointer (some a)] w fun e w' => e = .returned (.int .i64 (noteErr n iv x)) ∧ Below w.heap.size w w' := by
  obtain ⟨W2, hW2, r2, z2, b2⟩ := box_any w #[.int .i64 x.kind, .int .i64 x.a, .int .i64 x.b, .int .i64 x.lo, .int .i64 x.hi] 69
  have c0 := cellOf r2 0 rfl
  have c1 := cellOf r2 1 rfl
  have c2 := cellOf r2 2 rfl
  have c3 := cellOf r2 3 rfl
  have c4 := cellOf r2 4 rfl
  have h0 := (b2.cell (cell_lt h0)).trans h0
  have h1 := (b2.cell (cell_lt h1)).trans h1
  have h2 := (b2.cell (cell_lt h2)).trans h2
  have HF := Lib.hid (pnote_any iv A n c vn x W2 hiv hn)
  have Hb := Lib.hid b2
  clear b2 r2 z2
  obtain ⟨kind, xa, b, lo, hi⟩ := x
  unfold noteV at *
  simp only at *
  go_enter Tryz.func60, Tryz.ntmps60
  go_upto_region 1 with (fail)
  rw [← hW2]
  clear hW2
  go_wp2_with (go_at_call 61; refine HF.out.mono ?_; rintro e w3 ⟨rfl, hb3⟩)
  go_ret
  exact ⟨rfl, Hb.out.trans (hb3.mono Hb.out.size)⟩

def ntErr (s : ShR) (i : Nat) : Int := noteErr s.pts.length s.iv (s.notes.getD i default)
set_option maxRecDepth 100000 in
set_option maxHeartbeats 1000000 in
theorem first2_any {B : Nat} {w : World} {v : Value} {a : Addr} {A : Option Addr} {c : Nat} {vn : Value} {s : ShR} (hp : Rd NoteAt 5 B w v s.notes)
    (h0 : w.cell? a = some (.int .i64 s.iv)) (h1 : w.cell? ⟨a.block, a.off + 1, none⟩ = some (.slice A s.pts.length c)) (h2 : w.cell? ⟨a.block, a.off + 2, none⟩ = some vn) (hiv : 1 ≤ s.iv) (hn : s.pts.length ≤ 1000) (hB : B ≤ w.heap.size) (hl : s.notes.length ≤ 12) :
    Calls Tryz.prog 59 #[v, .func (.func 60) #[] #[.pointer (some a)]] w fun e w' => e = .returned (firstV s.notes.length (ntErr s)) ∧ Below w.heap.size w w' := by
  obtain ⟨Ap, cp, rfl, h3, h4, _⟩ := id hp
  have Hp := Lib.hid hp
  have H0 := Lib.hid h0
  have H1 := Lib.hid h1
  have H2 := Lib.hid h2
  clear hp h0 h1 h2 h3 h4
  go_enter Tryz.func59, Tryz.ntmps59
  go_wp2
  go_loopw [11] (fun i wr => ∃ k : Nat, k ≤ s.notes.length ∧ i = .int .i64 k ∧ (∀ j, j < k → ntErr s j = 0) ∧ Below w.heap.size w wr) (fun i _ => s.notes.length - (intOf i).toNat)
  case atStart => exact ⟨0, Nat.zero_le _, rfl, fun _ h => by omega, Below.refl _ _⟩
  case round =>
    obtain ⟨k, hk, rfl, hno, hbr⟩ := hrel
    have Hno := Lib.hid hno
    have HB := Lib.hid hbr
    clear hno
    by_cases hlt : k < s.notes.length
    · obtain ⟨ad, rfl, _, n0, n1, n2, n3, n4⟩ := (Hp.out.below (hbr.mono hB)).note hlt
      have hx : ntErr s k = noteErr s.pts.length s.iv (s.notes[k]?.getD default) := by unfold ntErr; rw [List.getD_eq_getElem?_getD]
      generalize s.notes[k]?.getD default = x at *
      obtain ⟨W2, hW2, r2, z2, b2⟩ := box_any wr #[.int .i64 x.kind, .int .i64 x.a, .int .i64 x.b, .int .i64 x.lo, .int .i64 x.hi] 69
      have c0 := cellOf r2 0 rfl
      have c1 := cellOf r2 1 rfl
      have c2 := cellOf r2 2 rfl
      have c3 := cellOf r2 3 rfl
      have c4 := cellOf r2 4 rfl
      have hb2 := hbr.trans (b2.mono hbr.size)
      have HF := Lib.hid (check2_any (w := W2) (k : Int) x ((hb2.cell (cell_lt H0.out)).trans H0.out) ((hb2.cell (cell_lt H1.out)).trans H1.out) ((hb2.cell (cell_lt H2.out)).trans H2.out) hiv hn)
      have HB2 := Lib.hid hb2
      have HX := Lib.hid hx
      clear hb2 b2 r2 z2 hbr hx
      unfold noteV at HF
      by_cases h0 : ntErr s k = 0
      · have hb0 : (noteErr s.pts.length s.iv x != 0) = false := by rw [← HX.out]; simp [h0]
        have HZ := Lib.hid h0
        clear h0
        go_upto_region 4 with (fail)
        rw [← hW2]
        clear hW2
        go_wp2_with (go_at_call 60; refine HF.out.mono ?_; rintro e w2 ⟨rfl, hb3⟩)
        go_roundw
        case rel => exact ⟨k + 1, by omega, by go_num, fun j hj => by
          by_cases h : j < k
          · exact Hno.out j h
          · obtain rfl : j = k := by omega
            exact HZ.out, HB2.out.trans (hb3.mono HB2.out.size)⟩
        case measure => simp [intOf]; omega
      · have hb0 : (noteErr s.pts.length s.iv x != 0) = true := by rw [← HX.out]; simp [h0]
        have e := Lib.hid (firstV_some hlt h0 Hno.out)
        rw [HX.out] at e
        clear h0
        go_upto_region 4 with (fail)
        rw [← hW2]
        clear hW2
        go_wp2_with (go_at_call 60; refine HF.out.mono ?_; rintro e w2 ⟨rfl, hb3⟩)
        go_ret2
        exact ⟨by rw [e.out]; rfl, HB2.out.trans (hb3.mono HB2.out.size)⟩
    · have hk2 := Lib.hid (show k = s.notes.length by omega)
      have e := Lib.hid (firstV_none (n := s.notes.length) (fun j hj => Hno.out j (by rw [hk2.out]; exact hj)))
      go_wp2
      go_ret2
      exact ⟨by rw [e.out]; rfl, HB.out⟩

theorem first1_at {B : Nat} {w : World} {v : Value} {s : ShR} (hp : Rd StrAt 1 B w v s.pts) (hn : ∀ p ∈ s.pts, p.size ≤ 9223372036854775807) (hl : s.pts.length ≤ 8) (hB : B ≤ w.heap.size) :
    Calls Tryz.prog 57 #[v, .func (.func 58) #[] #[.pointer (some ⟨w.heap.size + 1, 0, none⟩)]] ((w.alloc (.map #[] 0)).alloc (.cells #[.map (some w.heap.size)] 81)) fun e w' => e = .returned (firstV s.pts.length (ptErr s)) ∧ Below w.heap.size w w' := by
  have h1 : ((w.alloc (.map #[] 0)).alloc (.cells #[.map (some w.heap.size)] 81)).cell? ⟨w.heap.size + 1, 0, none⟩ = some (.map (some w.heap.size)) := by
    have := heap_alloc_new (w.alloc (.map #[] 0)) (.cells #[.map (some w.heap.size)] 81)
    rw [World.size_alloc] at this
    exact (cell_of_row _ _ 0 _ _ _ this).trans rfl
  have hb : Below w.heap.size w ((w.alloc (.map #[] 0)).alloc (.cells #[.map (some w.heap.size)] 81)) := ((Below.refl _ _).alloc (Nat.le_refl _) _).alloc (by simp) _
  have hc : CntAt ((w.alloc (.map #[] 0)).alloc (.cells #[.map (some w.heap.size)] 81)) w.heap.size [] := (CntAt.made w).grown (World.grownBy_alloc _ _ none) (by simp)
  refine (first1_any (hp.below (hb.mono hB)) hn hl h1 (by simp) hc hB).mono ?_
  rintro e w' ⟨rfl, hg⟩
  exact ⟨rfl, hb.trans (grown_below hg (Nat.le_refl _) (by simp; omega))⟩
theorem outB_one (lo hi n : Int) : outB lo hi [n] = !inB n lo hi := by
  simp only [outB, inB, List.any_cons, List.any_nil, Bool.or_false, Bool.not_and]
  congr 1
  · rw [Bool.eq_iff_iff]; simp
  · rw [Bool.eq_iff_iff]; simp
theorem firstV_pt {s : ShR} (h : inB s.iv 1 1000 = true) (h2 : inB s.pts.length 1 8 = true) : (∃ k : Nat, k < s.pts.length ∧ firstV s.pts.length (ptErr s) = .tuple #[.int .i64 k, .int .i64 (ptErr s k)] ∧ ptErr s k ≠ 0 ∧ check s = (2, (k : Int), ptErr s k)) ∨
    (firstV s.pts.length (ptErr s) = .tuple #[.int .i64 0, .int .i64 0] ∧ ∀ j, j < s.pts.length → ptErr s j = 0) := by
  cases h3 : fst? s.pts.length fun i => ptErr s i != 0 with
  | some i =>
    obtain ⟨a, b, c⟩ := fst?_spec h3
    have b : ptErr s i ≠ 0 := by simpa using b
    have c : ∀ j, j < i → ptErr s j = 0 := fun j hj => by simpa using c j hj
    exact .inl ⟨i, a, firstV_some a b c, b, check_pt h h2 a b c⟩
  | none =>
    have c : ∀ j, j < s.pts.length → ptErr s j = 0 := fun j hj => by simpa using fst?_none_spec h3 j hj
    exact .inr ⟨firstV_none c, c⟩
theorem firstV_nt {s : ShR} (h : inB s.iv 1 1000 = true) (h2 : inB s.pts.length 1 8 = true) (hp : ∀ j, j < s.pts.length → ptErr s j = 0) (hm : ¬ 12 < s.notes.length) :
    (∃ k : Nat, k < s.notes.length ∧ firstV s.notes.length (ntErr s) = .tuple #[.int .i64 k, .int .i64 (ntErr s k)] ∧ ntErr s k ≠ 0 ∧ check s = (3, (k : Int), ntErr s k)) ∨
    (firstV s.notes.length (ntErr s) = .tuple #[.int .i64 0, .int .i64 0] ∧ check s = (0, 0, 0)) := by
  cases h3 : fst? s.notes.length fun i => ntErr s i != 0 with
  | some i =>
    obtain ⟨a, b, c⟩ := fst?_spec h3
    have b : ntErr s i ≠ 0 := by simpa using b
    have c : ∀ j, j < i → ntErr s j = 0 := fun j hj => by simpa using c j hj
    exact .inl ⟨i, a, firstV_some a b c, b, check_note h h2 hp hm a b c⟩
  | none =>
    have c : ∀ j, j < s.notes.length → ntErr s j = 0 := fun j hj => by simpa using fst?_none_spec h3 j hj
    exact .inr ⟨firstV_none c, check_none h h2 hp hm c⟩

set_option maxRecDepth 100000 in
set_option maxHeartbeats 4000000 in
theorem pcheck_any {B : Nat} {w : World} {v : Value} {s : ShR} (hs : RdSh B w v s) (hn : Named s) (hB : B ≤ w.heap.size) :
    Calls Tryz.prog 16 #[v] w fun e w' => e = .returned (checkV s) ∧ Below w.heap.size w w' := by
  obtain ⟨vp, vn, rfl, hp, ho⟩ := id hs
  obtain ⟨W, hW, c0, c1, c2, hz, hb, _⟩ := sheet_box w s.iv vp vn
  obtain ⟨Ap, cp, rfl, h3, h4, _⟩ := id hp
  obtain ⟨An, cn, rfl, h5, h6, _⟩ := id ho
  have Hp := Lib.hid (hp.below (hb.mono hB))
  have Ho := Lib.hid (ho.below (hb.mono hB))
  have Hb := Lib.hid hb
  have Hz := Lib.hid hz
  have HN := Lib.hid hn
  have HW : Hid (B ≤ W.heap.size) := Lib.hid (by omega)
  have HC : Hid (∀ X : World, Below W.heap.size W X → X.cell? ⟨w.heap.size, 0, none⟩ = some (.int .i64 s.iv) ∧ X.cell? ⟨w.heap.size, 1, none⟩ = some (.slice Ap s.pts.length cp) ∧ X.cell? ⟨w.heap.size, 2, none⟩ = some (.slice An s.notes.length cn) ∧ w.heap.size < X.heap.size) :=
    Lib.hid fun X h => ⟨(h.cell (cell_lt c0)).trans c0, (h.cell (cell_lt c1)).trans c1, (h.cell (cell_lt c2)).trans c2, by have := h.size; omega⟩
  clear hn hp ho hb hz h3 h4 h5 h6 hs
  have hmm := @run_makeMap Tryz.prog
  have hbx : Below W.heap.size W W := Below.refl _ _
  cases o1 : inB s.iv 1 1000 with
  | false =>
    have e := Lib.hid (checkV_eq (check_iv o1))
    have o1 : outB 1 1000 [s.iv] = true := by rw [outB_one, o1]; rfl
    go_enter Tryz.func16, Tryz.ntmps16
    go_upto_region 1 with (fail)
    rw [← hW]
    clear hW
    go_wp2_with (go_at_call 56; refine (out1n_any _ _ _ _).mono ?_; rintro e w4 ⟨rfl, hb4⟩; have hbx := hbx.trans (hb4.mono hbx.size); obtain ⟨c0, c1, c2, hzz⟩ := HC.out _ hbx)
    go_ret3
    exact ⟨by rw [e.out]; rfl, Hb.out.trans (hbx.mono Hb.out.size)⟩
  | true =>
  cases o2 : inB s.pts.length 1 8 with
  | false =>
    have e := Lib.hid (checkV_eq (check_len o1 o2))
    have o1 : outB 1 1000 [s.iv] = false := by rw [outB_one, o1]; rfl
    have o2 : outB 1 8 [(s.pts.length : Int)] = true := by rw [outB_one, o2]; rfl
    go_enter Tryz.func16, Tryz.ntmps16
    go_upto_region 1 with (fail)
    rw [← hW]
    clear hW
    go_wp2_with (go_at_call 56; refine (out1n_any _ _ _ _).mono ?_; rintro e w4 ⟨rfl, hb4⟩; have hbx := hbx.trans (hb4.mono hbx.size); obtain ⟨c0, c1, c2, hzz⟩ := HC.out _ hbx)
    go_ret3
    exact ⟨by rw [e.out]; rfl, Hb.out.trans (hbx.mono Hb.out.size)⟩
  | true =>
  have hiv := Lib.hid (inB_iff.1 o1).1
  have hlen := Lib.hid (show s.pts.length ≤ 8 by have := inB_iff.1 o2; omega)
  have hpt := Lib.hid (firstV_pt o1 o2)
  have hnt := Lib.hid (fun hp hm => firstV_nt o1 o2 hp hm)
  have hmany := Lib.hid (fun hp hm => check_many o1 o2 hp hm)
  have o1 : outB 1 1000 [s.iv] = false := by rw [outB_one, o1]; rfl
  have o2 : outB 1 8 [(s.pts.length : Int)] = false := by rw [outB_one, o2]; rfl
  go_enter Tryz.func16, Tryz.ntmps16
  go_upto_region 1 with (fail)
  rw [← hW]
  clear hW
  rcases hpt.out with ⟨k, hk, hv, hne, hc⟩ | ⟨hv, hall⟩
  · have hb0 : (ptErr s k != 0) = true := by simp [hne]
    have e := Lib.hid (checkV_eq hc)
    have HV := Lib.hid hv
    clear hv hc hne
    go_wp2_with (first | (go_at_call 56; refine (out1n_any _ _ _ _).mono ?_; rintro e w4 ⟨rfl, hb4⟩; have hbx := hbx.trans (hb4.mono hbx.size); obtain ⟨c0, c1, c2, hzz⟩ := HC.out _ hbx) | (go_at_call 57; refine (first1_at (Hp.out.below (hbx.mono HW.out)) HN.out hlen.out (Nat.le_trans HW.out hbx.size)).mono ?_; rw [HV.out]; rintro e w4 ⟨rfl, hb4⟩; have hbx := hbx.trans (hb4.mono hbx.size); obtain ⟨c0, c1, c2, hzz⟩ := HC.out _ hbx))
    go_ret3
    exact ⟨by rw [e.out]; rfl, Hb.out.trans (hbx.mono Hb.out.size)⟩
  · have HV := Lib.hid hv
    have HA := Lib.hid hall
    clear hv hall
    by_cases hm : 12 < s.notes.length
    · have e := Lib.hid (checkV_eq (hmany.out HA.out hm))
      go_wp2_with (first | (go_at_call 56; refine (out1n_any _ _ _ _).mono ?_; rintro e w4 ⟨rfl, hb4⟩; have hbx := hbx.trans (hb4.mono hbx.size); obtain ⟨c0, c1, c2, hzz⟩ := HC.out _ hbx) | (go_at_call 57; refine (first1_at (Hp.out.below (hbx.mono HW.out)) HN.out hlen.out (Nat.le_trans HW.out hbx.size)).mono ?_; rw [HV.out]; rintro e w4 ⟨rfl, hb4⟩; have hbx := hbx.trans (hb4.mono hbx.size); obtain ⟨c0, c1, c2, hzz⟩ := HC.out _ hbx))
      go_ret3
      exact ⟨by rw [e.out]; rfl, Hb.out.trans (hbx.mono Hb.out.size)⟩
    · rcases hnt.out HA.out hm with ⟨k, hk, hv, hne, hc⟩ | ⟨hv, hc⟩
      · have hb0 : (ntErr s k != 0) = true := by simp [hne]
        have e := Lib.hid (checkV_eq hc)
        have HV2 := Lib.hid hv
        clear hv hc hne
        go_wp2_with (first | (go_at_call 56; refine (out1n_any _ _ _ _).mono ?_; rintro e w4 ⟨rfl, hb4⟩; have hbx := hbx.trans (hb4.mono hbx.size); obtain ⟨c0, c1, c2, hzz⟩ := HC.out _ hbx) | (go_at_call 57; refine (first1_at (Hp.out.below (hbx.mono HW.out)) HN.out hlen.out (Nat.le_trans HW.out hbx.size)).mono ?_; rw [HV.out]; rintro e w4 ⟨rfl, hb4⟩; have hbx := hbx.trans (hb4.mono hbx.size); obtain ⟨c0, c1, c2, hzz⟩ := HC.out _ hbx) | (go_at_call 59; refine (first2_any (Ho.out.below (hbx.mono HW.out)) c0 c1 c2 hiv.out (Nat.le_trans hlen.out (by omega)) (Nat.le_trans HW.out hbx.size) (Nat.le_of_not_lt hm)).mono ?_; rw [HV2.out]; rintro e w4 ⟨rfl, hb4⟩; have hbx := hbx.trans (hb4.mono hbx.size)))
        go_ret3
        exact ⟨by rw [e.out]; rfl, Hb.out.trans (hbx.mono Hb.out.size)⟩
      · have e := Lib.hid (checkV_eq hc)
        have HV2 := Lib.hid hv
        clear hv hc
        go_wp2_with (first | (go_at_call 56; refine (out1n_any _ _ _ _).mono ?_; rintro e w4 ⟨rfl, hb4⟩; have hbx := hbx.trans (hb4.mono hbx.size); obtain ⟨c0, c1, c2, hzz⟩ := HC.out _ hbx) | (go_at_call 57; refine (first1_at (Hp.out.below (hbx.mono HW.out)) HN.out hlen.out (Nat.le_trans HW.out hbx.size)).mono ?_; rw [HV.out]; rintro e w4 ⟨rfl, hb4⟩; have hbx := hbx.trans (hb4.mono hbx.size); obtain ⟨c0, c1, c2, hzz⟩ := HC.out _ hbx) | (go_at_call 59; refine (first2_any (Ho.out.below (hbx.mono HW.out)) c0 c1 c2 hiv.out (Nat.le_trans hlen.out (by omega)) (Nat.le_trans HW.out hbx.size) (Nat.le_of_not_lt hm)).mono ?_; rw [HV2.out]; rintro e w4 ⟨rfl, hb4⟩; have hbx := hbx.trans (hb4.mono hbx.size)))
        go_ret3
        exact ⟨by rw [e.out]; rfl, Hb.out.trans (hbx.mono Hb.out.size)⟩
end Go.Proofs.YtajdgdelhlfniaaGreatDoor
