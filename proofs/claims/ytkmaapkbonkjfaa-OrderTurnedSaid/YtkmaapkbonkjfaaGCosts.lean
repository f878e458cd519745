/- Walks of the layer order: words for Costs of the program. Walks of the layer order: Costs of the program. -/
import Derived.Test.YtkmaapkbonkjfaaGBest
import Derived.Test.YtkmaapkbonkjfaaGTail
set_option linter.unusedSimpArgs false
set_option linter.unusedVariables false
namespace Go.Proofs.Ytkmaapkbonkjfaa
open Go.RowKit Go.Shelf
attribute [local go_sem] Oper.semAt_some

def mostTo (s : ShopR) (a b : Nat) (start sub : Int) (k : Nat) : Int := ((setsOf s a b).take k).foldl (fun m x => max m (worthOf s x - sub)) start
theorem mostTo_succ (s : ShopR) (a b : Nat) (start sub : Int) (k : Nat) (hk : k < (setNs s a b).length) :
    mostTo s a b start sub (k + 1) = max (mostTo s a b start sub k) (worthOf s (bitsOf s.orders.length ((setNs s a b).getD k 0)) - sub) := by
  unfold mostTo
  rw [setsOf_take s a b k hk, List.foldl_append]
  rfl
theorem mostTo_end (s : ShopR) (a b : Nat) (start sub : Int) : mostTo s a b start sub (setNs s a b).length = mostW s a b start sub := by
  unfold mostTo mostW
  rw [List.take_of_length_le (by rw [setsOf_len]; exact Nat.le_refl _)]
theorem mostTo_bd {s : ShopR} (hg : Good s) (a b : Nat) {start sub : Int} (h0 : -1 ≤ start ∧ start ≤ 0) (h1 : 0 ≤ sub ∧ sub ≤ 10000) (k : Nat) (hk : k ≤ (setNs s a b).length) : -1 ≤ mostTo s a b start sub k ∧ mostTo s a b start sub k ≤ 80000 := by
  induction k with
  | zero => simp [mostTo]; omega
  | succ k ih =>
    have h2 := ih (by omega)
    have h3 := bits_worth hg ((setNs s a b).getD k 0)
    rw [mostTo_succ s a b start sub k (by omega)]
    omega

/-- a function that holds two ranges over functions: its end -/
theorem leaves_two {P : Program} {fn : Func} {R : Ending → World → Prop} {a : Act} {w : World} {d1 d2 B : Nat} (hd : a.defers = [{ target := .collected d2, args := #[] }, { target := .collected d1, args := #[] }])
    (h2 : w.heap[d2]? = some (.deferred (some []))) (h1 : w.heap[d1]? = some (.deferred (some []))) (hne : d1 ≠ d2) (hB1 : B ≤ d1) (hB2 : B ≤ d2)
    (h : ∀ w', Book B w w' → ∃ v, (results fn a.tmps).run P w' = .ok v w' ∧ R (.returned v) w') : LeavesInM Fence.wide 0 P fn a.tmps R a.defers .returning w := by
  rw [hd]
  have b2 := (Book.refl B w).put hB2 h2 rfl (.deferred none)
  have h1' : (w.putObj d2 (.deferred none)).heap[d1]? = some (.deferred (some [])) := (World.putObj_heap_other hne).trans h1
  exact ⟨by simp, .inl ⟨_, _, rfl, run_takeDeferred h2, by simp, .inl ⟨_, _, rfl, run_takeDeferred h1', h _ (b2.put hB1 h1' rfl _)⟩⟩⟩

/-- what holds between two rounds of either range -/
structure CostE (s : ShopR) (w : World) (B0 B p bm mb tb : Nat) (vs : Array Value) (vo : Value) (o : Int) (m t : Int) (W : World) : Prop where
  below : Below w.heap.size w W
  shop : ShopAt B W p bm s
  hB : B ≤ W.heap.size
  b0 : W.heap[w.heap.size]? = some (.cells vs 26)
  b1 : W.heap[w.heap.size + 1]? = some (.cells #[.int .i64 o] 3)
  ro : Rd OrdAt 4 B0 W vo s.orders
  mo : W.heap[mb]? = some (.cells #[.int .i64 m] 3)
  wi : W.heap[tb]? = some (.cells #[.int .i64 t] 3)
theorem CostE.stay {s : ShopR} {w : World} {B0 B p bm mb tb T : Nat} {vs : Array Value} {vo : Value} {o m t : Int} {A W : World} (h : CostE s w B0 B p bm mb tb vs vo o m t A) (hs : Stay s bm w.heap.size T A W) (hz : A.heap.size ≤ W.heap.size) : CostE s w B0 B p bm mb tb vs vo o m t W :=
  ⟨h.below.trans hs.below, h.shop.stay hs, Nat.le_trans h.hB hz, hs.cells _ _ _ _ h.b0, hs.cells _ _ _ _ h.b1, h.ro.stay fun _ _ _ _ _ hc => hs.cells _ _ _ _ hc, hs.cells _ _ _ _ h.mo, hs.cells _ _ _ _ h.wi⟩
theorem CostE.of_below {s : ShopR} {w : World} {B0 B p bm mb tb : Nat} {vs : Array Value} {vo : Value} {o m t : Int} {A W : World} (h : CostE s w B0 B p bm mb tb vs vo o m t A) (hb : Below A.heap.size A W) (hw : w.heap.size ≤ A.heap.size) : CostE s w B0 B p bm mb tb vs vo o m t W :=
  h.stay (T := 0) ⟨hb.mono hw, fun b c t f hc => (hb.block _ (lt_of_block hc)).trans hc, fun hm => hm.below hb, fun _ _ h => by omega⟩ hb.size
theorem CostE.drewN {s : ShopR} {w : World} {B0 B p bm mb tb : Nat} {vs : Array Value} {vo : Value} {o m t : Int} {A : World} (h : CostE s w B0 B p bm mb tb vs vo o m t A) (n : Nat) : CostE s w B0 B p bm mb tb vs vo o m t (A.drewN n) :=
  h.of_below (below_drewN (Below.refl _ _) n) h.below.size
theorem ShopAt.setAbove {B : Nat} {w : World} {p bm : Nat} {s : ShopR} (h : ShopAt B w p bm s) {q : Addr} (hq : B ≤ q.block) (hp : p < B) (v : Value) : ShopAt B (w.setCell q v) p bm s := by
  obtain ⟨⟨vh, vp, vo, vu, g, h1, h2, h3, h4⟩, hm⟩ := h
  exact ⟨⟨vh, vp, vo, vu, (Below.heap_setCell _ _ _ _ (by omega)).trans g, h1.setCell hq v, h2.setCell hq v, h3.setCell hq v, h4.setCell hq v⟩, mapAt_setCell hm q v⟩
theorem CostE.setMost {s : ShopR} {w : World} {B0 B p bm mb tb : Nat} {vs : Array Value} {vo : Value} {o m t : Int} {A : World} (h : CostE s w B0 B p bm mb tb vs vo o m t A) (h1 : B ≤ mb) (h2 : p < B) (h3 : B0 ≤ mb) (h4 : w.heap.size + 1 < mb) (h5 : mb ≠ tb) (m' : Int) : CostE s w B0 B p bm mb tb vs vo o m' t (A.setCell ⟨mb, 0, none⟩ (.int .i64 m')) :=
  ⟨h.below.setCell (p := ⟨mb, 0, none⟩) (by simp; omega) _, h.shop.setAbove h1 h2 _, by simpa [World.setCell] using h.hB, (Below.heap_setCell _ _ _ _ (by simp; omega)).trans h.b0, (Below.heap_setCell _ _ _ _ (by simp; omega)).trans h.b1,
    h.ro.setCell h3 _, one_set h.mo, (Below.heap_setCell _ _ _ _ (by simp; omega)).trans h.wi⟩
theorem CostE.setWith {s : ShopR} {w : World} {B0 B p bm mb tb : Nat} {vs : Array Value} {vo : Value} {o m t : Int} {A : World} (h : CostE s w B0 B p bm mb tb vs vo o m t A) (h1 : B ≤ tb) (h2 : p < B) (h3 : B0 ≤ tb) (h4 : w.heap.size + 1 < tb) (h5 : mb ≠ tb) (t' : Int) : CostE s w B0 B p bm mb tb vs vo o m t' (A.setCell ⟨tb, 0, none⟩ (.int .i64 t')) :=
  ⟨h.below.setCell (p := ⟨tb, 0, none⟩) (by simp; omega) _, h.shop.setAbove h1 h2 _, by simpa [World.setCell] using h.hB, (Below.heap_setCell _ _ _ _ (by simp; omega)).trans h.b0, (Below.heap_setCell _ _ _ _ (by simp; omega)).trans h.b1,
    h.ro.setCell h3 _, (Below.heap_setCell _ _ _ _ (by simp; omega)).trans h.mo, one_set h.wi⟩

def costsFV (s : ShopR) (o : Int) : Value := .tuple #[.int .i64 (costsF s o).1, .int .i64 (costsF s o).2]
theorem costsFV_eq {s : ShopR} {o a b : Int} (h : costsF s o = (a, b)) : costsFV s o = .tuple #[.int .i64 a, .int .i64 b] := by unfold costsFV; rw [h]
end Go.Proofs.Ytkmaapkbonkjfaa
namespace Go.Proofs.Ytkmaapkbonkjfaa
open Go.RowKit Go.Shelf
attribute [local go_sem] Oper.semAt_some

set_option maxRecDepth 100000 in
theorem pcosts_any {B : Nat} {w : World} {v : Value} {s : ShopR} (hs : RdShop B w v s) (hnm : ∀ p ∈ s.parts, p.name.size ≤ 9223372036854775807) (hB : B ≤ w.heap.size) (o : Int) :
    Calls Try.prog 33 #[v, .int .i64 o] w fun e w' => e = .returned (costsFV s o) ∧ Below w.heap.size w w' := by
  obtain ⟨vh, vp, vo, rfl, ⟨Ah, ch, rfl, _⟩, ⟨Ap, cp, rfl, _⟩, hro⟩ := id hs
  obtain ⟨Ao, co, rfl, _⟩ := id hro
  obtain ⟨W, hW, c0, c1, c2, hz, hb, q0⟩ := shop_box w (.slice Ah s.hours.length ch) (.slice Ap s.parts.length cp) (.slice Ao s.orders.length co)
  obtain ⟨W1, hW1, r1, z1, b1⟩ := box_any W #[.int .i64 o] 3
  refine calls_of_wp_marks Try.func33 rfl ?_
  simp only [Try.ntmps33, List.size_toArray, List.length_cons, List.length_nil, Nat.reduceAdd, Nat.reduceSub, Array.replicate_succ,
     Array.replicate_zero, List.push_toArray, List.append_toArray, List.nil_append, List.cons_append]
  go_upto_region 1 with (fail)
  rw [← hW, ← hW1]
  have hb2 : Below w.heap.size w W1 := hb.trans (b1.mono (by omega))
  have c0 := (b1.cell (cell_lt c0)).trans c0
  have c1 := (b1.cell (cell_lt c1)).trans c1
  have c2 := (b1.cell (cell_lt c2)).trans c2
  have q0 := (b1.block _ (by omega)).trans q0
  have q1 := r1
  rw [hz] at q1
  have d0 := cellOf q1 0 (v := .int .i64 o) rfl
  have hS2 := Lib.hid (hs.below (hb2.mono hB))
  have hRo := Lib.hid (hro.below (hb2.mono hB))
  have hB2 : B ≤ W1.heap.size := Nat.le_trans hB hb2.size
  have Hb2 := Lib.hid hb2
  have hzz := Lib.hid (show W1.heap.size = w.heap.size + 1 + 1 by rw [z1, hz])
  have Q0 := Lib.hid q0
  have Q1 := Lib.hid q1
  clear hW hW1 hz hb r1 z1 b1 hb2 hs hro q0 q1
  by_cases he : errOf s = 0
  · have hg := good_of_valid he
    have hq := Lib.hid (look_sep hS2.out hnm hB2 he)
    have He := Lib.hid he
    have holen := hg.olen
    clear he
    cases n1 : inB o 0 (s.orders.length - 1) with
    | false =>
      have e := Lib.hid (costsFV_eq (s := s) (o := o) (a := 0) (b := 4) (by unfold costsF; rw [if_neg (by simp [He.out]), if_pos n1]))
      have n1 := (outB_one 0 (s.orders.length - 1) o).trans (by rw [n1])
      have HX := Lib.hid (Below.refl W1.heap.size W1)
      go_wp2_with (first | (go_at_call 68; refine hq.out.mono ?_; rintro e wx ⟨p, bm, rfl, hbx, hsx⟩; have c2 := (hbx.cell (cell_lt c2)).trans c2; have d0 := (hbx.cell (cell_lt d0)).trans d0; have HX := Lib.hid (HX.out.trans (hbx.mono HX.out.size)); clear hbx hsx) | (go_at_call 44; refine (out1 _ _ _ _).mono ?_; rintro e wo ⟨rfl, hbx⟩; have HX := Lib.hid (HX.out.trans (hbx.mono HX.out.size)); clear hbx))
      exact ⟨_, results_tmp2 rfl _ _ _, (by rw [e.out]; try rfl), Hb2.out.trans (HX.out.mono Hb2.out.size)⟩
    | true =>
      have n2 := (inB_iff.1 n1)
      obtain ⟨q, rfl⟩ : ∃ q : Nat, o = q := ⟨o.toNat, by omega⟩
      have hq3 : q < s.orders.length := by omega
      have e0 : costsF s q = if mostW s (2 ^ q) 0 (-1) (s.orders.getD q default).worth < 0 then (0, 9) else (mostW s 0 (2 ^ q) 0 0 - mostW s (2 ^ q) 0 (-1) (s.orders.getD q default).worth, 0) := by
        unfold costsF; rw [if_neg (by simp [He.out]), if_neg (by simp [n1])]; rfl
      have E0 := Lib.hid e0
      have n1 : outB 0 (s.orders.length - 1) [(q : Int)] = false := by rw [outB_one, n1]; rfl
      have hsh := wrap_pow q (by omega)
      have hp256 : 2 ^ q < 256 := by
        have := Nat.pow_le_pow_right (n := 2) (by omega) (show q ≤ 7 by omega)
        omega
      clear e0
      go_upto_region 6 with (first | (go_at_call 68; refine hq.out.mono ?_; rintro e wx ⟨p, bm, rfl, hbx, hsx⟩; have c2 := (hbx.cell (cell_lt c2)).trans c2; have d0 := (hbx.cell (cell_lt d0)).trans d0; have HBX := Lib.hid hbx; have HSX := Lib.hid hsx; clear hbx hsx) | (go_at_call 44; refine (out1 _ _ _ _).mono ?_; rintro e wo ⟨rfl, hbx⟩; have c2 := (hbx.cell (cell_lt c2)).trans c2; have d0 := (hbx.cell (cell_lt d0)).trans d0; have HBO := Lib.hid hbx; clear hbx))
      obtain ⟨M, hM⟩ : ∃ M : Nat, M = 2 ^ q := ⟨_, rfl⟩
      rw [← hM] at hsh hp256 E0
      have hqo := (hg.ord hq3).worth
      obtain ⟨W3, hW3, r3, z3, b3⟩ := box_any wo #[.int .i64 0] 3
      obtain ⟨W4, hW4, r4, z4, b4⟩ := box_any W3 #[.int .i64 (-1)] 3
      have HM := Lib.hid hM
      have hxo := HBO.out.size
      have h1x := HBX.out.size
      have hz1 := hzz.out
      have hb4 : Below wo.heap.size wo W4 := b3.trans (b4.mono (by omega))
      have hpx : p < wx.heap.size := by obtain ⟨⟨_, _, _, _, g, _⟩, _⟩ := HSX.out; exact lt_of_block g
      have hbmx := HSX.out.hb
      have hE0 : CostE s w B wx.heap.size p bm wo.heap.size (wo.heap.size + 1) #[.slice Ah s.hours.length ch, .slice Ap s.parts.length cp, .slice Ao s.orders.length co] (.slice Ao s.orders.length co) q 0 (-1) W4 := by
        have hbw : Below W1.heap.size W1 W4 := HBX.out.trans ((HBO.out.trans (hb4.mono hxo)).mono h1x)
        rw [z3] at r4
        exact ⟨Hb2.out.trans (hbw.mono Hb2.out.size), ((HSX.out.at_ (by omega)).below HBO.out).below hb4, by have := hb4.size; omega, (hbw.block _ (by omega)).trans Q0.out, (hbw.block _ (by omega)).trans Q1.out, hRo.out.below (hbw.mono hB2), (b4.block _ (by omega)).trans r3, r4⟩
      have c2 := (hb4.cell (cell_lt c2)).trans c2
      have d0 := (hb4.cell (cell_lt d0)).trans d0
      have HE0 := Lib.hid hE0
      have Z4 := Lib.hid (show W4.heap.size = wo.heap.size + 1 + 1 by rw [z4, z3])
      clear hM hE0 hb4 r3 r4 z3 z4 b3 b4
      go_upto_region 7 with (fail)
      rw [← hW3, ← hW4]
      clear hW3 hW4
      go_upto_region 8 with (go_at_call 69; refine (sets_any _ _ _ _).mono ?_; rintro e wy ⟨rfl, rfl⟩)
      clear c2 d0
      have hz4 := Z4.out
      have hrun1 : ∀ a a' a'', CostE s w B wx.heap.size p bm wo.heap.size (wo.heap.size + 1) #[.slice Ah s.hours.length ch, .slice Ap s.parts.length cp, .slice Ao s.orders.length co] (.slice Ao s.orders.length co) q 0 (-1) (((W4.alloc a).alloc a').alloc a'') := fun a a' a'' =>
        HE0.out.of_below ((((Below.refl W4.heap.size W4).alloc (Nat.le_refl _) _).alloc (by simp) _).alloc (by simp; omega) _) (by have := Hb2.out.size; omega)
      have Hrun1 := Lib.hid hrun1
      clear hrun1
      refine sets_law (B := wx.heap.size) (H := w.heap.size) (p := p) (bm := bm) (s := s) (w := W4) hg 0 M (by omega) hp256 (by omega) (by omega) rfl rfl
        (fun k W => CostE s w B wx.heap.size p bm wo.heap.size (wo.heap.size + 1) #[.slice Ah s.hours.length ch, .slice Ap s.parts.length cp, .slice Ao s.orders.length co] (.slice Ao s.orders.length co) q (mostTo s 0 M 0 0 k) (-1) W) (fun _ _ => False)
        (fun k A B h hs => h.stay hs hs.below.size) (fun _ _ _ h _ => h) (fun k A h => ⟨h.shop, h.hB⟩) rfl (Hrun1.out _ _ _) ?hround ?hdone (fun _ _ _ _ h _ => h.elim)
      case hround =>
        intro r k W' hk hE hsz hr1 hr2
        have hsucc := mostTo_succ s 0 M 0 0 k hk
        have hbd := mostTo_bd hg 0 M (start := 0) (sub := 0) (by omega) (by omega) k (by omega)
        have hwd := bits_worth hg ((setNs s 0 M).getD k 0)
        have Hel := Lib.hid (show setEl s 0 M k = #[.int .i64 (((setNs s 0 M).getD k 0 : Nat) : Int), .int .i64 (worthOf s (bitsOf s.orders.length ((setNs s 0 M).getD k 0)))] from rfl)
        rw [Hel.out]
        generalize worthOf s (bitsOf s.orders.length ((setNs s 0 M).getD k 0)) = wv at *
        generalize (setNs s 0 M).getD k 0 = x at *
        generalize hT : Array.foldl _ _ _ = T
        simp at hT
        subst hT
        have HE := Lib.hid hE
        have Hsucc := Lib.hid hsucc
        clear hE hsucc Hel
        gi_wp2
        refine ⟨NC.refl _, fun W₂ hb2 hz2 => ?_⟩
        have hE2 := HE.out.stay (T := 0) (.of_book hb2 (by omega) (by omega)) hb2.below.size
        have m1 := cellOf hE2.mo 0 (v := .int .i64 (mostTo s 0 M 0 0 k)) rfl
        have f1 : W₂.frozen? ⟨wo.heap.size, 0, none⟩ = false := by simp [World.frozen?, hE2.mo]
        have HE2 := Lib.hid hE2
        have Hsame := Lib.hid (fun i (hi : i < W4.heap.size + 3) => hb2.below.block i hi)
        clear hE2 hb2
        generalize mostTo s 0 M 0 0 k = mv at *
        have hk3 : ∀ (u : Value) i, W4.heap.size ≤ i → i < W4.heap.size + 3 → (W₂.setCell ⟨wo.heap.size, 0, none⟩ u).heap[i]? = W'.heap[i]? := fun u i h1 h2 =>
          (Below.heap_setCell _ _ _ _ (by simp; omega)).trans (Hsame.out i h2)
        have Hk3 := Lib.hid hk3
        clear hk3 hz4
        gi_wp2
        all_goals
          have hz4 := Z4.out
          refine ⟨(NC.refl _).setCell _ _, ⟨Hk3.out _ _ (by omega) (by omega), Hk3.out _ _ (by omega) (by omega), Hk3.out _ _ (by omega) (by omega)⟩, ?_⟩
          first
            | (rw [Hsucc.out, show max mv (wv - 0) = wv by omega]; exact HE2.out.setMost (by omega) hpx (by omega) (by omega) (by omega) wv)
            | (rw [Hsucc.out, show max mv (wv - 0) = mv by omega]; exact HE2.out.setMost (by omega) hpx (by omega) (by omega) (by omega) mv)
      case hdone =>
        intro d W' hd hE hk
        simp only [mostTo_end] at hE
        obtain ⟨mv, hmv⟩ : ∃ mv, mv = mostW s 0 M 0 0 := ⟨_, rfl⟩
        rw [← hmv] at hE E0
        have hmb := mostTo_bd hg 0 M (start := 0) (sub := 0) (by omega) (by omega) _ (Nat.le_refl _)
        rw [mostTo_end, ← hmv] at hmb
        clear hmv
        have c1 := cellOf hE.b1 0 (v := .int .i64 q) rfl
        have hdW := lt_of_block hk
        have HE := Lib.hid hE
        have HK := Lib.hid hk
        clear hE hk
        simp only [Exit.inBlock, Exit.then]
        go_upto_region 11 with (go_at_call 69; refine (sets_any _ _ _ _).mono ?_; rintro e wy ⟨rfl, rfl⟩)
        clear c1 hsh
        have hszW := HE.out.hB
        have hwW := HE.out.below.size
        have hdd : W4.heap.size + 3 ≤ d := hd
        have hEE : ∀ a a' a'', CostE s w B wx.heap.size p bm wo.heap.size (wo.heap.size + 1) #[.slice Ah s.hours.length ch, .slice Ap s.parts.length cp, .slice Ao s.orders.length co] (.slice Ao s.orders.length co) q mv (-1) (((W'.alloc a).alloc a').alloc a'') ∧ (((W'.alloc a).alloc a').alloc a'').heap[d]? = some (.deferred (some [])) := fun a a' a'' => by
          have hb := ((((Below.refl W'.heap.size W').alloc (Nat.le_refl _) a).alloc (by simp) a').alloc (by simp; omega) a'')
          exact ⟨HE.out.of_below hb hwW, (hb.block _ hdW).trans HK.out⟩
        have HEE := Lib.hid hEE
        have hz4 := Z4.out
        have hszW2 : W4.heap.size ≤ W'.heap.size := by omega
        clear hEE hz4
        obtain ⟨sub, hsub⟩ : ∃ sub, sub = (s.orders.getD q default).worth := ⟨_, rfl⟩
        rw [← hsub] at E0 hqo
        refine sets_law (B := wx.heap.size) (H := w.heap.size) (p := p) (bm := bm) (s := s) (w := W') hg M 0 hp256 (by omega) (by omega) (by omega) rfl rfl
          (fun k W => CostE s w B wx.heap.size p bm wo.heap.size (wo.heap.size + 1) #[.slice Ah s.hours.length ch, .slice Ap s.parts.length cp, .slice Ao s.orders.length co] (.slice Ao s.orders.length co) q mv (mostTo s M 0 (-1) sub k) W ∧ W.heap[d]? = some (.deferred (some []))) (fun _ _ => False)
          (fun k A B h hs => ⟨h.1.stay hs hs.below.size, hs.mark d _ (by omega) h.2 rfl⟩) (fun _ _ _ h _ => h) (fun k A h => ⟨h.1.shop, h.1.hB⟩) rfl (HEE.out _ _ _) ?hround ?hdone (fun _ _ _ _ h _ => h.elim)
        case hround =>
          intro r k W5 hk hE hsz hr1 hr2
          have hsucc := mostTo_succ s M 0 (-1) sub k hk
          have hbd := mostTo_bd hg M 0 (start := -1) (sub := sub) (by omega) hqo k (by omega)
          have hwd := bits_worth hg ((setNs s M 0).getD k 0)
          have Hel := Lib.hid (show setEl s M 0 k = #[.int .i64 (((setNs s M 0).getD k 0 : Nat) : Int), .int .i64 (worthOf s (bitsOf s.orders.length ((setNs s M 0).getD k 0)))] from rfl)
          rw [Hel.out]
          generalize worthOf s (bitsOf s.orders.length ((setNs s M 0).getD k 0)) = wv at *
          generalize (setNs s M 0).getD k 0 = x at *
          generalize hT : Array.foldl _ _ _ = T
          simp at hT
          subst hT
          have HE := Lib.hid hE
          have Hsucc := Lib.hid hsucc
          clear hE hsucc Hel
          gi_wp2
          refine ⟨NC.refl _, fun W₂ hb2 hz2 => ?_⟩
          have hE2 := HE.out.1.stay (T := 0) (.of_book hb2 (by omega) (by omega)) hb2.below.size
          have hm2 := (hb2.below.block d (by omega)).trans HE.out.2
          have m1 := cellOf hE2.wi 0 (v := .int .i64 (mostTo s M 0 (-1) sub k)) rfl
          have f1 : W₂.frozen? ⟨wo.heap.size + 1, 0, none⟩ = false := by simp [World.frozen?, hE2.wi]
          have c2 := cellOf hE2.b0 2 (v := .slice Ao s.orders.length co) rfl
          have d0 := cellOf hE2.b1 0 (v := .int .i64 q) rfl
          obtain ⟨ao, hao, _, _, _, _, o3⟩ := hE2.ro.ord hq3
          rw [hao] at c2
          rw [← List.getD_eq_getElem?_getD, ← hsub] at o3
          have HE2 := Lib.hid hE2
          have HM2 := Lib.hid hm2
          have Hsame := Lib.hid (fun i (hi : i < W'.heap.size + 3) => hb2.below.block i hi)
          have Hao := Lib.hid hao
          have hk3 : ∀ (u : Value) i, W'.heap.size ≤ i → i < W'.heap.size + 3 → (W₂.setCell ⟨wo.heap.size + 1, 0, none⟩ u).heap[i]? = W5.heap[i]? := fun u i h1 h2 =>
            (Below.heap_setCell _ _ _ _ (by have := Z4.out; simp; omega)).trans (Hsame.out i h2)
          have Hk3 := Lib.hid hk3
          clear hk3 hE2 hb2 hao hm2
          have Hsub := Lib.hid hsub
          clear hsub
          generalize mostTo s M 0 (-1) sub k = tv at *
          gi_wp2
          refine round_quiet_tail (C := fun w' => ∃ n, w' = W₂.drewN n) 9 (by kernel_rfl) (by kernel_rfl) ⟨1, rfl⟩ ?_
          simp only [List.take_succ_cons, List.take_zero, List.drop_succ_cons, List.drop_zero]
          repeat (first | go_big_quiet_step (fail) | quiet_step (fail))
          refine wpQuiet_nil ?_
          rintro _ ⟨n1, rfl⟩
          gi_wp2
          all_goals
            have hz4 := Z4.out
            refine ⟨((NC.refl _).drewN n1).setCell _ _, ⟨Hk3.out _ _ (by omega) (by omega), Hk3.out _ _ (by omega) (by omega), Hk3.out _ _ (by omega) (by omega)⟩, ?_, ?_⟩
            · first
                | (rw [Hsucc.out, show max tv (wv - sub) = wv - sub by omega]; exact (HE2.out.drewN n1).setWith (by omega) hpx (by omega) (by omega) (by omega) (wv - sub))
                | (rw [Hsucc.out, show max tv (wv - sub) = tv by omega]; exact (HE2.out.drewN n1).setWith (by omega) hpx (by omega) (by omega) (by omega) tv)
            · exact (Below.heap_setCell _ _ _ _ (by simp; omega)).trans HM2.out
        case hdone =>
          intro d2 W5 hd2 hE hk2
          obtain ⟨hE, hk1⟩ := hE
          simp only [mostTo_end] at hE
          have htb := mostTo_bd hg M 0 (start := -1) (sub := sub) (by omega) hqo _ (Nat.le_refl _)
          rw [mostTo_end] at htb
          generalize mostW s M 0 (-1) sub = tv at *
          have c1 := cellOf hE.mo 0 (v := .int .i64 mv) rfl
          have c2 := cellOf hE.wi 0 (v := .int .i64 tv) rfl
          have Hbl := Lib.hid hE.below
          have K1 := Lib.hid hk1
          have K2 := Lib.hid hk2
          clear hE hk1 hk2
          simp only [Exit.inBlock, Exit.then]
          by_cases htn : tv < 0
          · have e := Lib.hid (costsFV_eq (s := s) (o := q) (a := 0) (b := 9) (by rw [E0.out, if_pos htn]))
            have htn2 : decide (tv < 0) = true := by simpa using htn
            go_wp2
            refine leaves_two rfl K2.out K1.out (by omega) (B := w.heap.size) (by omega) (by omega) fun w' hbk => ?_
            exact ⟨_, results_tmp2 rfl _ _ _, (by rw [e.out]; try rfl), Hbl.out.trans hbk.below⟩
          · have e := Lib.hid (costsFV_eq (s := s) (o := q) (a := mv - tv) (b := 0) (by rw [E0.out, if_neg htn]))
            have htn2 : decide (tv < 0) = false := by simpa using htn
            go_wp2
            refine leaves_two rfl K2.out K1.out (by omega) (B := w.heap.size) (by omega) (by omega) fun w' hbk => ?_
            exact ⟨_, results_tmp2 rfl _ _ _, (by rw [e.out]; try rfl), Hbl.out.trans hbk.below⟩
  · have hq := Lib.hid (look_bad hS2.out hnm hB2 he)
    have e := Lib.hid (costsFV_eq (s := s) (o := o) (a := 0) (b := errOf s) (by unfold costsF; rw [if_pos he]))
    have hne : (errOf s != 0) = true := by simpa using he
    clear he
    go_wp2_with (go_at_call 68; refine hq.out.mono ?_; rintro e wx ⟨rfl, hbx⟩; have HBX := Lib.hid hbx; clear hbx)
    exact ⟨_, results_tmp2 rfl _ _ _, (by rw [e.out]; try rfl), Hb2.out.trans (HBX.out.mono Hb2.out.size)⟩
end Go.Proofs.Ytkmaapkbonkjfaa
