/- Walks of the layer order: Best of the program. Walks of the layer order: Best of the program, walked. -/
import Derived.Test.YtkmaapkbonkjfaaGSets
import Derived.Test.YtkmaapkbonkjfaaGBits
set_option linter.unusedSimpArgs false
set_option linter.unusedVariables false
namespace Go.Proofs.Ytkmaapkbonkjfaa
open Go.RowKit Go.Shelf
attribute [local go_sem] Oper.semAt_some

def bestTo (s : ShopR) (k : Nat) : List Nat × Int := ((setsOf s 0 0).take k).foldl (better s) ([], 0)
theorem setsOf_len (s : ShopR) (a b : Nat) : (setsOf s a b).length = (setNs s a b).length := by rw [← setNs_sets, List.length_map]
theorem setsOf_take (s : ShopR) (a b k : Nat) (hk : k < (setNs s a b).length) : (setsOf s a b).take (k + 1) = (setsOf s a b).take k ++ [bitsOf s.orders.length ((setNs s a b).getD k 0)] := by
  rw [List.take_succ_eq_append_getElem (by rw [setsOf_len]; exact hk)]
  congr 2
  rw [getD_at hk]
  simp [← setNs_sets]
theorem bestTo_succ (s : ShopR) (k : Nat) (hk : k < (setNs s 0 0).length) : bestTo s (k + 1) = better s (bestTo s k) (bitsOf s.orders.length ((setNs s 0 0).getD k 0)) := by
  unfold bestTo
  rw [setsOf_take s 0 0 k hk, List.foldl_append]
  rfl
theorem setN_lt {s : ShopR} {a b k : Nat} (hk : k < (setNs s a b).length) : (setNs s a b).getD k 0 < 2 ^ s.orders.length ∧ takeP s a b ((setNs s a b).getD k 0) = true := by
  have := getD_mem hk 0
  unfold setNs at this
  simpa [setNs] using this
theorem bits_worth {s : ShopR} (hg : Good s) (x : Nat) : 0 ≤ worthOf s (bitsOf s.orders.length x) ∧ worthOf s (bitsOf s.orders.length x) ≤ 80000 := by
  have h := worth_bd hg (X := bitsOf s.orders.length x) fun i hi => (bits_mem hi).1
  have := bits_len s.orders.length x
  have := hg.olen
  omega
theorem bestTo_bd {s : ShopR} (hg : Good s) (k : Nat) (hk : k ≤ (setNs s 0 0).length) : 0 ≤ (bestTo s k).2 ∧ (bestTo s k).2 ≤ 80000 ∧ (bestTo s k).1.length ≤ 8 := by
  induction k with
  | zero => simp [bestTo]
  | succ k ih =>
    have h1 := ih (by omega)
    have h2 := bits_worth hg ((setNs s 0 0).getD k 0)
    have h3 := bits_len s.orders.length ((setNs s 0 0).getD k 0)
    have := hg.olen
    rw [bestTo_succ s k (by omega)]
    unfold better
    split
    · simp only; omega
    · exact h1
theorem bestTo_end (s : ShopR) : bestTo s (setNs s 0 0).length = bestL s := by
  unfold bestTo bestL
  rw [List.take_of_length_le (by rw [setsOf_len]; exact Nat.le_refl _)]
theorem better_yes {s : ShopR} {b : List Nat × Int} {x : List Nat} (h : b.2 < worthOf s x ∨ (worthOf s x = b.2 ∧ x < b.1)) : better s b x = (x, worthOf s x) := by unfold better; rw [if_pos h]
theorem better_no {s : ShopR} {b : List Nat × Int} {x : List Nat} (h : ¬ (b.2 < worthOf s x ∨ (worthOf s x = b.2 ∧ x < b.1))) : better s b x = b := by unfold better; rw [if_neg h]

theorem results31 {w : World} {a b : Addr} {u : Value} {v n : Int} {tmps : Array Value} (hu : ∃ A l c, u = .slice A l c) (h1 : w.cell? a = some u) (h2 : w.cell? b = some (.int .i64 v)) (t1 : tmps[2]?.getD undef = .pointer (some a)) (t2 : tmps[3]?.getD undef = .pointer (some b)) (t3 : tmps[4]?.getD undef = .int .i64 n) :
    (results Try.f31 tmps).run Try.prog w = .ok (.tuple #[u, .int .i64 v, .int .i64 n]) w := by
  obtain ⟨A, l, c, rfl⟩ := hu
  simp [results, Try.results31, t1, t2, t3, go_sem, h1, h2]

/-- what holds between two rounds -/
structure BestE (s : ShopR) (w : World) (B0 B base p bm tb wb k : Nat) (W : World) : Prop where
  below : Below w.heap.size w W
  shop : ShopSep B0 B base W p bm s
  hB : B ≤ W.heap.size
  tk : ∃ A c, W.heap[tb]? = some (.cells #[.slice A (bestTo s k).1.length c] 22) ∧ Rd IntAt 1 W.heap.size W (.slice A (bestTo s k).1.length c) ((bestTo s k).1.map Int.ofNat)
  wo : W.heap[wb]? = some (.cells #[.int .i64 (bestTo s k).2] 3)
theorem BestE.stay {s : ShopR} {w : World} {B0 B base p bm tb wb k T : Nat} {A W : World} (h : BestE s w B0 B base p bm tb wb k A) (hs : Stay s bm w.heap.size T A W) (hz : A.heap.size ≤ W.heap.size) : BestE s w B0 B base p bm tb wb k W := by
  obtain ⟨A1, c1, h1, h2⟩ := h.tk
  exact ⟨h.below.trans hs.below, h.shop.cells hs.cells (hs.map h.shop.map), Nat.le_trans h.hB hz, ⟨A1, c1, hs.cells _ _ _ _ h1, (h2.stay fun b c e f _ hc => hs.cells _ _ _ _ hc).mono hz⟩, hs.cells _ _ _ _ h.wo⟩
end Go.Proofs.Ytkmaapkbonkjfaa
namespace Go.Proofs.Ytkmaapkbonkjfaa
open Go.RowKit Go.Shelf
attribute [local go_sem] Oper.semAt_some

def BestR (w : World) (s : ShopR) (e : Ending) (w' : World) : Prop :=
  ∃ A c, e = .returned (.tuple #[.slice A (bestF s).1.length c, .int .i64 (bestF s).2.1, .int .i64 (bestF s).2.2]) ∧ Rd IntAt 1 w'.heap.size w' (.slice A (bestF s).1.length c) (bestF s).1 ∧ Below w.heap.size w w'
theorem bestR_eq {w w' : World} {s : ShopR} {e : Ending} {l : List Int} {m n : Int} (h : bestF s = (l, m, n)) {A : Option Addr} {c : Nat} (he : e = .returned (.tuple #[.slice A l.length c, .int .i64 m, .int .i64 n])) (hr : Rd IntAt 1 w'.heap.size w' (.slice A l.length c) l) (hb : Below w.heap.size w w') : BestR w s e w' := by
  unfold BestR
  rw [h]
  exact ⟨A, c, he, hr, hb⟩

theorem rewrite_cell {w : World} {q : Addr} {v : Value} (h : w.cell? q = some v) (p : Addr) : (w.setCell q v).cell? p = w.cell? p := by
  by_cases e : q = p
  · subst e
    rw [World.cell?_setCell_same' _ _ _ (by rw [h]; rfl), h]
  · exact World.cell?_setCell_other _ _ _ _ e

set_option maxRecDepth 100000 in
theorem pbest_any {B : Nat} {w : World} {v : Value} {s : ShopR} (hs : RdShop B w v s) (hnm : ∀ p ∈ s.parts, p.name.size ≤ 9223372036854775807) (hB : B ≤ w.heap.size) :
    Calls Try.prog 31 #[v] w (BestR w s) := by
  obtain ⟨vh, vp, vo, rfl, ⟨Ah, ch, rfl, _⟩, ⟨Ap, cp, rfl, _⟩, ⟨Ao, co, rfl, _⟩⟩ := id hs
  obtain ⟨W, hW, c0, c1, c2, hz, hb, _⟩ := shop_box w (.slice Ah s.hours.length ch) (.slice Ap s.parts.length cp) (.slice Ao s.orders.length co)
  obtain ⟨W1, hW1, r1, z1, b1⟩ := box_any W #[.slice none 0 0] 22
  obtain ⟨W2, hW2, r2, z2, b2⟩ := box_any W1 #[.int .i64 0] 3
  refine calls_of_wp_marks Try.func31 rfl ?_
  simp only [Try.ntmps31, List.size_toArray, List.length_cons, List.length_nil, Nat.reduceAdd, Nat.reduceSub, Array.replicate_succ,
     Array.replicate_zero, List.push_toArray, List.append_toArray, List.nil_append, List.cons_append]
  go_upto_region 1 with (fail)
  rw [← hW, ← hW1, ← hW2]
  have hb2 : Below w.heap.size w W2 := hb.trans ((b1.mono (by omega)).trans (b2.mono (by omega)))
  have c0 := ((b1.trans (b2.mono (by omega))).cell (cell_lt c0)).trans c0
  have c1 := ((b1.trans (b2.mono (by omega))).cell (cell_lt c1)).trans c1
  have c2 := ((b1.trans (b2.mono (by omega))).cell (cell_lt c2)).trans c2
  have q1 := (b2.block _ (by omega)).trans r1
  rw [z1] at r2
  rw [hz] at q1 r2
  have hS2 := Lib.hid (hs.below (hb2.mono hB))
  have hB2 : B ≤ W2.heap.size := Nat.le_trans hB hb2.size
  have Hb2 := Lib.hid hb2
  have hzz := Lib.hid (show W2.heap.size = w.heap.size + 1 + 1 + 1 by rw [z2, z1, hz])
  clear hW hW1 hW2 hz hb r1 z1 b1 z2 b2 hb2 hs
  by_cases he : errOf s = 0
  · have hg := good_of_valid he
    have hq := Lib.hid (look_sep hS2.out hnm hB2 he)
    have e := Lib.hid (show bestF s = ((bestL s).1.map Int.ofNat, (bestL s).2, 0) by unfold bestF; rw [if_neg (by simp [he])])
    clear he
    have Q1 := Lib.hid q1
    have Q2 := Lib.hid r2
    clear q1 r2
    go_upto_region 5 with (first | (go_at_call 68; refine hq.out.mono ?_; rintro e wx ⟨p, bm, rfl, hbx, hsx⟩; have HBX := Lib.hid hbx; have HSX := Lib.hid hsx; clear hbx hsx) | (go_at_call 69; refine (sets_any _ _ _ _).mono ?_; rintro e wy ⟨rfl, rfl⟩))
    have hxs := HBX.out.size
    have hz3 := hzz.out
    have hx1 := (HBX.out.block _ (by omega)).trans Q1.out
    have hx2 := (HBX.out.block _ (by omega)).trans Q2.out
    have hE0 : BestE s w B wx.heap.size W2.heap.size p bm (w.heap.size + 1) (w.heap.size + 1 + 1) 0 wx :=
      ⟨Hb2.out.trans (HBX.out.mono (by omega)), HSX.out, Nat.le_refl _, ⟨none, 0, hx1, Rd.nil _ _⟩, hx2⟩
    have hE1 : ∀ o o' o'', BestE s w B wx.heap.size W2.heap.size p bm (w.heap.size + 1) (w.heap.size + 1 + 1) 0 (((wx.alloc o).alloc o').alloc o'') := fun o o' o'' => by
      have hb := ((((Below.refl wx.heap.size wx).alloc (Nat.le_refl _) o).alloc (by simp) o').alloc (by simp; omega) o'')
      exact hE0.stay (T := 0) ⟨hb.mono (by omega), fun b c t f hc => (hb.block _ (lt_of_block hc)).trans hc, fun hm => hm.below hb, fun _ _ h => by omega⟩ hb.size
    have HE1 := Lib.hid hE1
    have hpx' : w.heap.size ≤ bm := by have := HSX.out.hb; omega
    clear hE0 hE1 hx1 hx2
    refine sets_law (B := wx.heap.size) (H := w.heap.size) (p := p) (bm := bm) (s := s) (w := wx) hg 0 0 (by omega) (by omega) (by omega) hpx' rfl rfl
      (BestE s w B wx.heap.size W2.heap.size p bm (w.heap.size + 1) (w.heap.size + 1 + 1)) (fun _ _ => False) (fun k A B h hs => h.stay hs hs.below.size) (fun _ _ _ h _ => h) (fun k A h => ⟨h.shop.at_ (by omega), h.hB⟩) rfl (HE1.out _ _ _) ?hround ?hdone (fun _ _ _ _ h _ => h.elim)
    case hround =>
      intro r k W' hk hE hsz hr1 hr2
      have hsucc := bestTo_succ s k hk
      have hbd := bestTo_bd hg k (by omega)
      have hlt := setN_lt hk
      have hwd := bits_worth hg ((setNs s 0 0).getD k 0)
      have hbl := bits_len s.orders.length ((setNs s 0 0).getD k 0)
      have Hel := Lib.hid (show setEl s 0 0 k = #[.int .i64 (((setNs s 0 0).getD k 0 : Nat) : Int), .int .i64 (worthOf s (bitsOf s.orders.length ((setNs s 0 0).getD k 0)))] from rfl)
      have hli := list_any ((setNs s 0 0).getD k 0) s.orders.length (by have := Nat.pow_le_pow_right (n := 2) (by omega) hg.olen; omega) (lenB_lt hlt.1)
      rw [Hel.out]
      generalize (setNs s 0 0).getD k 0 = x at *
      generalize bitsOf s.orders.length x = X at *
      generalize hT : Array.foldl _ _ _ = T
      simp at hT
      subst hT
      have HE := Lib.hid hE
      have Hli := Lib.hid hli
      have Hsucc := Lib.hid hsucc
      have holen := hg.olen
      clear hE hli hsucc hlt Hel
      gi_wp2
      refine ⟨NC.refl _, fun W₂ hb2 hz2 => ?_⟩
      have hE2 := HE.out.stay (T := 0) (.of_book hb2 (by omega) (by omega)) hb2.below.size
      obtain ⟨A, c, t1, t2⟩ := hE2.tk
      have c1 := cellOf t1 0 (v := .slice A (bestTo s k).1.length c) rfl
      have w1 := hE2.wo
      have c2 := cellOf w1 0 (v := .int .i64 (bestTo s k).2) rfl
      have f1 : W₂.frozen? ⟨w.heap.size + 1, 0, none⟩ = false := by simp [World.frozen?, t1]
      have f2 : W₂.frozen? ⟨w.heap.size + 1 + 1, 0, none⟩ = false := by simp [World.frozen?, w1]
      have hs2 : w.heap.size + 1 + 1 < W₂.heap.size := lt_of_block w1
      have hs3 : wx.heap.size + 3 ≤ W₂.heap.size := by omega
      have HE2 := Lib.hid hE2
      have T1 := Lib.hid t1
      have T2 := Lib.hid t2
      have W1' := Lib.hid w1
      have hsame := fun i (hi : i < wx.heap.size + 3) => hb2.below.block i hi
      have Hsame := Lib.hid hsame
      clear hE2 t1 t2 w1 hb2 hz2 hsame
      have fin : ∀ (wq : World) (Al : Option Addr) (cl : Nat), Below W₂.heap.size W₂ wq → Own W₂.heap.size 3 wq (.slice Al X.length cl) (X.map Int.ofNat) → better s (bestTo s k) X = (X, worthOf s X) →
          NC W₂ ((wq.setCell ⟨w.heap.size + 1, 0, none⟩ (.slice Al X.length cl)).setCell ⟨w.heap.size + 1 + 1, 0, none⟩ (.int .i64 (worthOf s X))) ∧
          (((wq.setCell ⟨w.heap.size + 1, 0, none⟩ (.slice Al X.length cl)).setCell ⟨w.heap.size + 1 + 1, 0, none⟩ (.int .i64 (worthOf s X))).heap[wx.heap.size]? = W'.heap[wx.heap.size]? ∧
            ((wq.setCell ⟨w.heap.size + 1, 0, none⟩ (.slice Al X.length cl)).setCell ⟨w.heap.size + 1 + 1, 0, none⟩ (.int .i64 (worthOf s X))).heap[wx.heap.size + 1]? = W'.heap[wx.heap.size + 1]? ∧
            ((wq.setCell ⟨w.heap.size + 1, 0, none⟩ (.slice Al X.length cl)).setCell ⟨w.heap.size + 1 + 1, 0, none⟩ (.int .i64 (worthOf s X))).heap[wx.heap.size + 2]? = W'.heap[wx.heap.size + 2]?) ∧
          BestE s w B wx.heap.size W2.heap.size p bm (w.heap.size + 1) (w.heap.size + 1 + 1) (k + 1) ((wq.setCell ⟨w.heap.size + 1, 0, none⟩ (.slice Al X.length cl)).setCell ⟨w.heap.size + 1 + 1, 0, none⟩ (.int .i64 (worthOf s X))) := by
        intro wq Al cl hbq hown hbet
        have g1 := (hbq.block _ (lt_of_block T1.out)).trans T1.out
        have g2 := (hbq.block _ (lt_of_block W1'.out)).trans W1'.out
        have hzq := hbq.size
        refine ⟨(((NC.refl _).of_below hbq).setCell _ _).setCell _ _, ⟨?_, ?_, ?_⟩, ?_, ?_, ?_, ?_, ?_⟩
        · rw [Below.heap_setCell _ _ _ _ (by simp; omega), Below.heap_setCell _ _ _ _ (by simp; omega), hbq.block _ (by omega), Hsame.out _ (by omega)]
        · rw [Below.heap_setCell _ _ _ _ (by simp; omega), Below.heap_setCell _ _ _ _ (by simp; omega), hbq.block _ (by omega), Hsame.out _ (by omega)]
        · rw [Below.heap_setCell _ _ _ _ (by simp; omega), Below.heap_setCell _ _ _ _ (by simp; omega), hbq.block _ (by omega), Hsame.out _ (by omega)]
        · exact ((HE2.out.below.trans (hbq.mono (by omega))).setCell (by simp) _).setCell (by simp; omega) _
        · exact ((HE2.out.shop.below hbq).setMid (by simp; omega) (by simp; omega) _).setMid (by simp; omega) (by simp; omega) _
        · simpa [World.setCell] using (by omega : wx.heap.size ≤ wq.heap.size)
        · rw [Hsucc.out, hbet]
          refine ⟨Al, cl, ?_, ?_⟩
          · rw [Below.heap_setCell _ _ _ _ (by simp)]; exact one_set g1
          · have h9 := ((hown.other (p := ⟨w.heap.size + 1, 0, none⟩) (by simp; omega) (.slice Al X.length cl)).other (p := ⟨w.heap.size + 1 + 1, 0, none⟩) (by simp; omega) (.int .i64 (worthOf s X))).rd
            exact h9
        · rw [Hsucc.out, hbet]
          exact one_set (by rw [Below.heap_setCell _ _ _ _ (by simp)]; exact g2)
      have same : ∀ (wq : World), Below W₂.heap.size W₂ wq → better s (bestTo s k) X = bestTo s k →
          NC W₂ wq ∧ (wq.heap[wx.heap.size]? = W'.heap[wx.heap.size]? ∧ wq.heap[wx.heap.size + 1]? = W'.heap[wx.heap.size + 1]? ∧ wq.heap[wx.heap.size + 2]? = W'.heap[wx.heap.size + 2]?) ∧
          BestE s w B wx.heap.size W2.heap.size p bm (w.heap.size + 1) (w.heap.size + 1 + 1) (k + 1) wq := by
        intro wq hbq hbet
        have hzq := hbq.size
        refine ⟨(NC.refl _).of_below hbq, ⟨?_, ?_, ?_⟩, ?_⟩
        · rw [hbq.block _ (by omega), Hsame.out _ (by omega)]
        · rw [hbq.block _ (by omega), Hsame.out _ (by omega)]
        · rw [hbq.block _ (by omega), Hsame.out _ (by omega)]
        · obtain ⟨A1, c1, h1, h2⟩ := HE2.out.tk
          refine ⟨HE2.out.below.trans (hbq.mono (by omega)), HE2.out.shop.below hbq, by omega, ?_, ?_⟩
          · rw [Hsucc.out, hbet]
            exact ⟨A1, c1, (hbq.block _ (lt_of_block h1)).trans h1, (h2.below hbq).mono hzq⟩
          · rw [Hsucc.out, hbet]
            exact (hbq.block _ (lt_of_block HE2.out.wo)).trans HE2.out.wo
      have Fin := Lib.hid fin
      have Same := Lib.hid same
      clear fin same
      have hcmpL : ∀ y : List Nat, cmpL (X.map Int.ofNat) (y.map Int.ofNat) < 0 ↔ X < y := fun y => cmpL_lt X y
      have HcL := Lib.hid (hcmpL (bestTo s k).1)
      have Hb1 := Lib.hid (@better_yes s (bestTo s k) X)
      have Hb0 := Lib.hid (@better_no s (bestTo s k) X)
      have HT2 := T2
      clear hcmpL Hsucc
      generalize bestTo s k = bt at *
      generalize worthOf s X = wv at *
      by_cases hgt : bt.2 < wv
      · have hgt2 : decide (bt.2 < wv) = true := by simpa using hgt
        gi_wp2_with (refine ⟨trivial, rfl, ?_⟩; gi_at_call 70; refine (callsIn_wide.2 (Hli.out _)).mono ?_; rintro e wq ⟨Al, cl, rfl, hown, hbq⟩; have c1 := (hbq.cell (cell_lt c1)).trans c1; have c2 := (hbq.cell (cell_lt c2)).trans c2; have f1 := (hbq.frozen (p := ⟨w.heap.size + 1, 0, none⟩) (by show w.heap.size + 1 < _; omega)).trans f1; have f2 := (hbq.frozen (p := ⟨w.heap.size + 1 + 1, 0, none⟩) (by show w.heap.size + 1 + 1 < _; omega)).trans f2; have HO := Lib.hid hown; have HQ := Lib.hid hbq; clear hown hbq)
        · rename_i hu _; exact absurd hu (by simp [undef])
        · rename_i hu _; exact absurd hu (by simp [undef])
        · refine ⟨trivial, ?_⟩
          gi_wp2
          obtain ⟨a1, a2, a3⟩ := Fin.out wq Al cl HQ.out HO.out (Hb1.out (.inl hgt))
          exact ⟨a1, ⟨a2, a3⟩, trivial⟩
      · have hgt2 : decide (bt.2 < wv) = false := by simpa using hgt
        by_cases heq : wv = bt.2
        · have heq2 : (wv == bt.2) = true := by simpa using heq
          have Heq := Lib.hid heq
          clear heq
          by_cases hc : X < bt.1
          · have hc2 : decide (cmpL (X.map Int.ofNat) (bt.1.map Int.ofNat) < 0) = true := by simpa using HcL.out.2 hc
            have Hc := Lib.hid hc
            clear hc
            gi_wp2_with (first | (refine ⟨trivial, rfl, ?_⟩; gi_at_call 70; refine (callsIn_wide.2 (Hli.out _)).mono ?_; rintro e wq ⟨Al, cl, rfl, hown, hbq⟩; have c1 := (hbq.cell (cell_lt c1)).trans c1; have c2 := (hbq.cell (cell_lt c2)).trans c2; have f1 := (hbq.frozen (p := ⟨w.heap.size + 1, 0, none⟩) (by show w.heap.size + 1 < _; omega)).trans f1; have f2 := (hbq.frozen (p := ⟨w.heap.size + 1 + 1, 0, none⟩) (by show w.heap.size + 1 + 1 < _; omega)).trans f2; have HO := Lib.hid hown; have HQ := Lib.hid hbq; clear hown hbq) | (refine ⟨trivial, rfl, ?_⟩; gi_at_call 71; refine (callsIn_wide.2 (compare_any HO.out.rd (HT2.out.below HQ.out) (by simp; omega) (by simp; omega))).mono ?_; rintro e w' ⟨rfl, rfl⟩))
            obtain ⟨a1, a2, a3⟩ := Fin.out wq Al cl HQ.out HO.out (Hb1.out (.inr ⟨Heq.out, Hc.out⟩))
            exact ⟨a1, ⟨a2, a3⟩, trivial⟩
          · have hc2 : decide (cmpL (X.map Int.ofNat) (bt.1.map Int.ofNat) < 0) = false := by simpa using fun h => hc (HcL.out.1 h)
            have Hc := Lib.hid hc
            clear hc
            gi_wp2_with (first | (refine ⟨trivial, rfl, ?_⟩; gi_at_call 70; refine (callsIn_wide.2 (Hli.out _)).mono ?_; rintro e wq ⟨Al, cl, rfl, hown, hbq⟩; have c1 := (hbq.cell (cell_lt c1)).trans c1; have c2 := (hbq.cell (cell_lt c2)).trans c2; have f1 := (hbq.frozen (p := ⟨w.heap.size + 1, 0, none⟩) (by show w.heap.size + 1 < _; omega)).trans f1; have f2 := (hbq.frozen (p := ⟨w.heap.size + 1 + 1, 0, none⟩) (by show w.heap.size + 1 + 1 < _; omega)).trans f2; have HO := Lib.hid hown; have HQ := Lib.hid hbq; clear hown hbq) | (refine ⟨trivial, rfl, ?_⟩; gi_at_call 71; refine (callsIn_wide.2 (compare_any HO.out.rd (HT2.out.below HQ.out) (by simp; omega) (by simp; omega))).mono ?_; rintro e w' ⟨rfl, rfl⟩))
            obtain ⟨a1, a2, a3⟩ := Same.out wq HQ.out (Hb0.out (fun h => h.elim (fun h => by omega) (fun h => Hc.out h.2)))
            exact ⟨a1, ⟨a2, a3⟩, trivial⟩
        · have heq2 : (wv == bt.2) = false := by simpa using heq
          have Heq := Lib.hid heq
          clear heq
          gi_wp2_with (first | (refine ⟨trivial, rfl, ?_⟩; gi_at_call 70; refine (callsIn_wide.2 (Hli.out _)).mono ?_; rintro e wq ⟨Al, cl, rfl, hown, hbq⟩; have c1 := (hbq.cell (cell_lt c1)).trans c1; have c2 := (hbq.cell (cell_lt c2)).trans c2; have f1 := (hbq.frozen (p := ⟨w.heap.size + 1, 0, none⟩) (by show w.heap.size + 1 < _; omega)).trans f1; have f2 := (hbq.frozen (p := ⟨w.heap.size + 1 + 1, 0, none⟩) (by show w.heap.size + 1 + 1 < _; omega)).trans f2; have HO := Lib.hid hown; have HQ := Lib.hid hbq; clear hown hbq) | (refine ⟨trivial, rfl, ?_⟩; gi_at_call 71; refine (callsIn_wide.2 (compare_any HO.out.rd (HT2.out.below HQ.out) (by simp; omega) (by simp; omega))).mono ?_; rintro e w' ⟨rfl, rfl⟩))
          refine ⟨trivial, ?_⟩
          gi_wp2
          obtain ⟨a1, a2, a3⟩ := Same.out wq HQ.out (Hb0.out (fun h => h.elim (fun h => by omega) (fun h => Heq.out h.1)))
          exact ⟨a1, ⟨a2, a3⟩, trivial⟩
    case hdone =>
      intro d W' hd hE hk
      obtain ⟨A, c, t1, t2⟩ := hE.tk
      have w1 := hE.wo
      rw [bestTo_end] at t1 t2 w1
      have c1 := cellOf t1 0 (v := .slice A (bestL s).1.length c) rfl
      have c2 := cellOf w1 0 (v := .int .i64 (bestL s).2) rfl
      have f1 : W'.frozen? ⟨w.heap.size + 1, 0, none⟩ = false := by simp [World.frozen?, t1]
      have f2 : W'.frozen? ⟨w.heap.size + 1 + 1, 0, none⟩ = false := by simp [World.frozen?, w1]
      have Hbl := Lib.hid hE.below
      have T1 := Lib.hid t1
      have T2 := Lib.hid t2
      have W1' := Lib.hid w1
      have Hk := Lib.hid hk
      clear hE t1 t2 w1 hk
      generalize bestL s = bt at *
      simp only [Exit.inBlock, Exit.then]
      go_wp2
      go_region
      all_goals
        go_wp2
        obtain ⟨WF, hWF⟩ : ∃ WF, WF = ((W'.setCell ⟨w.heap.size + 1, 0, none⟩ (.slice A bt.1.length c)).setCell ⟨w.heap.size + 1 + 1, 0, none⟩ (.int .i64 bt.2)).drew := ⟨_, rfl⟩
        have hd0 : d ≠ w.heap.size + 1 ∧ d ≠ w.heap.size + 1 + 1 := by omega
        have g1 : WF.heap[w.heap.size + 1]? = some (.cells #[.slice A bt.1.length c] 22) := by
          rw [hWF]; exact (Below.heap_setCell _ _ _ _ (by simp)).trans (one_set T1.out)
        have g2 : WF.heap[w.heap.size + 1 + 1]? = some (.cells #[.int .i64 bt.2] 3) := by
          rw [hWF]; exact one_set ((Below.heap_setCell _ _ _ _ (by simp)).trans W1'.out)
        have g3 : WF.heap[d]? = some (.deferred (some [])) := by
          rw [hWF]; exact (Below.heap_setCell _ _ _ _ (by simpa using hd0.2)).trans ((Below.heap_setCell _ _ _ _ (by simpa using hd0.1)).trans Hk.out)
        have g4 : Below w.heap.size w WF := by
          rw [hWF]; exact ((Hbl.out.setCell (p := ⟨w.heap.size + 1, 0, none⟩) (by simp) _).setCell (p := ⟨w.heap.size + 1 + 1, 0, none⟩) (by simp; omega) _).drew
        have g5 : Rd IntAt 1 WF.heap.size WF (.slice A (bt.1.map Int.ofNat).length c) (bt.1.map Int.ofNat) := by
          rw [List.length_map]
          have hz : WF.heap.size = W'.heap.size := by rw [hWF]; simp [World.setCell, World.drew]
          rw [hz]
          refine T2.out.keep fun q _ => ?_
          rw [hWF]
          exact (rewrite_cell (show (W'.setCell ⟨w.heap.size + 1, 0, none⟩ (.slice A bt.1.length c)).cell? ⟨w.heap.size + 1 + 1, 0, none⟩ = some (.int .i64 bt.2) from by rw [World.cell?_setCell_other _ _ _ _ (by simp)]; exact c2) q).trans (rewrite_cell c1 q)
        rw [← hWF]
        clear hWF
        refine leaves_one rfl g3 (Nat.le_refl d) fun w' hbk => ?_
        have hsz' := hbk.below.size
        refine ⟨_, results31 ⟨_, _, _, rfl⟩ (hbk.cell (cellOf g1 0 rfl)) (hbk.cell (cellOf g2 0 rfl)) rfl rfl rfl, bestR_eq e.out (A := A) (c := c) (by rw [List.length_map]) ((g5.stay fun b c e f _ hc => hbk.data _ _ hc rfl).mono hsz') ?_⟩
        exact g4.trans (hbk.below.mono (by omega))
  · have hq := Lib.hid (look_bad hS2.out hnm hB2 he)
    have e := Lib.hid (show bestF s = ([], 0, errOf s) by unfold bestF; rw [if_pos he])
    have hne : (errOf s != 0) = true := by simpa using he
    have Q1 := Lib.hid q1
    have Q2 := Lib.hid r2
    have Hk := Lib.hid (fun wx (hbx : Below W2.heap.size W2 wx) => show ((wx.frozen? ⟨w.heap.size + 1, 0, none⟩ = false ∧ wx.frozen? ⟨w.heap.size + 1 + 1, 0, none⟩ = false) ∧ (∃ v, wx.cell? ⟨w.heap.size + 1, 0, none⟩ = some v) ∧ ∃ v, wx.cell? ⟨w.heap.size + 1 + 1, 0, none⟩ = some v) from by
      have e1 := (hbx.block _ (lt_of_block q1)).trans q1
      have e2 := (hbx.block _ (lt_of_block r2)).trans r2
      exact ⟨⟨by simp [World.frozen?, e1], by simp [World.frozen?, e2]⟩, ⟨_, cellOf e1 0 rfl⟩, ⟨_, cellOf e2 0 rfl⟩⟩)
    clear he q1 r2
    go_wp2_with (go_at_call 68; refine hq.out.mono ?_; rintro e wx ⟨rfl, hbx⟩; obtain ⟨⟨f0, f1⟩, ⟨v0, d0⟩, ⟨v1, d1⟩⟩ := Hk.out wx hbx; have HBX := Lib.hid hbx; clear hbx)
    have e1 := (HBX.out.block _ (lt_of_block Q1.out)).trans Q1.out
    have e2 := (HBX.out.block _ (lt_of_block Q2.out)).trans Q2.out
    have g1 : ((wx.setCell ⟨w.heap.size + 1, 0, none⟩ (.slice none 0 0)).setCell ⟨w.heap.size + 1 + 1, 0, none⟩ (.int .i64 0)).heap[w.heap.size + 1]? = some (.cells #[.slice none 0 0] 22) := by
      rw [Below.heap_setCell _ _ _ _ (by simp)]; exact one_set e1
    have g2 : ((wx.setCell ⟨w.heap.size + 1, 0, none⟩ (.slice none 0 0)).setCell ⟨w.heap.size + 1 + 1, 0, none⟩ (.int .i64 0)).heap[w.heap.size + 1 + 1]? = some (.cells #[.int .i64 0] 3) :=
      one_set (by rw [Below.heap_setCell _ _ _ _ (by simp)]; exact e2)
    refine ⟨_, results31 ⟨_, _, _, rfl⟩ (cellOf g1 0 rfl) (cellOf g2 0 rfl) rfl rfl rfl, bestR_eq e.out rfl (Rd.nil _ _) ?_⟩
    exact ((Hb2.out.trans (HBX.out.mono Hb2.out.size)).setCell (by simp) _).setCell (by simp; omega) _
end Go.Proofs.Ytkmaapkbonkjfaa
