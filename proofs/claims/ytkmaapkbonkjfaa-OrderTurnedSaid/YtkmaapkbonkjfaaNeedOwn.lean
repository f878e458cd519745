/- Walks of the layer order: Needed of the program, whose result is the caller's own. -/
import Derived.Test.YtkmaapkbonkjfaaGEnter
set_option linter.unusedSimpArgs false
set_option linter.unusedVariables false
namespace Go.Proofs.Ytkmaapkbonkjfaa
open Go.RowKit Go.Shelf
attribute [local go_sem] Oper.semAt_some

theorem Own.stay {α : Type} {At : World → Addr → α → Prop} {sz : Nat} [E : Enc α At sz] {base : Nat} {e : TypeId} {w w' : World} {v : Value} {xs : List α} (h : Own base e w v xs) (hk : ∀ (b : Nat) (c : Array Value) (e : TypeId) (f : Nat × Nat), w.heap[b]? = some (.cells c e f) → w'.heap[b]? = some (.cells c e f)) : Own base e w' v xs := by
  rcases h with ⟨hl, h0 | ⟨g, cap, cur, rfl, hbb, hh, r⟩⟩
  · exact ⟨hl, .inl h0⟩
  · exact ⟨hl, .inr ⟨g, cap, cur, rfl, hbb, hk _ _ _ _ hh, r⟩⟩
set_option maxRecDepth 100000 in
theorem clone_own {B : Nat} {w : World} {ad : Addr} {c : Nat} {xs : List Int} (hv : Rd IntAt 1 B w (.slice (some ad) xs.length c) xs) (hB : B ≤ w.heap.size) (hn : xs.length ≤ 1000) :
    Calls Try.prog 57 #[.slice (some ad) xs.length c] w fun e w' => ∃ A c', e = .returned (.slice A xs.length c') ∧ Own w.heap.size 3 w' (.slice A xs.length c') xs ∧ Below w.heap.size w w' := by
  obtain ⟨A, c', w', hrun, hown, hb, _⟩ := append_ints (own_empty w 3) (hv.alloc hB _) (by simp; omega) (by simp)
  simp only [List.length_nil, Nat.zero_add, List.nil_append] at hrun hown
  have Hown := Lib.hid hown
  have Hb := Lib.hid (((Below.refl w.heap.size w).alloc (Nat.le_refl _) _).trans hb)
  clear hown hb hv
  have hq : (binOp .eql 22 (.slice (some ad) xs.length c) (.slice none 0 0)).run Try.prog w = .ok (.bool false) w := by kernel_rfl
  go_enter Try.func57, Try.ntmps57
  go_wp2_with (at_builtin; refine wpList_append_run rfl _ _ _ rfl rfl rfl hrun ?_)
  go_ret
  exact ⟨A, c', rfl, Hown.out, Hb.out⟩

set_option maxRecDepth 100000 in
theorem pneeded_own {B : Nat} {w : World} {v vt : Value} {s : ShopR} {t : List Int} (h : Given B w v vt s t) (he : takenErr s t = 0) :
    Calls Try.prog 20 #[v, vt] w fun e w' => ∃ A c, e = .returned (.tuple #[.slice A s.parts.length c, .int .i64 0]) ∧ Own w.heap.size 3 w' (.slice A s.parts.length c) (neededL s (ofL s t)) ∧ Below w.heap.size w w' := by
  obtain ⟨Ah, ch, Ap, cp, Ao, co, At_, ct, rfl, rfl⟩ := h.form
  obtain ⟨W, hW, c0, c1, c2, hz, hb, _⟩ := shop_box w (.slice Ah s.hours.length ch) (.slice Ap s.parts.length cp) (.slice Ao s.orders.length co)
  obtain ⟨_, hg, hf, ht8⟩ := fit_of he
  have hplen := hg.plen
  refine calls_of_wp_marks Try.func20 rfl ?_
  simp only [Try.ntmps20, List.size_toArray, List.length_cons, List.length_nil, Nat.reduceAdd, Nat.reduceSub, Array.replicate_succ,
     Array.replicate_zero, List.push_toArray, List.append_toArray, List.nil_append, List.cons_append]
  go_upto_region 1 with (fail)
  rw [← hW]
  have hG := Lib.hid (h.below hb)
  have hq := Lib.hid (enter_ok hG.out he)
  have Hb := Lib.hid hb
  have C1 := Lib.hid c1
  clear hW hz hb h he
  go_upto_region 4 with (go_at_call 52; refine hq.out.mono ?_; rintro e wx ⟨p, bm, A, c, rfl, hE⟩; have HE := Lib.hid hE; clear hE)
  clear c0 c1 c2
  obtain ⟨W1, hW1, r1, z1, b1⟩ := box_any wx #[.int .i64 0, .int .i64 0, .int .i64 0] 93
  have HR := Lib.hid r1
  have hb1 := Lib.hid b1
  have hz1 := Lib.hid z1
  clear r1 z1 b1
  go_wp2_with (go_at_call 56; refine (days_any _ _ _ _ _).mono ?_; rintro e w' ⟨rfl, rfl⟩)
  rw [← hW1]
  clear hW1
  refine days_law (w0 := wx) (w := W1) HE.out.shop HE.out.ls (Nat.le_refl _) hg hf (.of_below hb1.out) (HE.out.shop.map.below hb1.out) (by rw [hz1.out]; rfl) rfl
    (fun k W' => ArrAt W' wx.heap.size (fun i => if k = 0 then 0 else castP s (fun i => due (ofL s t) i ((k : Int) - 1)) i)) (fun _ _ => False)
    ?hE (fun _ _ _ h _ => h) rfl ?h0 ?hround ?hdone (fun _ _ _ _ _ _ h _ => h.elim)
  case hE => exact fun k A B h hc => hc.arr (by have := hz1.out; omega) h
  case h0 =>
    refine ArrAt.below (ArrAt.congr (f := fun _ => 0) HR.out fun i _ => by simp) ?_
    exact ((Below.refl _ _).alloc (Nat.le_refl _) _).alloc (by simp) _
  case hround =>
    intro r k W' hk h1 h2 h3 hsz hr1 hr2
    have Hel := Lib.hid (show dayEl s (ofL s t) k = #[.int .i64 k, encP (castP s fun i => due (ofL s t) i k)] from rfl)
    rw [Hel.out]
    obtain ⟨f, hfe⟩ : ∃ f : Nat → Int, f = castP s (fun i => due (ofL s t) i k) := ⟨_, rfl⟩
    rw [← hfe]
    have Hfe := Lib.hid hfe
    clear hfe
    generalize hT : Array.foldl _ _ _ = T
    simp [encP] at hT
    subst hT
    have H3 := Lib.hid h3
    have k0 := h3.cell (i := 0) (by omega)
    have k1 := h3.cell (i := 1) (by omega)
    have k2 := h3.cell (i := 2) (by omega)
    have kf0 := h3.frozen 0
    have kf1 := h3.frozen 1
    have kf2 := h3.frozen 2
    clear h3
    gi_wp2
    have hbk : wx.heap.size < W1.heap.size := by have := hz1.out; omega
    have hk3 := ((h1.setCell (p := ⟨wx.heap.size, 0, none⟩) (Nat.le_refl _) (.int .i64 (f 0))).setCell (p := ⟨wx.heap.size, 1, none⟩) (Nat.le_refl _) (.int .i64 (f 1))).setCell (p := ⟨wx.heap.size, 2, none⟩) (Nat.le_refl _) (.int .i64 (f 2))
    have hm3 := ((h2.setCell ⟨wx.heap.size, 0, none⟩ (.int .i64 (f 0))).setCell ⟨wx.heap.size, 1, none⟩ (.int .i64 (f 1))).setCell ⟨wx.heap.size, 2, none⟩ (.int .i64 (f 2))
    have ha3 := H3.out.set3 (g := f)
    refine ⟨(((NC.refl _).setCell _ _).setCell _ _).setCell _ _, fun W₂ hb2 hz2 => ?_⟩
    gi_wp2
    refine ⟨NC.refl _, ⟨hk3.book hb2 (by omega), hm3.book hb2, ⟨?_, ?_⟩, ?_⟩, ?_⟩
    · exact (hb2.below.block _ (by omega)).trans (set3_heap _ (by omega) _ _ _)
    · exact (hb2.below.block _ (by omega)).trans (set3_heap _ (by omega) _ _ _)
    · refine ArrAt.congr (f := f) (hb2.data _ _ ha3 rfl) fun i _ => ?_
      rw [Hfe.out]
      congr 1
      funext j
      congr 1
      omega
    · intro b cs fz hb hc
      exact hb2.data _ _ ((set3_heap _ (by omega) _ _ _).trans hc) rfl
  case hdone =>
    intro d W' hd h1 h2 h3 hk
    have c1 := h1.cell HE.out.shop.map ((HE.out.bl.cell (cell_lt C1.out)).trans C1.out)
    have hhl := hg.hlen
    have hrd := arr_rd h3 hplen.2
    rw [needed_eq (l := ofL s t) (day := (s.hours.length : Int) - 1) _ (fun i hi => by rw [if_neg (by omega)]) hplen.2] at hrd
    have hrd : Rd IntAt 1 (wx.heap.size + 1) W' (.slice (some ⟨wx.heap.size, 0, none⟩) s.parts.length 3) (neededL s (ofL s t)) := hrd
    have hsz := h1.size
    have hlt := lt_of_block h3
    have hcl := clone_own (B := wx.heap.size + 1) (w := W') (ad := ⟨wx.heap.size, 0, none⟩) (c := 3) (xs := neededL s (ofL s t)) (by rw [neededL_len]; exact hrd) (by omega) (by rw [neededL_len]; omega)
    rw [neededL_len] at hcl
    have hsl := arr_slice wx.heap.size s.parts.length W' hplen.2
    have Hcl := Lib.hid hcl
    have H1 := Lib.hid h1
    have Hk := Lib.hid hk
    have Hlt := Lib.hid hlt
    clear h1 h2 h3 hk hcl hrd hlt hsz
    simp only [Exit.inBlock, Exit.then]
    go_wp2_with (go_at_call 57; refine Hcl.out.mono ?_; rintro e W3 ⟨A3, c3, rfl, hr3, hb3⟩)

    have hbw : Below w.heap.size w W3 := Hb.out.trans ((HE.out.after (H1.out.trans (.of_below hb3))).mono Hb.out.size)
    refine leaves_one rfl ((hb3.block _ (lt_of_block Hk.out)).trans Hk.out) (Nat.le_refl d) fun w' hbk => ?_
    have hH := hbk.below.size
    have hbw2 := hb3.size
    have hd3 := lt_of_block Hk.out
    refine ⟨_, results_tmp2 rfl _ _ _, A3, c3, rfl, ?_, ?_⟩
    · have h0 := Hb.out.size
      have h00 := HE.out.bl.size
      have h000 := hz1.out
      have h1s := H1.out.size
      exact (hr3.stay fun b c e f hc => hbk.data _ _ hc rfl).mono (by omega)
    · have h0 := Hb.out.size
      have h00 := HE.out.bl.size
      have h000 := hz1.out
      exact ⟨hbk.below.os.trans hbw.os, hbk.below.tape.trans hbw.tape, hbk.below.output.trans hbw.output, Nat.le_trans hbw.size hH, fun k hk => (hbk.below.block k (by omega)).trans (hbw.block k hk)⟩

end Go.Proofs.Ytkmaapkbonkjfaa
