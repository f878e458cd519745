/- Parts of the proof of TpP: With, WithM. -/
import Derived.Test.YthnimhnlnddnoaaGreatDoorH11
import Derived.Test.YthnimhnlnddnoaaGreatDoorH12
import Derived.Test.YthnimhnlnddnoaaGreatDoorH13
import Derived.Test.YthnimhnlnddnoaaGreatDoorH9
import Derived.Laws.EntriesVeiled
import Derived.WalkKit
import Derived.Deep.Quiet
set_option linter.unusedSimpArgs false
set_option linter.unusedVariables false
set_option maxRecDepth 100000
set_option maxHeartbeats 8000000
namespace Go.Proofs.YthnimhnlnddnoaaGreatDoor
open Go.RowKit Go.Shelf
attribute [local go_sem] Oper.semAt_some
theorem bounds_any (w : World) (iv i wd : Int) (vp vn : Value) :
  Calls Tryz.prog 98 #[.agg #[.int .i64 iv, vp, vn], .int .i64 i, .int .i64 wd] w fun e w' =>
   e = .returned (.func (.func 121) #[] #[.pointer (some ⟨w.heap.size, 0, none⟩), .pointer (some ⟨w.heap.size + 1, 0, none⟩), .pointer (some ⟨w.heap.size + 2, 0, none⟩)]) ∧
   w' = ((w.alloc (.cells #[.int .i64 iv, vp, vn] 108)).alloc (.cells #[.int .i64 i] 3)).alloc (.cells #[.int .i64 wd] 3) := by
 go_enter Tryz.func98, Tryz.ntmps98
 go_wp2
 go_ret
 simp
structure BN (iv : Int) (i : Nat) (wd : Int) (x : NoteR) (B a : Nat) (A : Option Addr) (n c : Nat) (W : World) : Prop where
 c0 : W.cell? ⟨a, 0, none⟩ = some (.int .i64 iv)
 c2 : W.cell? ⟨a, 2, none⟩ = some (.slice A n c)
 ci : W.cell? ⟨a + 1, 0, none⟩ = some (.int .i64 i)
 cw : W.cell? ⟨a + 2, 0, none⟩ = some (.int .i64 wd)
 nt : ∃ ad, A = some ad ∧ NoteAt W (ad.add (i * 5)) x
def BK (H : Nat) (A B : World) : Prop := ∀ (b : Nat) (cs : Array Value) (T : TypeId) (f : Nat × Nat), H ≤ b → A.heap[b]? = some (.cells cs T f) → B.heap[b]? = some (.cells cs T f)
def BS (H : Nat) (A B : World) : Prop := Below H A B ∧ NC A B
def bndEl (iv wd : Int) (x : NoteR) (k : Nat) : Array Value := #[.agg #[.int .i64 (bnd iv wd x k).1, .int .i64 (bnd iv wd x k).2.1, .int .i64 (bnd iv wd x k).2.2]]
theorem BS.below {H : Nat} {A w w' : World} (h : BS H A w) (hb : Below w.heap.size w w') (hH : H ≤ w.heap.size) : BS H A w' := ⟨h.1.trans (hb.mono hH), h.2.of_below hb⟩
structure Jn (W w : World) (x : NoteR) (lo hi : Int) : Prop where
 keep : BS W.heap.size W w
 nt : w.heap[W.heap.size]? = some (.cells #[.int .i64 x.kind, .int .i64 x.a, .int .i64 x.b, .int .i64 x.lo, .int .i64 x.hi] 86)
 sp : w.heap[W.heap.size + 1]? = some (.cells #[.int .i64 lo, .int .i64 hi] 42)
theorem bounds_iter {iv wd : Int} {i n c np : Nat} {x : NoteR} {A : Option Addr} (hx : NoteOK np iv x) (hnp : np ≤ 8) (hiv : 1 ≤ iv ∧ iv ≤ 1000) (hwd : 0 ≤ wd ∧ wd ≤ 9000) (hi : i < n) (hn : n ≤ 12) (B a : Nat) :
  Iter Tryz.prog 121 #[.pointer (some ⟨a, 0, none⟩), .pointer (some ⟨a + 1, 0, none⟩), .pointer (some ⟨a + 2, 0, none⟩)] 2 (bndEl iv wd x) BK BS (BN iv i wd x B a A n c) := by
 intro L Y Z W hS hN hR h0
 refine callsIn_wide.2 ?_
 show Calls Tryz.prog 121 #[.func (.yield L) #[] #[], .pointer (some ⟨a, 0, none⟩), .pointer (some ⟨a + 1, 0, none⟩), .pointer (some ⟨a + 2, 0, none⟩)] W _
 have hn0 := hN _ _ h0
 obtain ⟨c0, c2, ci, cw, ad, rfl, n0, n1, n2, n3, n4⟩ := id hn0
 obtain ⟨W1, hW1, r1, z1, b1⟩ := box_any W #[.int .i64 x.kind, .int .i64 x.a, .int .i64 x.b, .int .i64 x.lo, .int .i64 x.hi] 86
 go_enter Tryz.func121, Tryz.ntmps121
 go_upto_region 1 with (fail)
 rw [← hW1]
 clear hW1
 have d0 := cellOf r1 0 rfl
 have d1 := cellOf r1 1 rfl
 have d2 := cellOf r1 2 rfl
 have d3 := cellOf r1 3 rfl
 have d4 := cellOf r1 4 rfl
 clear c0 c2 ci cw n0 n1 n2 n3 n4
 go_upto_region 1 with (fail)
 go_region
 obtain ⟨W2, hW2⟩ : ∃ W2, (W1.alloc (.cells #[.int .i64 x.lo, .int .i64 x.hi] 42)).drew = W2 := ⟨_, rfl⟩
 rw [hW2]
 have z1' := z1
 have r2 : W2.heap[W1.heap.size]? = some (.cells #[.int .i64 x.lo, .int .i64 x.hi] 42) := by rw [← hW2]; exact heap_alloc_new W1 _
 have b2 : Below W1.heap.size W1 W2 := by rw [← hW2]; exact ((Below.refl _ _).alloc (Nat.le_refl _) _).drew
 have nc2 : BS W.heap.size W W2 := by
  have h1 : BS W.heap.size W W1 := ⟨b1, NC.of_below (NC.refl W) b1⟩
  exact h1.below b2 (by omega)
 have r1' := (b2.block _ (by omega)).trans r1
 rw [z1] at r2
 have R1 := Lib.hid r1'
 have R2 := Lib.hid r2
 have NC2 := Lib.hid nc2
 have HZ := Lib.hid (show W.heap.size + 2 = W2.heap.size by rw [← hW2]; simp [z1])
 have H0 := Lib.hid h0
 have HS := Lib.hid hS
 have HN := Lib.hid hN
 have HR := Lib.hid hR
 clear h0 hS hN hR hn0 hW2 b1 b2 nc2 r1 r2 r1' z1 z1' d0 d1 d2 d3 d4
 have d0 := cellOf R1.out 0 rfl
 have d1 := cellOf R1.out 1 rfl
 have d2 := cellOf R1.out 2 rfl
 have d3 := cellOf R1.out 3 rfl
 have d4 := cellOf R1.out 4 rfl
 have e0 := cellOf R2.out 0 rfl
 have e1 := cellOf R2.out 1 rfl
 have HX := Lib.hid hx
 have hkind := hx.kind
 have hends := Lib.hid (noteOK_ends hx hiv.1)
 obtain ⟨m0, m1⟩ := And.intro (bnd_most hx hiv.1 hwd 0) (bnd_most hx hiv.1 hwd 1)
 clear hx
 rcases (show x.kind = 1 ∨ x.kind = 2 ∨ x.kind = 3 ∨ x.kind = 4 by omega) with h | h | h | h
 focus
  have HN1 := Lib.hid (read_is x W2 1 171 h (.inl ⟨rfl, rfl⟩))
  have ht0 := fun (k a b lo hi : Int) (w : World) => ta131_131 k a b lo hi w
  unfold noteV at HN1
  have HK := Lib.hid h
  clear h hkind m0 m1
  go_upto_region 7 with (go_at_call 103; refine HN1.out.mono ?_; rintro e w4 ⟨rfl, hb3⟩)
  have HJ : Hid (Jn W w4 x (x.lo) (x.hi)) := Lib.hid ⟨NC2.out.below hb3 (by have := HZ.out; omega), (hb3.block _ (lt_of_block R1.out)).trans R1.out, (hb3.block _ (lt_of_block R2.out)).trans R2.out⟩
  have HA := Lib.hid (show bndEl iv wd x 0 = #[.agg #[.int .i64 8, .int .i64 x.a, .int .i64 (x.hi + wd)]] by have := HX.out.a; have := HX.out.b; simp [bndEl, bnd, othN, nhi, HK.out]; omega)
  have HB := Lib.hid (show bndEl iv wd x 1 = #[.agg #[.int .i64 x.a, .int .i64 8, .int .i64 (wd - x.lo)]] by have := HX.out.a; have := HX.out.b; simp [bndEl, bnd, othN, nlo, HK.out]; omega)
  have hq : -9000 ≤ x.lo ∧ x.lo ≤ 9000 ∧ -9000 ≤ x.hi ∧ x.hi ≤ 9000 := by have := hends.out; simp only [nlo, nhi, HK.out] at this; simp at this; omega
  obtain ⟨hh, hhe⟩ : ∃ hh, hh = x.hi := ⟨_, rfl⟩
  obtain ⟨hl, hle⟩ : ∃ hl, hl = x.lo := ⟨_, rfl⟩
  rw [← hhe] at HA hq
  rw [← hle] at HB hq
  have HJ : Hid (Jn W w4 x hl hh) := by rw [hhe, hle]; exact HJ
  clear hhe hle
 rotate_left
 focus
  have HN1 := Lib.hid (read_is x W2 2 172 h (.inr (.inl ⟨rfl, rfl⟩)))
  have ht0 := fun (k a b lo hi : Int) (w : World) => ta132_131 k a b lo hi w
  have ht1 := fun (k a b lo hi : Int) (w : World) => ta132_132 k a b lo hi w
  unfold noteV at HN1
  have HK := Lib.hid h
  have hbd := HX.out.band h
  have hlm : 0 ≤ x.lo * iv ∧ x.lo * iv ≤ 9000 := ⟨Int.mul_nonneg hbd.1 (by omega), by have := Int.mul_le_mul_of_nonneg_right (Int.le_of_lt hbd.2.2) (c := iv) (by omega); omega⟩
  have hhm : 0 ≤ x.hi * iv ∧ x.hi * iv ≤ 9000 := ⟨Int.mul_nonneg (by omega) (by omega), hbd.2.1⟩
  clear h hkind m0 m1 hbd
  go_upto_region 5 with (go_at_call 103; refine HN1.out.mono ?_; rintro e w3 ⟨rfl, hb3⟩)
  obtain ⟨g0, g1, g2⟩ : w3.cell? ⟨a, 0, none⟩ = some (.int .i64 iv) ∧ w3.cell? ⟨W.heap.size + 1, 0, none⟩ = some (.int .i64 x.lo) ∧ w3.cell? ⟨W.heap.size + 1, 1, none⟩ = some (.int .i64 x.hi) := by
   have hn3 := HN.out _ _ (HS.out _ _ _ H0.out (NC2.out.below hb3 (by have := HZ.out; omega)))
   have hr := (hb3.block _ (lt_of_block R2.out)).trans R2.out
   exact ⟨hn3.c0, cellOf hr 0 rfl, cellOf hr 1 rfl⟩
  have gf : ∀ n, w3.frozen? ⟨W.heap.size + 1, n, none⟩ = false := fun n => by
   have hr := (hb3.block _ (lt_of_block R2.out)).trans R2.out
   simp [World.frozen?, hr]
  have gf0 := gf 0
  have gf1 := gf 1
  clear gf
  go_upto_region 7 with (fail)
  clear g0 g1 g2 gf0 gf1
  have HJ : Hid (Jn W ((w3.setCell ⟨W.heap.size + 1, 0, none⟩ (.int .i64 (x.lo * iv))).setCell ⟨W.heap.size + 1, 1, none⟩ (.int .i64 (x.hi * iv))) x (x.lo * iv) (x.hi * iv)) := by
   have hk := NC2.out.below hb3 (by have := HZ.out; omega)
   have hr := (hb3.block _ (lt_of_block R2.out)).trans R2.out
   refine Lib.hid ⟨⟨(hk.1.setCell (by show W.heap.size ≤ W.heap.size + 1; omega) _).setCell (by show W.heap.size ≤ W.heap.size + 1; omega) _, (hk.2.setCell _ _).setCell _ _⟩, ?_, heap_setCell_row (heap_setCell_row hr _) _⟩
   rw [Below.heap_setCell _ _ _ _ (by show W.heap.size ≠ W.heap.size + 1; omega), Below.heap_setCell _ _ _ _ (by show W.heap.size ≠ W.heap.size + 1; omega)]
   exact (hb3.block _ (lt_of_block R1.out)).trans R1.out
  generalize (w3.setCell ⟨W.heap.size + 1, 0, none⟩ (.int .i64 (x.lo * iv))).setCell ⟨W.heap.size + 1, 1, none⟩ (.int .i64 (x.hi * iv)) = w4 at HJ ⊢
  have HA := Lib.hid (show bndEl iv wd x 0 = #[.agg #[.int .i64 8, .int .i64 x.a, .int .i64 (x.hi * iv + wd)]] by have := HX.out.a; have := HX.out.b; simp [bndEl, bnd, othN, nhi, HK.out]; omega)
  have HB := Lib.hid (show bndEl iv wd x 1 = #[.agg #[.int .i64 x.a, .int .i64 8, .int .i64 (wd - x.lo * iv)]] by have := HX.out.a; have := HX.out.b; simp [bndEl, bnd, othN, nlo, HK.out]; omega)
  have hq : -9000 ≤ x.lo * iv ∧ x.lo * iv ≤ 9000 ∧ -9000 ≤ x.hi * iv ∧ x.hi * iv ≤ 9000 := by have := hends.out; simp only [nlo, nhi, HK.out] at this; omega
  generalize x.hi * iv = hh at *
  generalize x.lo * iv = hl at *
 rotate_left
 focus
  have HN1 := Lib.hid (read_is x W2 3 173 h (.inr (.inr (.inl ⟨rfl, rfl⟩))))
  have ht0 := fun (k a b lo hi : Int) (w : World) => ta159_131 k a b lo hi w
  have ht1 := fun (k a b lo hi : Int) (w : World) => ta159_132 k a b lo hi w
  unfold noteV at HN1
  have HK := Lib.hid h
  clear h hkind m0 m1
  go_upto_region 7 with (go_at_call 103; refine HN1.out.mono ?_; rintro e w4 ⟨rfl, hb3⟩)
  have HJ : Hid (Jn W w4 x (x.lo) (x.hi)) := Lib.hid ⟨NC2.out.below hb3 (by have := HZ.out; omega), (hb3.block _ (lt_of_block R1.out)).trans R1.out, (hb3.block _ (lt_of_block R2.out)).trans R2.out⟩
  have HA := Lib.hid (show bndEl iv wd x 0 = #[.agg #[.int .i64 x.b, .int .i64 x.a, .int .i64 (x.hi + wd)]] by have := HX.out.a; have := HX.out.b; simp [bndEl, bnd, othN, nhi, HK.out]; omega)
  have HB := Lib.hid (show bndEl iv wd x 1 = #[.agg #[.int .i64 x.a, .int .i64 x.b, .int .i64 (wd - x.lo)]] by have := HX.out.a; have := HX.out.b; simp [bndEl, bnd, othN, nlo, HK.out]; omega)
  have hq : -9000 ≤ x.lo ∧ x.lo ≤ 9000 ∧ -9000 ≤ x.hi ∧ x.hi ≤ 9000 := by have := hends.out; simp only [nlo, nhi, HK.out] at this; simp at this; omega
  obtain ⟨hh, hhe⟩ : ∃ hh, hh = x.hi := ⟨_, rfl⟩
  obtain ⟨hl, hle⟩ : ∃ hl, hl = x.lo := ⟨_, rfl⟩
  rw [← hhe] at HA hq
  rw [← hle] at HB hq
  have HJ : Hid (Jn W w4 x hl hh) := by rw [hhe, hle]; exact HJ
  clear hhe hle
 rotate_left
 focus
  have HN1 := Lib.hid (read_is x W2 4 174 h (.inr (.inr (.inr ⟨rfl, rfl⟩))))
  have ht0 := fun (k a b lo hi : Int) (w : World) => ta133_131 k a b lo hi w
  have ht1 := fun (k a b lo hi : Int) (w : World) => ta133_132 k a b lo hi w
  unfold noteV at HN1
  have HK := Lib.hid h
  clear h hkind m0 m1
  go_upto_region 7 with (go_at_call 103; refine HN1.out.mono ?_; rintro e w4 ⟨rfl, hb3⟩)
  have HJ : Hid (Jn W w4 x (x.lo) (x.hi)) := Lib.hid ⟨NC2.out.below hb3 (by have := HZ.out; omega), (hb3.block _ (lt_of_block R1.out)).trans R1.out, (hb3.block _ (lt_of_block R2.out)).trans R2.out⟩
  have HA := Lib.hid (show bndEl iv wd x 0 = #[.agg #[.int .i64 x.b, .int .i64 x.a, .int .i64 (x.hi + wd)]] by have := HX.out.a; have := HX.out.b; simp [bndEl, bnd, othN, nhi, HK.out]; omega)
  have HB := Lib.hid (show bndEl iv wd x 1 = #[.agg #[.int .i64 x.a, .int .i64 x.b, .int .i64 (wd - x.lo)]] by have := HX.out.a; have := HX.out.b; simp [bndEl, bnd, othN, nlo, HK.out]; omega)
  have hq : -9000 ≤ x.lo ∧ x.lo ≤ 9000 ∧ -9000 ≤ x.hi ∧ x.hi ≤ 9000 := by have := hends.out; simp only [nlo, nhi, HK.out] at this; simp at this; omega
  obtain ⟨hh, hhe⟩ : ∃ hh, hh = x.hi := ⟨_, rfl⟩
  obtain ⟨hl, hle⟩ : ∃ hl, hl = x.lo := ⟨_, rfl⟩
  rw [← hhe] at HA hq
  rw [← hle] at HB hq
  have HJ : Hid (Jn W w4 x hl hh) := by rw [hhe, hle]; exact HJ
  clear hhe hle
 rotate_left
 all_goals
  have hY : Y 0 w4 := HS.out _ _ _ H0.out HJ.out.keep
  have hn4 := HN.out _ _ hY
  have cw := hn4.cw
  have d1 := cellOf HJ.out.nt 1 rfl
  have e0 := cellOf HJ.out.sp 0 rfl
  have e1 := cellOf HJ.out.sp 1 rfl
  obtain ⟨fn, tmps, assign, body, hy, hRR⟩ := HR.out 0 w4 (by omega) hY
  rw [HA.out] at hy
  have HRR := Lib.hid hRR
  clear hn4 hRR
  refine (wpIn_wide (n := 0)).1 ?_
  gi_wp2
  refine ⟨rfl, HRR.out.mono ?_⟩
  rintro e W' (⟨rfl, hY', hK⟩ | ⟨rfl, hZ⟩)
  ·have hn5 := HN.out _ _ hY'
   have cw' := hn5.cw
   have d1' := cellOf (hK _ _ _ _ (Nat.le_refl _) HJ.out.nt) 1 rfl
   have e0' := cellOf (hK _ _ _ _ (Nat.le_succ _) HJ.out.sp) 0 rfl
   obtain ⟨fn2, tmps2, assign2, body2, hy2, hRR2⟩ := HR.out 1 W' (by omega) hY'
   rw [HB.out] at hy2
   have HRR2 := Lib.hid hRR2
   clear hn5 hRR2 hK hy
   gi_wp2
   go_upto_region 8 with (fail)
   refine (wpIn_wide (n := 0)).1 ?_
   gi_wp2
   refine ⟨rfl, HRR2.out.mono ?_⟩
   rintro e W'' (⟨rfl, hY'', _⟩ | ⟨rfl, hZ⟩)
   ·gi_wp2
    go_wp2
    go_end0
    exact ⟨⟨_, rfl⟩, .inl hY''⟩
   ·gi_wp2
    go_wp2
    go_end0
    exact ⟨⟨_, rfl⟩, .inr hZ⟩
  ·gi_wp2
   go_wp2
   go_end0
   exact ⟨⟨_, rfl⟩, .inr hZ⟩
end Go.Proofs.YthnimhnlnddnoaaGreatDoor
namespace Go.Proofs.YthnimhnlnddnoaaGreatDoor
open Go.RowKit Go.Shelf
attribute [local go_sem] Oper.semAt_some
theorem store_cells_mat {w : World} {g : Nat} {T : TypeId} {b : Mat} (hm : MatAt w g T b) (b' : Mat) : ∃ w', (storeCells ⟨g, 0, none⟩ (matC b').toList).run Tryz.prog w = .ok () w' ∧ MatAt w' g T b' ∧ w.grownBy w' (some g) := by
 have := run_storeCells_from (P := Tryz.prog) g T (matC b').toList 0 (matC b) w hm (by have := matC_size b; have := matC_size b'; simp; omega) (fun v hv => (Array.all_eq_true_iff_forall_mem.1 (matC_one b')) v (by simpa using hv))
 refine ⟨w.setRow g (matC b'), by simpa using this, setRow_mat hm⟩
theorem operIn_load_mat {l n : Nat} {o : Oper} {a : Act} {w : World} {K : Act → World → Prop} {Q : Exit → Act → World → Prop} (x : Operand) (ho : o.op = .load 82 x)
  {g : Nat} (hx : a.eval x = .pointer (some ⟨g, 0, none⟩)) {T : TypeId} {b : Mat} (hm : MatAt w g T b) (h : K (a.put o.dst (.agg (matC b))) w) : o.wpIn (Fence.wide.inRound l) n Tryz.prog a w K Q := by
 refine ⟨fun _ _ => trivial, ?_⟩
 rw [Oper.semAt_plain _ _ _ (fun c h => by rw [ho] at h; cases h)]
 unfold execOp
 simp only [ho, hx, Instr.loadAt, Instr.sureAddr, Sem.run_bind, Sem.run_pure, Result.andThen_ok, load_mat hm]
 exact h
theorem withM_stop {iv wd : Int} {x : NoteR} {b : Mat} {k : Nat} (hk : k < 2) (hp : ∀ j, j < k → bndB iv wd x b j = true) (hf : bndB iv wd x b k = false) : withM iv wd b x = (bndM iv wd x b (k + 1), false) := by
 unfold withM
 match k, hk with
 | 0, _ => rw [if_pos hf]
 | 1, _ =>
  have h0 := hp 0 (by omega)
  rw [if_neg (by simp [h0]), if_pos hf]
theorem withM_end {iv wd : Int} {x : NoteR} {b : Mat} (hp : ∀ j, j < 2 → bndB iv wd x b j = true) : withM iv wd b x = (bndM iv wd x b 2, true) := by
 unfold withM
 rw [if_neg (by simp [hp 0 (by omega)]), if_neg (by simp [hp 1 (by omega)])]
theorem results77 {w : World} {g : Nat} {a : Addr} {m : Mat} {r : Bool} {tmps : Array Value} (h1 : MatAt w g 82 m) (h2 : w.cell? a = some (.bool r)) (t1 : tmps[8]?.getD undef = .pointer (some ⟨g, 0, none⟩)) (t2 : tmps[9]?.getD undef = .pointer (some a)) :
  (results Tryz.f63 tmps).run Tryz.prog w = .ok (.tuple #[.agg (matC m), .bool r]) w := by
 have hl := load_mat h1
 clear h1
 generalize matC m = cs at *
 have hb : (loadVar 4 a).run Tryz.prog w = .ok (.bool r) w := by simp [loadVar, go_sem, h2]
 simp [results, Tryz.results63, t1, t2, asAddr, hl, hb]
structure WJ (iv wd : Int) (i : Nat) (x : NoteR) (b : Mat) (vp vn : Value) (w : World) (k : Nat) (W : World) : Prop where
 below : Below w.heap.size w W
 m1 : MatAt W (w.heap.size + 1) 82 (bndM iv wd x b k)
 m2 : MatAt W (w.heap.size + 2) 82 zeroM
 b3 : W.heap[w.heap.size + 3]? = some (.cells #[.bool false] 4)
 b4 : W.heap[w.heap.size + 4]? = some (.cells #[.int .i64 iv, vp, vn] 108)
 b5 : W.heap[w.heap.size + 5]? = some (.cells #[.int .i64 i] 3)
 b6 : W.heap[w.heap.size + 6]? = some (.cells #[.int .i64 wd] 3)
 ok : ∀ j, j < k → bndB iv wd x b j = true
theorem WJ.move {iv wd : Int} {i : Nat} {x : NoteR} {b : Mat} {vp vn : Value} {w : World} {k : Nat} {A B : World} (h : WJ iv wd i x b vp vn w k A) (hb : Below w.heap.size w B)
  (hc : ∀ i o, i < w.heap.size + 7 → isData o = true → A.heap[i]? = some o → B.heap[i]? = some o) : WJ iv wd i x b vp vn w k B :=
 ⟨hb, hc _ _ (by omega) rfl h.m1, hc _ _ (by omega) rfl h.m2, hc _ _ (by omega) rfl h.b3, hc _ _ (by omega) rfl h.b4, hc _ _ (by omega) rfl h.b5, hc _ _ (by omega) rfl h.b6, h.ok⟩
structure WX (iv wd : Int) (x : NoteR) (b : Mat) (w : World) (c : Code) (W : World) : Prop where
 c : c = .ret
 below : Below w.heap.size w W
 res : ∃ k, k < 2 ∧ (∀ j, j < k → bndB iv wd x b j = true) ∧ bndB iv wd x b k = false ∧ MatAt W (w.heap.size + 2) 82 (bndM iv wd x b (k + 1)) ∧ W.heap[w.heap.size + 3]? = some (.cells #[.bool false] 4)
theorem with_any {B : Nat} {w : World} {v : Value} {s : ShR} {b : Mat} {i : Nat} {wd : Int} (hs : RdSh B w v s) (hg : Good s) (hi : i < s.notes.length) (hfb : Fine b) (hwd : 0 ≤ wd ∧ wd ≤ 9000) (hB : B ≤ w.heap.size) :
  Calls Tryz.prog 63 #[v, .agg (matC b), .int .i64 i, .int .i64 wd] w fun e w' =>
   e = .returned (.tuple #[.agg (matC (withM s.iv wd b (s.notes.getD i default)).1), .bool (withM s.iv wd b (s.notes.getD i default)).2]) ∧ Below w.heap.size w w' := by
 obtain ⟨vp, vn, rfl, hp, ho⟩ := id hs
 obtain ⟨An, cn, rfl, h5, h6, _⟩ := id ho
 have hx := hg.notes _ (getD_mem hi default)
 have hiv := hg.iv
 have hpl := hg.plen
 have hnl := hg.nlen
 have hnt := ho.note hi
 rw [← List.getD_eq_getElem?_getD] at hnt
 generalize s.notes.getD i default = x at *
 generalize s.iv = iv at *
 have HP := Lib.hid hnt
 have HX := Lib.hid hx
 have HF := Lib.hid hfb
 clear hnt hx hfb hs hp ho h5 h6
 refine calls_of_wp_marks Tryz.func63 rfl ?_
 simp only [Tryz.ntmps63, List.size_toArray, List.length_cons, List.length_nil, Nat.reduceAdd, Nat.reduceSub, Array.replicate_succ,
   Array.replicate_zero, List.push_toArray, List.append_toArray, List.nil_append, List.cons_append]
 obtain ⟨W1, hW1, r1, z1, d1⟩ := box_any w #[.int .i64 iv, vp, .slice An s.notes.length cn] 108
 obtain ⟨W2, hW2, r2, z2, d2⟩ := box_any W1 (matC b) 82
 go_upto_region 1 with (refine wpList_alloc_mat rfl rfl ?_; intro W3 hW3 hm3 hb3 hz3)
 clear hW3 hm3 hb3 hz3
 obtain ⟨W3, hW3, r3, z3, d3⟩ := box_any W2 (matC zeroM) 82
 obtain ⟨W4, hW4, r4, z4, d4⟩ := box_any W3 #[.bool false] 4
 rw [← hW1, ← hW2, ← hW3, ← hW4]
 have m1 : MatAt W4 (w.heap.size + 1) 82 b := by
  have := (d4.block _ (by omega)).trans ((d3.block _ (by omega)).trans r2)
  rwa [z1] at this
 have m2 : MatAt W4 (w.heap.size + 2) 82 zeroM := by
  have := (d4.block _ (by omega)).trans r3
  rwa [z2, z1] at this
 have m3 : W4.heap[w.heap.size + 3]? = some (.cells #[.bool false] 4) := by
  have := r4
  rwa [z3, z2, z1] at this
 have c0 : W4.heap[w.heap.size]? = some (.cells #[.int .i64 iv, vp, .slice An s.notes.length cn] 108) := (d4.block _ (by omega)).trans ((d3.block _ (by omega)).trans ((d2.block _ (by omega)).trans r1))
 have hb4 : Below w.heap.size w W4 := d1.trans ((d2.mono (by omega)).trans ((d3.mono (by omega)).trans (d4.mono (by omega))))
 have hz4 : W4.heap.size = w.heap.size + 4 := by omega
 have M1 := Lib.hid m1
 have M2 := Lib.hid m2
 have M3 := Lib.hid m3
 have HB4 := Lib.hid hb4
 have HZ4 := Lib.hid hz4
 have k0 := cellOf c0 0 rfl
 have k1 := cellOf c0 1 rfl
 have k2 := cellOf c0 2 rfl
 clear hW1 hW2 hW3 hW4 r1 r2 r3 r4 z1 z2 z3 z4 d1 d2 d3 d4 m1 m2 m3 c0 hb4 hz4
 obtain ⟨W5, hW5, r5, z5, d5⟩ := box_any W4 #[.int .i64 iv, vp, .slice An s.notes.length cn] 108
 obtain ⟨W6, hW6, r6, z6, d6⟩ := box_any W5 #[.int .i64 i] 3
 obtain ⟨W7, hW7, r7, z7, d7⟩ := box_any W6 #[.int .i64 wd] 3
 go_wp2_with (go_at_call 98; refine (bounds_any _ _ _ _ _ _).mono ?_; rintro e w' ⟨rfl, rfl⟩)
 rw [← hW5, ← hW6, ← hW7, HZ4.out]
 have hz4 := HZ4.out
 have hJ0 : WJ iv wd i x b vp (.slice An s.notes.length cn) w 0 W7 := by
  have hk : ∀ k, k < w.heap.size + 4 → W7.heap[k]? = W4.heap[k]? := fun k hk => (d7.block _ (by omega)).trans ((d6.block _ (by omega)).trans (d5.block _ (by omega)))
  refine ⟨HB4.out.trans ((d5.mono (by omega)).trans ((d6.mono (by omega)).trans (d7.mono (by omega)))), (hk _ (by omega)).trans M1.out, (hk _ (by omega)).trans M2.out, (hk _ (by omega)).trans M3.out, ?_, ?_, ?_, fun j hj => by omega⟩
  ·rw [← hz4]; exact (d7.block _ (by omega)).trans ((d6.block _ (by omega)).trans r5)
  ·have := (d7.block _ (by omega)).trans r6
   rwa [show W5.heap.size = w.heap.size + 5 by omega] at this
  ·have := r7
   rwa [show W6.heap.size = w.heap.size + 6 by omega] at this
 have hz7 : W7.heap.size = w.heap.size + 7 := by omega
 clear hW5 hW6 hW7 d5 d6 d7 r5 r6 r7 z5 z6 z7 M1 M2 M3 k0 k1 k2 hz4
 refine range_law (gf := 121) (lb := #[.pointer (some ⟨w.heap.size + 4, 0, none⟩), .pointer (some ⟨w.heap.size + 4 + 1, 0, none⟩), .pointer (some ⟨w.heap.size + 4 + 2, 0, none⟩)]) rfl (enters_of Tryz.func121 (by kernel_rfl) rfl)
  (fun _ => rfl) (bounds_iter HX.out hpl.2 hiv hwd hi hnl B (w.heap.size + 4) (A := An) (c := cn)) ?hKp ?hSN
  (WJ iv wd i x b vp (.slice An s.notes.length cn) w) (WX iv wd x b w) ?hJb ?hXb ?hJS ?hJN hJ0 ?hround ?hdone ?hstop
 case hKp => exact fun H A B C h hd b cs T f hb hc => hd _ _ (h b cs T f hb hc) rfl
 case hSN => exact fun H A B h => h.2
 case hJb => exact fun k A B h hb => h.move (h.below.trans (hb.below.mono (by omega))) fun i o _ hd ho => hb.data _ _ ho hd
 case hXb =>
  intro c A B h hb
  obtain ⟨k, hk, h1, h2, h3, h4⟩ := h.res
  exact ⟨h.c, h.below.trans (hb.below.mono (by omega)), k, hk, h1, h2, hb.data _ _ h3 rfl, hb.data _ _ h4 rfl⟩
 case hJS => exact fun k A B h hb => h.move (h.below.trans (hb.1.mono (by omega))) fun i o hi _ ho => (hb.1.block i (by omega)).trans ho
 case hJN =>
  intro k A h
  obtain ⟨ad, rfl, hlt, hn⟩ := HP.out
  exact ⟨cellOf h.b4 0 rfl, cellOf h.b4 2 rfl, cellOf h.b5 0 rfl, cellOf h.b6 0 rfl, ad, rfl, AtKeep.keep w A _ x (fun p hp => h.below.cell (by rw [hp, block_add]; omega)) hn⟩
 case hdone =>
  intro d W hd h hk
  have Hh := Lib.hid h
  have Hk := Lib.hid hk
  have m1 := h.m1
  have m2 := h.m2
  have f3 : W.frozen? ⟨w.heap.size + 1 + 1 + 1, 0, none⟩ = false := by
   have := h.b3
   show W.frozen? ⟨w.heap.size + 3, 0, none⟩ = false
   simp [World.frozen?, this]
  have c3 : W.cell? ⟨w.heap.size + 1 + 1 + 1, 0, none⟩ = some (.bool false) := cellOf h.b3 0 rfl
  have hnc : ∀ w2 : World, W.grownBy w2 (some (w.heap.size + 2)) → NC W w2 := fun w2 hg => (NC.refl W).grown hg fun r hr => by
   cases hr
   exact ⟨_, _, _, h.m2⟩
  have HNC := Lib.hid hnc
  clear h hk hnc
  simp only [Exit.inBlock, Exit.then]
  go_wp2_with (first | (refine wpList_load_mat rfl _ rfl rfl m1 ?_) | (refine wpList_store_mat rfl _ _ rfl rfl rfl m2 ?_; intro w2 hm2 hg2; have c3 := hg2.cell c3 (by simp); have f3 := (World.frozen?_of_block (hg2.block (w.heap.size + 1 + 1 + 1) (cell_lt c3 |> fun _ => lt_of_block Hh.out.b3) (by simp))).trans f3))
  have hne : w.heap.size + 2 ≠ w.heap.size + 3 := by omega
  refine leaves_one rfl ((HNC.out w2 hg2).setCell _ _ _ _ Hk.out rfl) (Nat.le_refl d) fun w' hb => ?_
  have e2 : MatAt w' (w.heap.size + 2) 82 (bndM iv wd x b 2) := hb.data _ _ ((Below.heap_setCell _ _ _ _ hne).trans hm2) rfl
  have e3 := hb.cell (a := ⟨w.heap.size + 1 + 1 + 1, 0, none⟩) (v := .bool true) (World.cell?_setCell_same' _ _ _ (by rw [c3]; rfl))
  refine ⟨_, results77 e2 e3 rfl rfl, ?_, ?_⟩
  ·rw [withM_end Hh.out.ok]
  ·have hk2 := grown_below hg2 (show w.heap.size ≤ w.heap.size + 2 by omega) (by have := Hh.out.below.size; omega)
   exact Hh.out.below.trans ((hk2.setCell (by show w.heap.size ≤ w.heap.size + 3; omega) _).trans (hb.below.mono (by omega)))
 case hstop =>
  intro d c W hd h hk
  obtain ⟨rfl, hbl, k, hk2, h1, h2, h3, h4⟩ := h
  have c3 : W.cell? ⟨w.heap.size + 1 + 1 + 1, 0, none⟩ = some (.bool false) := cellOf h4 0 rfl
  go_wp2
  refine leaves_one rfl hk (Nat.le_refl d) fun w' hb => ?_
  refine ⟨_, results77 (hb.data _ _ h3 rfl : MatAt w' (w.heap.size + 2) 82 _) (hb.cell c3) rfl rfl, ?_, hbl.trans (hb.below.mono (by omega))⟩
  rw [withM_stop hk2 h1 h2]
 case hround =>
  intro r k W hk h hr1 hr2
  have hl := bnd_lt (wd := wd) HX.out hpl.2 k
  have hmo := bnd_most HX.out hiv.1 hwd k
  have Hel := Lib.hid (show bndEl iv wd x k = #[.agg #[.int .i64 (bnd iv wd x k).1, .int .i64 (bnd iv wd x k).2.1, .int .i64 (bnd iv wd x k).2.2]] from rfl)
  have HbB := Lib.hid (show bndB iv wd x b k = bindB (bnd iv wd x k).1 (bnd iv wd x k).2.1 (bnd iv wd x k).2.2 (bndM iv wd x b k) from rfl)
  have HbM := Lib.hid (show bndM iv wd x b (k + 1) = bindR (bnd iv wd x k).1 (bnd iv wd x k).2.1 (bnd iv wd x k).2.2 (bndM iv wd x b k) from rfl)
  have HFk := Lib.hid (bndM_fine (wd := wd) HX.out hpl.2 HF.out k)
  rw [Hel.out]
  clear Hel
  generalize (bnd iv wd x k).1 = f at *
  generalize (bnd iv wd x k).2.1 = t at *
  generalize (bnd iv wd x k).2.2 = m at *
  generalize hT : Array.foldl _ _ _ = T
  simp at hT
  subst hT
  obtain ⟨W1, hW1, r1, z1, d1⟩ := box_any W #[.int .i64 f, .int .i64 t, .int .i64 m] 155
  gi_wp2
  rw [← hW1]
  clear hW1
  have h1 := h.move (h.below.trans (d1.mono h.below.size)) fun i o hi _ ho => (d1.block i (lt_of_block ho)).trans ho
  refine ⟨(NC.refl W).of_below d1, fun W₂ hb2 hz2 => ?_⟩
  have hdk : BK (W7.heap.size + 2) W W₂ := fun b cs T f hb hc => hb2.data _ _ ((d1.block b (lt_of_block hc)).trans hc) rfl
  have h2 := h1.move (h1.below.trans (hb2.below.mono (by omega))) fun i o _ hd ho => hb2.data _ _ ho hd
  have hx := hb2.data _ _ r1 rfl
  have x0 := cellOf hx 0 rfl
  have x1 := cellOf hx 1 rfl
  have x2 := cellOf hx 2 rfl
  have hbd := Lib.hid (bind_any (f := f) (t := t) (m := m) h2.m1 hl.1 hl.2 HFk.out (by omega) (by omega))
  have H2 := Lib.hid h2
  have HDK := Lib.hid hdk
  clear hb2 h1 h2 hdk hx h r1 z1 d1
  cases hbb : bindB f t m (bndM iv wd x b k) with
  | true =>
   rw [hbb] at hbd HbB
   gi_wp2_with (refine ⟨trivial, rfl, ?_⟩; gi_at_call 60; refine (callsIn_wide.2 hbd.out).mono ?_; rintro e w3 ⟨rfl, hm3, hg3⟩)
   rw [← HbM.out] at hm3
   have h3 := H2.out
   refine ⟨(NC.refl W₂).grown hg3 (fun r hr => by cases hr; exact ⟨_, _, _, h3.m1⟩), ⟨h3.below.trans (grown_below hg3 (by omega) h3.below.size), hm3, ?_, ?_, ?_, ?_, ?_, fun j hj => ?_⟩, fun b0 cs T f0 hb0 hc0 => ?_⟩
   ·exact h3.m2.grown hg3 (by simp)
   ·exact (hg3.block _ (lt_of_block h3.b3) (by simp)).trans h3.b3
   ·exact (hg3.block _ (lt_of_block h3.b4) (by simp)).trans h3.b4
   ·exact (hg3.block _ (lt_of_block h3.b5) (by simp)).trans h3.b5
   ·exact (hg3.block _ (lt_of_block h3.b6) (by simp)).trans h3.b6
   ·by_cases e : j < k
    ·exact h3.ok j e
    ·obtain rfl : j = k := by omega
     exact HbB.out
   ·have := HDK.out b0 cs T f0 hb0 hc0
    exact (hg3.block _ (lt_of_block this) (by simp; omega)).trans this
  | false =>
   rw [hbb] at hbd HbB
   have hm2 := H2.out.m2
   gi_wp2_with (refine ⟨trivial, rfl, ?_⟩; gi_at_call 60; refine (callsIn_wide.2 hbd.out).mono ?_; rintro e w3 ⟨rfl, hm3, hg3⟩; have hm2 := hm2.grown hg3 (by simp))
   obtain ⟨w4, hst, hm4, hg4⟩ := store_cells_mat hm2 (bindR f t m (bndM iv wd x b k))
   have r3 : w4.heap[w.heap.size + 3]? = some (.cells #[.bool false] 4) := (hg4.block _ (lt_of_block ((hg3.block _ (lt_of_block H2.out.b3) (by simp)).trans H2.out.b3)) (by simp)).trans ((hg3.block _ (lt_of_block H2.out.b3) (by simp)).trans H2.out.b3)
   have f3 : w4.frozen? ⟨w.heap.size + 1 + 1 + 1, 0, none⟩ = false := by
    show w4.frozen? ⟨w.heap.size + 3, 0, none⟩ = false
    simp [World.frozen?, r3]
   have c3 : w4.cell? ⟨w.heap.size + 1 + 1 + 1, 0, none⟩ = some (.bool false) := cellOf r3 0 rfl
   have R3 := Lib.hid r3
   clear r3
   refine operIn_load_mat _ rfl rfl hm3 ?_
   gi_wp2
   have h3 := H2.out
   refine ⟨((NC.refl W₂).grown hg3 (fun r hr => by cases hr; exact ⟨_, _, _, h3.m1⟩)).trans (((NC.refl w3).grown hg4 (fun r hr => by cases hr; exact ⟨_, _, _, hm2⟩)).setCell _ _), rfl, ?_, k, hk, h3.ok, HbB.out, ?_, ?_⟩
   ·exact (h3.below.trans (grown_below hg3 (by omega) h3.below.size)).trans ((grown_below hg4 (by omega) (by have := hg3.size; have := h3.below.size; omega)).setCell (by show w.heap.size ≤ w.heap.size + 3; omega) _)
   ·rw [HbM.out]
    exact (Below.heap_setCell _ _ _ _ (by show w.heap.size + 2 ≠ w.heap.size + 3; omega)).trans hm4
   ·exact heap_setCell_row R3.out _
end Go.Proofs.YthnimhnlnddnoaaGreatDoor
