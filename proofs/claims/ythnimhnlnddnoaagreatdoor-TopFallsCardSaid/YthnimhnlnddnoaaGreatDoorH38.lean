/- Parts of the proof of TpP: RvPF. -/
import Derived.Test.YthnimhnlnddnoaaGreatDoorH37
import Derived.Test.YthnimhnlnddnoaaGreatDoorH29
import Derived.WalkKit
import Derived.Deep.Quiet
set_option linter.unusedSimpArgs false
set_option linter.unusedVariables false
set_option maxRecDepth 100000
set_option maxHeartbeats 8000000
namespace Go.Proofs.YthnimhnlnddnoaaGreatDoor
open Go.RowKit Go.Shelf
theorem ProI.not_po {a ar b : Nat} {v : Value} {ch l : List Int} {st : List Int × Int} {w W : World} (h : ProI a ar b v ch l st w) (hb : Below w.heap.size w W) {g : Nat} (hg : w.heap.size ≤ g) : ¬ PO a W g := by
 rintro ⟨i, u, hi, hu, ho⟩
 obtain ⟨vx, vy, vz, h1, h2, h3, o1, o2, o3, _⟩ := h.t3
 have hsz := h.size
 have hu2 := (hb.block (a + i) (by omega)).symm.trans hu
 rcases hi with rfl | rfl | rfl
 ·have : u = vz := by rw [h3] at hu2; simpa using hu2.symm
  subst this
  have := own_block_lt o3 ho
  omega
 ·have : u = vx := by rw [h1] at hu2; simpa using hu2.symm
  subst this
  have := own_block_lt o1 ho
  omega
 ·have : u = vy := by rw [h2] at hu2; simpa using hu2.symm
  subst this
  have := own_block_lt o2 ho
  omega
theorem ProI.pushC {a ar b : Nat} {v : Value} {ch l : List Int} {st : List Int × Int} {w : World} (h : ProI a ar b v ch l st w) (q : Int) (hlen : ch.length ≤ 1000) :
  ∃ A4 c4 A c w5, w.cell? ⟨a + 3, 0, none⟩ = some (.slice A4 ch.length c4) ∧ (Builtin.append_ #[30, 30] 30 #[.slice A4 ch.length c4, .slice (some ⟨w.heap.size, 0, none⟩) 1 1]).run Tryz.prog (w.alloc (.cells #[.int .i64 q] 3)) = .ok (.slice A (ch.length + 1) c) w5 ∧
   (∃ o, w5.cell? ⟨a + 3, 0, none⟩ = some o) ∧ w5.frozen? ⟨a + 3, 0, none⟩ = false ∧ ProI a ar b v (ch ++ [q]) l st (w5.setCell ⟨a + 3, 0, none⟩ (.slice A (ch.length + 1) c)) ∧ PF a w (w5.setCell ⟨a + 3, 0, none⟩ (.slice A (ch.length + 1) c)) := by
 obtain ⟨A4, c4, A, c, w5, h1, h2, h3, h4, h5, h6, h7⟩ := h.t3.push (.inr (.inl rfl)) (.inr (.inr rfl)) (.inl rfl) (by omega) h.size q hlen
 exact ⟨A4, c4, A, c, w5, h1, h2, h3, h4, h.same ((h7 _ (by omega) (by omega)).trans h.cf) h6 h5, h6⟩
theorem ProI.pushL {a ar b : Nat} {v : Value} {ch l : List Int} {st : List Int × Int} {w : World} (h : ProI a ar b v ch l st w) (q : Int) (hlen : l.length ≤ 1000) :
  ∃ A4 c4 A c w5, w.cell? ⟨a + 4, 0, none⟩ = some (.slice A4 l.length c4) ∧ (Builtin.append_ #[30, 30] 30 #[.slice A4 l.length c4, .slice (some ⟨w.heap.size, 0, none⟩) 1 1]).run Tryz.prog (w.alloc (.cells #[.int .i64 q] 3)) = .ok (.slice A (l.length + 1) c) w5 ∧
   (∃ o, w5.cell? ⟨a + 4, 0, none⟩ = some o) ∧ w5.frozen? ⟨a + 4, 0, none⟩ = false ∧ ProI a ar b v ch (l ++ [q]) st (w5.setCell ⟨a + 4, 0, none⟩ (.slice A (l.length + 1) c)) ∧ PF a w (w5.setCell ⟨a + 4, 0, none⟩ (.slice A (l.length + 1) c)) := by
 obtain ⟨A4, c4, A, c, w5, h1, h2, h3, h4, h5, h6, h7⟩ := h.t3.rot.push (.inr (.inr rfl)) (.inl rfl) (.inr (.inl rfl)) (by omega) h.size q hlen
 exact ⟨A4, c4, A, c, w5, h1, h2, h3, h4, h.same ((h7 _ (by omega) (by omega)).trans h.cf) h6 h5.rot.rot, h6⟩
theorem ProI.popL {a ar b : Nat} {v : Value} {ch l : List Int} {x : Int} {st : List Int × Int} {w : World} (h : ProI a ar b v ch (l ++ [x]) st w) :
  ∃ A4 c4, w.cell? ⟨a + 4, 0, none⟩ = some (.slice A4 (l.length + 1) c4) ∧ l.length + 1 ≤ c4 ∧ w.frozen? ⟨a + 4, 0, none⟩ = false ∧ ProI a ar b v ch l st (w.setCell ⟨a + 4, 0, none⟩ (.slice A4 l.length c4)) ∧ PF a w (w.setCell ⟨a + 4, 0, none⟩ (.slice A4 l.length c4)) := by
 obtain ⟨A4, c4, h1, h2, h3, h4, h5, h6⟩ := h.t3.rot.pop (.inr (.inr rfl)) (.inl rfl) (.inr (.inl rfl)) (by omega) h.size (n := l.length) (by simp)
 rw [List.length_append, List.length_singleton] at h1 h2
 rw [List.take_left' rfl] at h4
 exact ⟨A4, c4, h1, h2, h3, h.same ((h6 _ (by omega)).trans h.cf) h5 h4.rot.rot, h5⟩
theorem ProI.popC {a ar b : Nat} {v : Value} {ch l : List Int} {x : Int} {st : List Int × Int} {w : World} (h : ProI a ar b v (ch ++ [x]) l st w) :
  ∃ A4 c4, w.cell? ⟨a + 3, 0, none⟩ = some (.slice A4 (ch.length + 1) c4) ∧ ch.length + 1 ≤ c4 ∧ w.frozen? ⟨a + 3, 0, none⟩ = false ∧ ProI a ar b v ch l st (w.setCell ⟨a + 3, 0, none⟩ (.slice A4 ch.length c4)) ∧ PF a w (w.setCell ⟨a + 3, 0, none⟩ (.slice A4 ch.length c4)) := by
 obtain ⟨A4, c4, h1, h2, h3, h4, h5, h6⟩ := h.t3.pop (.inr (.inl rfl)) (.inr (.inr rfl)) (.inl rfl) (by omega) h.size (n := ch.length) (by simp)
 rw [List.length_append, List.length_singleton] at h1 h2
 rw [List.take_left' rfl] at h4
 exact ⟨A4, c4, h1, h2, h3, h.same ((h6 _ (by omega)).trans h.cf) h5 h4, h5⟩
theorem ProI.putC {a ar b : Nat} {v : Value} {ch l : List Int} {st : List Int × Int} {w : World} (h : ProI a ar b v ch l st w) {n : Nat} (hn : n < ch.length) :
  ∃ g c4, w.cell? ⟨a + 3, 0, none⟩ = some (.slice (some ⟨g, 0, none⟩) ch.length c4) ∧ w.cell? ⟨g, n, none⟩ = some (.int .i64 (ch.getD n 0)) ∧ w.frozen? ⟨g, n, none⟩ = false ∧
   ∀ (q : Int) (k : Nat), ProI a ar b v (ch.set n q) l st ((w.drewN k).setCell ⟨g, n, none⟩ (.int .i64 q)) ∧ PF a w ((w.drewN k).setCell ⟨g, n, none⟩ (.int .i64 q)) := by
 obtain ⟨g, c4, h1, h2, h3, h4, h5⟩ := h.t3.put (.inr (.inl rfl)) (.inr (.inr rfl)) (.inl rfl) (by omega) h.size hn
 refine ⟨g, c4, h1, h3, h4, fun q k => ?_⟩
 have hk := h.below (w' := w.drewN k) (below_drewN (Below.refl _ _) k)
 obtain ⟨g', c4', e1, e2, e3, e4, e5⟩ := hk.1.t3.put (.inr (.inl rfl)) (.inr (.inr rfl)) (.inl rfl) (by omega) hk.1.size hn
 have e : w.cell? ⟨a + 3, 0, none⟩ = some (.slice (some ⟨g', 0, none⟩) ch.length c4') := e1
 rw [h1] at e
 simp only [Option.some.injEq, Value.slice.injEq, Addr.mk.injEq, and_true, true_and] at e
 obtain ⟨rfl, rfl⟩ := e
 have := e5 q
 exact ⟨hk.1.same ((this.2.2 _ (by omega)).trans hk.1.cf) this.2.1 this.1, hk.2.trans this.2.1⟩
theorem pro_any {a ar b : Nat} {An : Option Addr} {cn : Nat} {r : List RvR} {w0 : World} (hg : RGood r) (hd : DbT w0) (h0a : w0.heap.size ≤ a) : ∀ (rem i : Nat) (w : World) (ch : List Nat) (l : List Int) (st : List Int × Int),
  i + rem = r.length → LkB r a b (.slice An r.length cn) w → Below w0.heap.size w0 w → ProI a ar b (.slice An r.length cn) (ofN ch) l st w → ChOK i ch → l.length = i →
  Calls Tryz.prog 73 #[.int .i64 i, .pointer (some ⟨a + 3, 0, none⟩), .pointer (some ⟨a + 2, 0, none⟩), .pointer (some ⟨ar, 0, none⟩), .pointer (some ⟨a + 4, 0, none⟩), .pointer (some ⟨a + 1, 0, none⟩), .pointer (some ⟨a, 0, none⟩), .pointer (some ⟨a + 5, 0, none⟩)] w
   (ProRes a ar b (.slice An r.length cn) (ofN ch) l (provR r rem i ch l st) w) := by
 have hlen := hg.len
 intro rem
 induction rem with
 | zero =>
  intro i w ch l st hi hL h0 hI hc hl
  have hin : i = r.length := by omega
  subst hin
  unfold provR
  have hcl := ofN_len ch
  by_cases hf : st.2 ≤ ch.length
  ·rw [if_pos hf]
   exact pro_stop _ hI (by rw [hcl]; exact hf)
  ·rw [if_neg hf]
   have := pro_best hI (by rw [hcl]; exact hf) (by omega)
   rwa [hcl] at this
 | succ f ih =>
  intro i w ch l st hi hL h0 hI hc hl
  have hlt : i < r.length := by omega
  have hcl := ofN_len ch
  have hcn := hc.len
  rw [provR]
  by_cases hf : st.2 ≤ ch.length
  ·rw [if_pos hf]
   exact pro_stop _ hI (by rw [hcl]; exact hf)
  ·rw [if_neg hf]
   obtain ⟨W1, hW1, r1, z1, d1⟩ := box_any w #[.int .i64 i] 3
   obtain ⟨hI1, hP1⟩ := hI.below d1
   have hasz := hI.size
   have hb0a := hP1.below.mono h0a
   have hLk := hL.below hP1.below
   have HO := Lib.hid (rout_is (hLk.lk (by have := hI1.size; omega)) hg hlt)
   have HIB := Lib.hid (show ∀ X, PF a W1 X → X.heap[w.heap.size]? = some (.cells #[.int .i64 i] 3) from fun X hX => (hX.hi _ hasz (by omega) (hI.not_po d1 (Nat.le_refl _))).trans r1)
   have HLX := Lib.hid (show ∀ X, PF a W1 X → LkB r a b (.slice An r.length cn) X from fun X hX => hLk.below hX.below)
   have H0X := Lib.hid (show ∀ X, PF a W1 X → Below w0.heap.size w0 X from fun X hX => h0.trans ((hb0a.trans (hX.below.mono h0a))))
   have HDX := Lib.hid (show ∀ X, PF a W1 X → DbT X from fun X hX => hd.below (H0X.out X hX))
   have HIh := Lib.hid ih
   have HI1 := Lib.hid hI1
   have HP1 := Lib.hid hP1
   have HG := Lib.hid hg
   have HC := Lib.hid hc
   have HLl := Lib.hid hl
   obtain ⟨A3, A4, c3, c4, hC, _⟩ := hI1.reads
   obtain ⟨f0, f2, f3, f4, f5, fr, z1', z2', z3', z4', _⟩ := hC
   have fi := cellOf r1 0 rfl
   rw [hcl] at f3
   have t0 : ¬ st.2 ≤ (ch.length : Int) := hf
   have hne : ((i : Int) == (r.length : Int)) = false := by simp; omega
   obtain ⟨sf, hsf⟩ : ∃ s, s = st.2 := ⟨_, rfl⟩
   rw [← hsf] at f2 t0
   have HZ := Lib.hid z1
   have HCL := Lib.hid hcl
   clear z1' z2' z3' z4' f4 hI hL h0 hI1 hP1 hc hl hLk hd ih hf r1 z1 d1 hb0a hcl hg hsf
   cases ho : outR r i with
   | true =>
    rw [if_pos rfl]
    rw [ho] at HO
    clear ho
    go_enter Tryz.func73, Tryz.ntmps73
    go_upto_region 1 with (fail)
    rw [← hW1]
    clear hW1
    go_upto_region 5 with (go_at_call 75; refine HO.out.mono ?_; rintro e w1 ⟨rfl, hq⟩)
    have hI2 := HI1.out.below (hq.below _)
    obtain ⟨w2, hw2⟩ : ∃ X, X = w1 := ⟨_, rfl⟩
    rw [← hw2] at hI2 ⊢
    clear hw2 hq f0 f2 f3 f5 fr fi
    obtain ⟨A4, c4, A, c, w5, g1, g2, ⟨o5, g3⟩, g4, hI3, hP3⟩ := hI2.1.pushL (-1) (by rw [HLl.out]; omega)
    obtain ⟨w3, hw3⟩ : ∃ X, X = w5.setCell ⟨a + 4, 0, none⟩ (.slice A (l.length + 1) c) := ⟨_, rfl⟩
    have HP3 := Lib.hid (hI2.2.trans hP3)
    rw [← hw3] at hI3 HP3
    have HI3 := Lib.hid hI3
    clear hI2 hI3 hP3
    go_upto_region 6 with (at_builtin; refine wpList_append_run rfl _ _ _ rfl rfl rfl g2 ?_)
    rw [← hw3]
    clear g1 g2 g3 g4 hw3
    obtain ⟨_, _, _, _, hC3, _⟩ := HI3.out.reads
    have f5 := hC3.f5
    have fi := cellOf (HIB.out _ HP3.out) 0 (v := .int .i64 i) rfl
    have hcall := HIh.out (i + 1) w3 ch (l ++ [-1]) st (by omega) (HLX.out _ HP3.out) (H0X.out _ HP3.out) HI3.out HC.out.up (by simp; exact HLl.out)
    rw [show ((i + 1 : Nat) : Int) = (i : Int) + 1 from rfl] at hcall
    have HCa := Lib.hid hcall
    clear hcall hC3
    unfold proP at f5
    go_upto_region 7 with (go_at_call 73; refine HCa.out.mono ?_; rintro e w7 ⟨rfl, hI7, hP7⟩)
    clear f5 fi
    generalize provR r f (i + 1) ch (l ++ [-1]) st = st7 at *
    have HP7 := Lib.hid (HP3.out.trans hP7)
    obtain ⟨A7, c7, g1, g2, g3, hI8, hP8⟩ := hI7.popL
    have fi := cellOf (HIB.out _ HP7.out) 0 (v := .int .i64 i) rfl
    have HE := Lib.hid (show ProRes a ar b (.slice An r.length cn) (ofN ch) l st7 w (.returned (.tuple #[])) _ from ⟨rfl, hI8, HP1.out.trans (HP7.out.trans hP8)⟩)
    rw [HLl.out] at g1 g2 HE
    clear hI7 hP7 hI8 hP8
    go_wp2
    refine bodyPost_ret (results_none rfl _ _ _) rfl HE.out
   | false =>
    rw [if_neg (by simp)]
    rw [ho] at HO
    clear ho
    go_enter Tryz.func73, Tryz.ntmps73
    go_upto_region 1 with (fail)
    rw [← hW1]
    clear hW1
    go_upto_region 8 with (go_at_call 75; refine HO.out.mono ?_; rintro e w1 ⟨rfl, hq⟩)
    have hI2 := HI1.out.below (hq.below _)
    have HI2 := Lib.hid hI2.1
    have HP2 := Lib.hid hI2.2
    replace f3 := hq.cell f3
    obtain ⟨w2, hw2⟩ : ∃ X, X = w1 := ⟨_, rfl⟩
    rw [← hw2] at HI2 HP2 f3 ⊢
    clear hw2 hq f0 f2 f5 fr fi hI2
    go_wp2
    clear f3
    go_loopw [41] (fun jv wr => ∃ n : Nat, n ≤ ch.length + 1 ∧ jv = .int .i64 n ∧ ProI a ar b (.slice An r.length cn) (ofN ch) l (provK r f i ch l st n) wr ∧ PF a W1 wr) (fun jv _ => ch.length + 1 - (intOf jv).toNat)
    case atStart => exact ⟨0, Nat.zero_le _, rfl, HI2.out, HP2.out⟩
    case round =>
     obtain ⟨n, hn, rfl, hI, hP⟩ := hrel
     have HI := Lib.hid hI
     have HP := Lib.hid hP
     by_cases hnl : n < ch.length + 1
     ·have HKS := Lib.hid (provK_succ r f i ch l st n)
      obtain ⟨A3, A4, c3, c4, hC, _⟩ := hI.reads
      have f3 := hC.f3
      rw [HCL.out] at f3
      have fi := cellOf (HIB.out _ hP) 0 (v := .int .i64 i) rfl
      clear hC hP
      generalize provK r f i ch l st n = st1 at *
      have hnle : n ≤ ch.length := by omega
      by_cases hnew : n = ch.length
      ·have teq : ((n : Int) == (ch.length : Int)) = true := by simp; omega
       have HNw := Lib.hid hnew
       clear hnew
       go_upto_region 12 with (fail)
       obtain ⟨A5, c5, A, c, w5, g1, g2, ⟨o5, g3⟩, g4, hI3, hP3⟩ := hI.pushC 0 (by rw [HCL.out]; omega)
       rw [HCL.out] at g1 g2 hI3 hP3
       obtain ⟨w3, hw3⟩ : ∃ X, X = w5.setCell ⟨a + 3, 0, none⟩ (.slice A (ch.length + 1) c) := ⟨_, rfl⟩
       have HP3 := Lib.hid (HP.out.trans hP3)
       rw [← hw3] at hI3 HP3
       have HI3 := Lib.hid (show ProI a ar b (.slice An r.length cn) (ofN (chT ch n)) l st1 w3 by rw [HNw.out, chT_new, ofN_snoc]; exact hI3)
       clear hI hI3 hP3 f3 fi
       go_upto_region 13 with (at_builtin; refine wpList_append_run rfl _ _ _ rfl rfl rfl g2 ?_)
       rw [← hw3]
       clear g1 g2 g3 g4 hw3
       have hcb := chLt HC.out n
       have hct := chT_len hnle
       have hcg := chT_getD hnle
       have H512 : 2 ^ i ≤ 512 := pow_512 (by omega)
       obtain ⟨g, c5, g1, g2, g3, g4⟩ := HI3.out.putC (n := n) (by rw [ofN_len]; exact hct.1)
       rw [ofN_len] at g1
       rw [ofN_getD, hcg] at g2
       clear g3 g4
       obtain ⟨c, hcc⟩ : ∃ c, c = ch.getD n 0 := ⟨_, rfl⟩
       rw [← hcc] at g2 hcb
       obtain ⟨m, hm⟩ : ∃ m, m = (chT ch n).length := ⟨_, rfl⟩
       rw [← hm] at g1 hct
       have hct1 := hct.1
       have HCt := Lib.hid hct
       have HCC := Lib.hid hcc
       have HM := Lib.hid hm
       have HCG := Lib.hid hcg
       have HCB := Lib.hid hcb
       have HLi := Lib.hid (rlist_any (s := c) (by omega) w3 (HDX.out _ HP3.out))
       have hI3x := HI3.out.reads
       obtain ⟨_, _, _, _, hC3, _⟩ := hI3x
       have f0 := hC3.f0
       have fi := cellOf (HIB.out _ HP3.out) 0 (v := .int .i64 i) rfl
       have HAny := Lib.hid (okC_any r i c)
       have HPh := Lib.hid (fun (X : World) (A7 : Option Addr) (c7 : Nat) (ho : Own w3.heap.size 3 X (.slice A7 (listF c).length c7) (listF c)) (hb : Below w3.heap.size w3 X) => phas_any (w := X) (a := a) (b := b) (ib := w.heap.size) (i := i) ho.rd (fun k hk => by
        obtain ⟨q, h1, h2⟩ := listF_el (HCB.out) k hk
        exact ⟨q, h1, by omega⟩) ((hb.cell (cell_lt f0)).trans f0) ((hb.cell (cell_lt fi)).trans fi) (((HLX.out _ HP3.out).below (hb.mono (by have := HI3.out.size; omega))).lk (by have := HI3.out.size; have := hb.size; omega)) HG.out hlt)
       rw [HAny.out] at HPh
       clear hcg hm hcc hct hC3 f0 fi hcb
       have hok2 : okC r i c = true := by rw [HCC.out, HNw.out]; simp [okC, listF_zero]
       rw [hok2] at HPh
       have hok : True := trivial
       clear hok
       go_upto_region 14 with (first | (go_at_call 50; refine HLi.out.mono ?_; rintro e w7 ⟨A7, c7, rfl, ho7, hb7⟩; have HP7 := Lib.hid (HPh.out w7 A7 c7 ho7 hb7); have HB7 := Lib.hid hb7; clear hb7 ho7) | (go_at_call 76; refine HP7.out.mono ?_; rintro e w8 ⟨rfl, hq8⟩))
       clear g1 g2
       have hI8 := HI3.out.below (HB7.out.trans (hq8.below _))
       have HP8 := Lib.hid (HP3.out.trans hI8.2)
       obtain ⟨g9, c9, g1, g2, g3, g4⟩ := hI8.1.putC (n := n) (by rw [ofN_len, ← HM.out]; exact hct1)
       rw [ofN_len, ← HM.out] at g1
       rw [ofN_getD, HCG.out, ← HCC.out] at g2
       have fi := cellOf (HIB.out _ HP8.out) 0 (v := .int .i64 i) rfl
       have hor := or_is (i := i) (c := c) (by omega) HCB.out
       have HG4 := Lib.hid g4
       clear hI8 hq8 g4
       refine region_quiet_tail (C := fun w' => ∃ k, w' = w8.drewN k) 8 (by kernel_rfl) (by kernel_rfl) ⟨1, rfl⟩ ?_
       simp only [List.take_succ_cons, List.take_zero, List.drop_succ_cons, List.drop_zero]
       repeat (first | go_big_quiet_step (fail) | quiet_step (fail))
       refine wpQuiet_nil ?_
       rintro _ ⟨k1, rfl⟩
       have hset := HG4.out ((c ||| 2 ^ i : Nat) : Int) k1
       rw [← ofN_set, HCC.out, putC_eq hnle] at hset
       obtain ⟨w9, hw9⟩ : ∃ X, X = (w8.drewN k1).setCell ⟨g9, n, none⟩ (.int .i64 ((ch.getD n 0 ||| 2 ^ i : Nat) : Int)) := ⟨_, rfl⟩
       rw [← hw9] at hset
       rw [← HCC.out] at hw9
       have HI9 := Lib.hid hset.1
       have HP9 := Lib.hid (HP8.out.trans hset.2)
       clear hset
       go_upto_region 15 with (fail)
       rw [← hw9]
       clear hw9 hor g1 g2 g3 fi
       obtain ⟨A5, c5', A, c0, w5, g1, g2, ⟨o5, g3⟩, g4, hI3, hP3⟩ := HI9.out.pushL (n : Int) (by rw [HLl.out]; omega)
       obtain ⟨wA, hwA⟩ : ∃ X, X = w5.setCell ⟨a + 4, 0, none⟩ (.slice A (l.length + 1) c0) := ⟨_, rfl⟩
       have HPA := Lib.hid (HP9.out.trans hP3)
       rw [← hwA] at hI3 HPA
       have HIA := Lib.hid hI3
       clear hI3 hP3
       go_upto_region 16 with (at_builtin; refine wpList_append_run rfl _ _ _ rfl rfl rfl g2 ?_)
       rw [← hwA]
       clear g1 g2 g3 g4 hwA
       obtain ⟨_, _, _, _, hCA, _⟩ := HIA.out.reads
       have f5 := hCA.f5
       have fi := cellOf (HIB.out _ HPA.out) 0 (v := .int .i64 i) rfl
       have hcall := HIh.out (i + 1) wA (putC ch n i) (l ++ [(n : Int)]) st1 (by omega) (HLX.out _ HPA.out) (H0X.out _ HPA.out) HIA.out (HC.out.put hnle) (by simp; exact HLl.out)
       rw [show ((i + 1 : Nat) : Int) = (i : Int) + 1 from rfl] at hcall
       have HCa := Lib.hid hcall
       clear hcall hCA
       unfold proP at f5
       go_upto_region 17 with (go_at_call 73; refine HCa.out.mono ?_; rintro e wB ⟨rfl, hIB, hPB⟩)
       clear f5 fi
       have HKN := Lib.hid (HKS.out.trans (if_pos (by rw [← HCC.out, hok2])))
       generalize provR r f (i + 1) (putC ch n i) (l ++ [(n : Int)]) st1 = st7 at *
       have HPB := Lib.hid (HPA.out.trans hPB)
       obtain ⟨A7', c7', g1, g2, g3, hIC, hPC⟩ := hIB.popL
       rw [HLl.out] at g1 g2 hIC hPC
       have fi := cellOf (HIB.out _ HPB.out) 0 (v := .int .i64 i) rfl
       obtain ⟨wC, hwC⟩ : ∃ X, X = wB.setCell ⟨a + 4, 0, none⟩ (.slice A7' i c7') := ⟨_, rfl⟩
       rw [← hwC] at hIC hPC
       have HIC := Lib.hid hIC
       have HPC := Lib.hid (HPB.out.trans hPC)
       clear hIB hPB hIC hPC
       go_upto_region 18 with (fail)
       rw [← hwC]
       clear hwC g1 g2 g3 fi
       have hpg := putC_getD hnle i
       obtain ⟨gD, cD, g1, g2, g3, g4⟩ := HIC.out.putC (n := n) (by rw [ofN_len]; exact hpg.2.1)
       rw [ofN_len] at g1
       rw [ofN_getD, hpg.1, ← HCC.out] at g2
       have hpl := hpg.2.1
       have hpl2 := hpg.2.2
       obtain ⟨m2, hm2⟩ : ∃ m, m = (putC ch n i).length := ⟨_, rfl⟩
       rw [← hm2] at g1 hpl hpl2
       have fi := cellOf (HIB.out _ HPC.out) 0 (v := .int .i64 i) rfl
       have han := andnot_is (i := i) (c := c) (by omega) HCB.out
       have HG4 := Lib.hid g4
       clear g4 hm2 hpg
       refine region_quiet_tail (C := fun w' => ∃ k, w' = wC.drewN k) 8 (by kernel_rfl) (by kernel_rfl) ⟨1, rfl⟩ ?_
       simp only [List.take_succ_cons, List.take_zero, List.drop_succ_cons, List.drop_zero]
       repeat (first | go_big_quiet_step (fail) | quiet_step (fail))
       refine wpQuiet_nil ?_
       rintro _ ⟨k2, rfl⟩
       have hset := HG4.out (c : Int) k2
       rw [← ofN_set, HCC.out, putC_back hnle] at hset
       obtain ⟨wE, hwE⟩ : ∃ X, X = (wC.drewN k2).setCell ⟨gD, n, none⟩ (.int .i64 ((ch.getD n 0 : Nat) : Int)) := ⟨_, rfl⟩
       rw [← hwE] at hset
       rw [← HCC.out] at hwE
       have HIE := Lib.hid hset.1
       have HPE := Lib.hid (HPC.out.trans hset.2)
       clear hset
       go_upto_region 19 with (fail)
       rw [← hwE]
       clear hwE han g1 g2 g3 fi
       obtain ⟨gF, cF, g1, g2, g3, g4⟩ := HIE.out.putC (n := n) (by rw [ofN_len, ← HM.out]; exact hct1)
       rw [ofN_len, ← HM.out] at g1
       rw [ofN_getD, HCG.out, ← HCC.out] at g2
       clear g3 g4
       have hcz : ((c : Int) == 0) = true := by rw [HCC.out, HNw.out]; simp
       have hIT := HIE.out
       rw [HNw.out, chT_new, ofN_snoc] at hIT
       obtain ⟨AT, cT, q1, q2, q3, hIU, hPU⟩ := hIT.popC
       rw [HCL.out, ← HNw.out] at q1 q2 hIU hPU
       obtain ⟨wU, hwU⟩ : ∃ X, X = wE.setCell ⟨a + 3, 0, none⟩ (.slice AT n cT) := ⟨_, rfl⟩
       rw [← hwU] at hIU hPU
       have HIU := Lib.hid hIU
       have HPU := Lib.hid (HPE.out.trans hPU)
       have hm1 : m = n + 1 := by rw [HM.out, HNw.out, chT_new]; simp
       rw [hm1] at g1 hct1
       have eA := g1.symm.trans q1
       simp only [Option.some.injEq, Value.slice.injEq, true_and] at eA
       obtain ⟨rfl, rfl⟩ := eA
       clear hIU hPU hIT q1 hm1
       go_upto_region 20 with (fail)
       clear g2 hcz
       go_wp2
       rw [← hwU]
       go_roundw
       case rel => exact ⟨n + 1, by omega, by go_num, by rw [HKN.out]; exact HIU.out, HPU.out⟩
       case measure => simp [intOf]; omega
      ·have teq : ((n : Int) == (ch.length : Int)) = false := by simp; omega
       have hnlt : n < ch.length := by omega
       have HI3 := Lib.hid (show ProI a ar b (.slice An r.length cn) (ofN (chT ch n)) l st1 wr by rw [chT_old hnlt]; exact hI)
       have HP3 := Lib.hid HP.out
       clear hI
       go_upto_region 13 with (fail)
       clear f3 fi
       obtain ⟨w3, hw3⟩ : ∃ X, X = wr := ⟨_, rfl⟩
       rw [← hw3] at HI3 HP3 ⊢
       clear hw3
       have hcb := chLt HC.out n
       have hct := chT_len hnle
       have hcg := chT_getD hnle
       have H512 : 2 ^ i ≤ 512 := pow_512 (by omega)
       obtain ⟨g, c5, g1, g2, g3, g4⟩ := HI3.out.putC (n := n) (by rw [ofN_len]; exact hct.1)
       rw [ofN_len] at g1
       rw [ofN_getD, hcg] at g2
       clear g3 g4
       obtain ⟨c, hcc⟩ : ∃ c, c = ch.getD n 0 := ⟨_, rfl⟩
       rw [← hcc] at g2 hcb
       obtain ⟨m, hm⟩ : ∃ m, m = (chT ch n).length := ⟨_, rfl⟩
       rw [← hm] at g1 hct
       have hct1 := hct.1
       have HCt := Lib.hid hct
       have HCC := Lib.hid hcc
       have HM := Lib.hid hm
       have HCG := Lib.hid hcg
       have HCB := Lib.hid hcb
       have HLi := Lib.hid (rlist_any (s := c) (by omega) w3 (HDX.out _ HP3.out))
       have hI3x := HI3.out.reads
       obtain ⟨_, _, _, _, hC3, _⟩ := hI3x
       have f0 := hC3.f0
       have fi := cellOf (HIB.out _ HP3.out) 0 (v := .int .i64 i) rfl
       have HAny := Lib.hid (okC_any r i c)
       have HPh := Lib.hid (fun (X : World) (A7 : Option Addr) (c7 : Nat) (ho : Own w3.heap.size 3 X (.slice A7 (listF c).length c7) (listF c)) (hb : Below w3.heap.size w3 X) => phas_any (w := X) (a := a) (b := b) (ib := w.heap.size) (i := i) ho.rd (fun k hk => by
        obtain ⟨q, h1, h2⟩ := listF_el (HCB.out) k hk
        exact ⟨q, h1, by omega⟩) ((hb.cell (cell_lt f0)).trans f0) ((hb.cell (cell_lt fi)).trans fi) (((HLX.out _ HP3.out).below (hb.mono (by have := HI3.out.size; omega))).lk (by have := HI3.out.size; have := hb.size; omega)) HG.out hlt)
       rw [HAny.out] at HPh
       clear hcg hm hcc hct hC3 f0 fi hcb
       cases hok2 : okC r i c with
       | true =>
        rw [hok2] at HPh
        have hok : True := trivial
        clear hok
        go_upto_region 14 with (first | (go_at_call 50; refine HLi.out.mono ?_; rintro e w7 ⟨A7, c7, rfl, ho7, hb7⟩; have HP7 := Lib.hid (HPh.out w7 A7 c7 ho7 hb7); have HB7 := Lib.hid hb7; clear hb7 ho7) | (go_at_call 76; refine HP7.out.mono ?_; rintro e w8 ⟨rfl, hq8⟩))
        clear g1 g2
        have hI8 := HI3.out.below (HB7.out.trans (hq8.below _))
        have HP8 := Lib.hid (HP3.out.trans hI8.2)
        obtain ⟨g9, c9, g1, g2, g3, g4⟩ := hI8.1.putC (n := n) (by rw [ofN_len, ← HM.out]; exact hct1)
        rw [ofN_len, ← HM.out] at g1
        rw [ofN_getD, HCG.out, ← HCC.out] at g2
        have fi := cellOf (HIB.out _ HP8.out) 0 (v := .int .i64 i) rfl
        have hor := or_is (i := i) (c := c) (by omega) HCB.out
        have HG4 := Lib.hid g4
        clear hI8 hq8 g4
        refine region_quiet_tail (C := fun w' => ∃ k, w' = w8.drewN k) 8 (by kernel_rfl) (by kernel_rfl) ⟨1, rfl⟩ ?_
        simp only [List.take_succ_cons, List.take_zero, List.drop_succ_cons, List.drop_zero]
        repeat (first | go_big_quiet_step (fail) | quiet_step (fail))
        refine wpQuiet_nil ?_
        rintro _ ⟨k1, rfl⟩
        have hset := HG4.out ((c ||| 2 ^ i : Nat) : Int) k1
        rw [← ofN_set, HCC.out, putC_eq hnle] at hset
        obtain ⟨w9, hw9⟩ : ∃ X, X = (w8.drewN k1).setCell ⟨g9, n, none⟩ (.int .i64 ((ch.getD n 0 ||| 2 ^ i : Nat) : Int)) := ⟨_, rfl⟩
        rw [← hw9] at hset
        rw [← HCC.out] at hw9
        have HI9 := Lib.hid hset.1
        have HP9 := Lib.hid (HP8.out.trans hset.2)
        clear hset
        go_upto_region 15 with (fail)
        rw [← hw9]
        clear hw9 hor g1 g2 g3 fi
        obtain ⟨A5, c5', A, c0, w5, g1, g2, ⟨o5, g3⟩, g4, hI3, hP3⟩ := HI9.out.pushL (n : Int) (by rw [HLl.out]; omega)
        obtain ⟨wA, hwA⟩ : ∃ X, X = w5.setCell ⟨a + 4, 0, none⟩ (.slice A (l.length + 1) c0) := ⟨_, rfl⟩
        have HPA := Lib.hid (HP9.out.trans hP3)
        rw [← hwA] at hI3 HPA
        have HIA := Lib.hid hI3
        clear hI3 hP3
        go_upto_region 16 with (at_builtin; refine wpList_append_run rfl _ _ _ rfl rfl rfl g2 ?_)
        rw [← hwA]
        clear g1 g2 g3 g4 hwA
        obtain ⟨_, _, _, _, hCA, _⟩ := HIA.out.reads
        have f5 := hCA.f5
        have fi := cellOf (HIB.out _ HPA.out) 0 (v := .int .i64 i) rfl
        have hcall := HIh.out (i + 1) wA (putC ch n i) (l ++ [(n : Int)]) st1 (by omega) (HLX.out _ HPA.out) (H0X.out _ HPA.out) HIA.out (HC.out.put hnle) (by simp; exact HLl.out)
        rw [show ((i + 1 : Nat) : Int) = (i : Int) + 1 from rfl] at hcall
        have HCa := Lib.hid hcall
        clear hcall hCA
        unfold proP at f5
        go_upto_region 17 with (go_at_call 73; refine HCa.out.mono ?_; rintro e wB ⟨rfl, hIB, hPB⟩)
        clear f5 fi
        have HKN := Lib.hid (HKS.out.trans (if_pos (by rw [← HCC.out, hok2])))
        generalize provR r f (i + 1) (putC ch n i) (l ++ [(n : Int)]) st1 = st7 at *
        have HPB := Lib.hid (HPA.out.trans hPB)
        obtain ⟨A7', c7', g1, g2, g3, hIC, hPC⟩ := hIB.popL
        rw [HLl.out] at g1 g2 hIC hPC
        have fi := cellOf (HIB.out _ HPB.out) 0 (v := .int .i64 i) rfl
        obtain ⟨wC, hwC⟩ : ∃ X, X = wB.setCell ⟨a + 4, 0, none⟩ (.slice A7' i c7') := ⟨_, rfl⟩
        rw [← hwC] at hIC hPC
        have HIC := Lib.hid hIC
        have HPC := Lib.hid (HPB.out.trans hPC)
        clear hIB hPB hIC hPC
        go_upto_region 18 with (fail)
        rw [← hwC]
        clear hwC g1 g2 g3 fi
        have hpg := putC_getD hnle i
        obtain ⟨gD, cD, g1, g2, g3, g4⟩ := HIC.out.putC (n := n) (by rw [ofN_len]; exact hpg.2.1)
        rw [ofN_len] at g1
        rw [ofN_getD, hpg.1, ← HCC.out] at g2
        have hpl := hpg.2.1
        have hpl2 := hpg.2.2
        obtain ⟨m2, hm2⟩ : ∃ m, m = (putC ch n i).length := ⟨_, rfl⟩
        rw [← hm2] at g1 hpl hpl2
        have fi := cellOf (HIB.out _ HPC.out) 0 (v := .int .i64 i) rfl
        have han := andnot_is (i := i) (c := c) (by omega) HCB.out
        have HG4 := Lib.hid g4
        clear g4 hm2 hpg
        refine region_quiet_tail (C := fun w' => ∃ k, w' = wC.drewN k) 8 (by kernel_rfl) (by kernel_rfl) ⟨1, rfl⟩ ?_
        simp only [List.take_succ_cons, List.take_zero, List.drop_succ_cons, List.drop_zero]
        repeat (first | go_big_quiet_step (fail) | quiet_step (fail))
        refine wpQuiet_nil ?_
        rintro _ ⟨k2, rfl⟩
        have hset := HG4.out (c : Int) k2
        rw [← ofN_set, HCC.out, putC_back hnle] at hset
        obtain ⟨wE, hwE⟩ : ∃ X, X = (wC.drewN k2).setCell ⟨gD, n, none⟩ (.int .i64 ((ch.getD n 0 : Nat) : Int)) := ⟨_, rfl⟩
        rw [← hwE] at hset
        rw [← HCC.out] at hwE
        have HIE := Lib.hid hset.1
        have HPE := Lib.hid (HPC.out.trans hset.2)
        clear hset
        go_upto_region 19 with (fail)
        rw [← hwE]
        clear hwE han g1 g2 g3 fi
        obtain ⟨gF, cF, g1, g2, g3, g4⟩ := HIE.out.putC (n := n) (by rw [ofN_len, ← HM.out]; exact hct1)
        rw [ofN_len, ← HM.out] at g1
        rw [ofN_getD, HCG.out, ← HCC.out] at g2
        clear g3 g4
        have hcz : ((c : Int) == 0) = false := by
         have := (chEl HC.out hnlt).1
         rw [← HCC.out] at this
         simp
         omega
        go_wp2
        go_roundw
        case rel => exact ⟨n + 1, by omega, by go_num, by rw [HKN.out, ← chT_old hnlt]; exact HIE.out, HPE.out⟩
        case measure => simp [intOf]; omega
       | false =>
        rw [hok2] at HPh
        have HKN := Lib.hid (HKS.out.trans (if_neg (by rw [← HCC.out, hok2]; simp)))
        go_upto_region 19 with (first | (go_at_call 50; refine HLi.out.mono ?_; rintro e w7 ⟨A7, c7, rfl, ho7, hb7⟩; have HP7 := Lib.hid (HPh.out w7 A7 c7 ho7 hb7); have HB7 := Lib.hid hb7; clear hb7 ho7) | (go_at_call 76; refine HP7.out.mono ?_; rintro e w8 ⟨rfl, hq8⟩))
        clear g1 g2
        have hI8 := HI3.out.below (HB7.out.trans (hq8.below _))
        have HP8 := Lib.hid (HP3.out.trans hI8.2)
        have HI8 := Lib.hid hI8.1
        clear hI8 hq8
        obtain ⟨gF, cF, g1, g2, g3, g4⟩ := HI8.out.putC (n := n) (by rw [ofN_len, ← HM.out]; exact hct1)
        rw [ofN_len, ← HM.out] at g1
        rw [ofN_getD, HCG.out, ← HCC.out] at g2
        clear g3 g4
        have hcz : ((c : Int) == 0) = false := by
         have := (chEl HC.out hnlt).1
         rw [← HCC.out] at this
         simp
         omega
        go_wp2
        go_roundw
        case rel => exact ⟨n + 1, by omega, by go_num, by rw [HKN.out, ← chT_old hnlt]; exact HI8.out, HP8.out⟩
        case measure => simp [intOf]; omega
     ·have hnn : n = ch.length + 1 := by omega
      have HE := Lib.hid (show ProRes a ar b (.slice An r.length cn) (ofN ch) l (provK r f i ch l st (ch.length + 1)) w (.returned (.tuple #[])) wr from ⟨rfl, by rw [← hnn]; exact hI, HP1.out.trans hP⟩)
      clear hI hP
      go_wp2
      refine bodyPost_ret (results_none rfl _ _ _) rfl HE.out
end Go.Proofs.YthnimhnlnddnoaaGreatDoor
