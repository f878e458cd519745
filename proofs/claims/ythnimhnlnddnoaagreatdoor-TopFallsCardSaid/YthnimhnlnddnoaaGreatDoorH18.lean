/- Parts of the proof of TpP: RvZ7, RvZ8, IAr. -/
import Derived.Test.YthnimhnlnddnoaaGreatDoorH17
import Derived.WalkKit
import Derived.Deep.Quiet
import Derived.Test.YthnimhnlnddnoaaGreatDoorH2
import Derived.Laws.OwnMore
import Derived.RowKit3
set_option linter.unusedSimpArgs false
set_option linter.unusedVariables false
set_option maxRecDepth 100000
set_option maxHeartbeats 8000000
namespace Go.Proofs.YthnimhnlnddnoaaGreatDoor
open Go.RowKit Go.Shelf
attribute [local go_sem] Oper.semAt_some
def fillsL (r : List RvR) (k : Nat) : List Int := (List.range k).map (fillR r)
theorem fillsL_succ (r : List RvR) (k : Nat) : fillsL r (k + 1) = fillsL r k ++ [fillR r k] := by unfold fillsL; rw [List.range_succ, List.map_append]; rfl
theorem fillsL_len (r : List RvR) (k : Nat) : (fillsL r k).length = k := by simp [fillsL]
theorem append_intN {base : Nat} {w : World} {v : Value} {xs : List Int} (h : Own base 3 w v xs) (x : Int) (hn : xs.length ≤ 100000) (hbase : base ≤ w.heap.size) :
  ∃ A c w', (Builtin.append_ #[30, 30] 30 #[v, .slice (some ⟨w.heap.size, 0, none⟩) 1 1]).run Tryz.prog (w.alloc (.cells #[.int .i64 x] 3)) = .ok (.slice A (xs.length + 1) c) w' ∧ Own base 3 w' (.slice A (xs.length + 1) c) (xs ++ [x]) ∧
   Below base w w' ∧ w.heap.size ≤ w'.heap.size ∧ (∀ (b : Nat) (o : Obj), w.heap[b]? = some o → (∀ c f, o ≠ .cells c 3 f) → w'.heap[b]? = some o) := by
 obtain ⟨A, c, w', h1, h2, h3, _, _, _, h4, h5⟩ := append_full (t := 30) (ty := 30) (e := 3) (bytes := 8) (P := Tryz.prog) (by kernel_rfl) (by kernel_rfl) (by omega) (by omega) (by simp [Enc.enc]; intros; rfl) h x hn hbase (cs := #[.int .i64 x]) rfl
 exact ⟨A, c, w', h1, h2, h3, by omega, h5⟩
theorem Marks.step {B U : Nat} {w w' : World} {ds : List Deferred} (h : Marks B U w ds) (hn : ∀ (b : Nat) (o : Obj), w.heap[b]? = some o → (∀ c f, o ≠ .cells c 3 f) → w'.heap[b]? = some o) : Marks B U w' ds :=
 h.keep fun b o _ ho hd => hn b o ho fun c f e => by subst e; cases hd
theorem Marks.below {B : Nat} {w w' : World} {ds : List Deferred} (h : Marks B w.heap.size w ds) (hb : Below w.heap.size w w') : Marks B w.heap.size w' ds :=
 h.keep fun b o hb2 ho _ => (hb.block b hb2).trans ho
theorem results13 {w : World} {u v : Value} {tmps : Array Value} (t1 : tmps[2]?.getD undef = u) (t2 : tmps[3]?.getD undef = v) : (results Tryz.f13 tmps).run Tryz.prog w = .ok (.tuple #[u, v]) w := by
 simp [results, Tryz.results13, t1, t2]
theorem Own.data {α : Type} {At : World → Addr → α → Prop} {sz : Nat} [E : Enc α At sz] {base : Nat} {e : TypeId} {w w' : World} {v : Value} {xs : List α} (h : Own base e w v xs)
  (hd : ∀ (b : Nat) (o : Obj), w.heap[b]? = some o → isData o = true → w'.heap[b]? = some o) : Own base e w' v xs := by
 rcases h with ⟨hl, h0 | ⟨g, cap, cur, rfl, hbb, hh, r⟩⟩
 ·exact ⟨hl, .inl h0⟩
 ·exact ⟨hl, .inr ⟨g, cap, cur, rfl, hbb, hd _ _ hh rfl, r⟩⟩
theorem rfill_any {B : Nat} {w : World} {v : Value} {r : List RvR} (hs : Rd RvAt 4 B w v r) (hg : RGood r) (hf : ∀ i, i < r.length → fillR r i ≤ 9000) (hB : B ≤ w.heap.size) :
  Calls Tryz.prog 13 #[v] w (OwnRes w.heap.size 3 (fillL r) 0 w) := by
 obtain ⟨A, cap, rfl, h5, h6, _⟩ := id hs
 have hlen := hg.len
 obtain ⟨W1, hW1, r1, z1, d1⟩ := box_any w #[.slice A r.length cap] 22
 have HG := Lib.hid hg
 have HS := Lib.hid (hs.below (d1.mono hB))
 have HO := Lib.hid (ropen_any (hs.below (d1.mono hB)) hg (Nat.le_trans hB d1.size))
 have HB1 := Lib.hid d1
 have HR1 := Lib.hid r1
 have HF := Lib.hid hf
 have q0 := cellOf r1 0 (v := .slice A r.length cap) rfl
 have hB1 := Nat.le_trans hB d1.size
 clear hs hg h5 h6 d1 z1 r1 hf
 refine calls_of_wp_marks Tryz.func13 rfl ?_
 simp only [Tryz.ntmps13, List.size_toArray, List.length_cons, List.length_nil, Nat.reduceAdd, Nat.reduceSub, Array.replicate_succ,
   Array.replicate_zero, List.push_toArray, List.append_toArray, List.nil_append, List.cons_append]
 go_upto_region 1 with (fail)
 rw [← hW1]
 clear hW1
 go_upto_region 4 with (go_at_call 46; refine HO.out.mono ?_; rintro e w1 ⟨b, rfl, hL, hb, hb1⟩)
 have hB2 := Nat.le_trans hB1 hb1.size
 have hk1 := (hb1.block _ (lt_of_block HR1.out)).trans HR1.out
 have q1 := cellOf hk1 0 (v := .slice A r.length cap) rfl
 have HL := Lib.hid (LkN.of_open HS.out hB1 hL hb1)
 have HS1 := Lib.hid (HS.out.below (hb1.mono hB1))
 have HK1 := Lib.hid hk1
 have HB2 := Lib.hid (HB1.out.trans (hb1.mono HB1.out.size))
 have hwz : w.heap.size < w1.heap.size := lt_of_block hk1
 clear hL hk1 HO hb1 q0 HR1
 go_wp2
 clear q1
 refine wp_loop (fun a2 w2 => ∃ (u2 u3 u5 u6 u7 u8 u19 u20 u21 u22 u23 u24 u25 u26 u27 u30 u31 u32 u33 u34 u35 u36 u37 u38 u39 u40 u41 u42 u43 u44 u45 : Value) (ds : List Deferred), (fun lv i w2 ds => ∃ (k : Nat) (L : Option Addr) (c : Nat), k ≤ r.length ∧ i = .int .i64 k ∧ lv = .slice L (fillsL r k).length c ∧ Own w1.heap.size 3 w2 (.slice L (fillsL r k).length c) (fillsL r k) ∧ Below w1.heap.size w1 w2 ∧ Marks w1.heap.size w2.heap.size w2 ds) u2 u19 w2 ds ∧ a2 = { tmps := #[Value.slice A r.length cap, Value.pointer (some { block := w.heap.size, off := 0 }), u2, u3, Value.pointer (some { block := b, off := 0 }), u5, u6, u7, u8, Value.tuple #[Value.pointer (some { block := b, off := 0 }), Value.int IntKind.i64 0], Value.slice A r.length cap, Value.tuple #[Value.pointer (some { block := b, off := 0 }), Value.int IntKind.i64 0], Value.pointer (some { block := b, off := 0 }), Value.int IntKind.i64 0, Value.int IntKind.i64 0, Value.bool false, undef, Value.slice A r.length cap, Value.int IntKind.i64 ↑r.length, u19, u20, u21, u22, u23, u24, u25, u26, u27, undef, undef, u30, u31, u32, u33, u34, u35, u36, u37, u38, u39, u40, u41, u42, u43, u44, u45, undef], defers := ds }) (fun a2 _ => (fun _ i => r.length - (intOf i).toNat) (a2.tmps.getD 2 undef) (a2.tmps.getD 19 undef)) ?start ?round
 case start =>
  repeat apply Exists.intro
  refine ⟨?_, rfl⟩
  exact ⟨0, none, 0, Nat.zero_le _, rfl, rfl, Own.nil _ _ _, Below.refl _ _, trivial⟩
 case round =>
  intro a2 wr hinv
  obtain ⟨u2, u3, u5, u6, u7, u8, u19, u20, u21, u22, u23, u24, u25, u26, u27, u30, u31, u32, u33, u34, u35, u36, u37, u38, u39, u40, u41, u42, u43, u44, u45, ds, hrel, ha⟩ := hinv
  subst ha
  try dsimp only
  obtain ⟨k, L, c, hk, rfl, rfl, hown, hbr, hM⟩ := hrel
  by_cases hlt : k < r.length
  ·obtain ⟨W5, hW5, r5, z5, d5⟩ := box_any wr #[.int .i64 0] 3
   have hb15 := hbr.trans (d5.mono hbr.size)
   have hL5 := HL.out.below hb15
   have p0 := hL5.riv.pts
   have Hown := Lib.hid hown
   have HM := Lib.hid hM
   have HR5 := Lib.hid r5
   have HZ5 := Lib.hid z5
   have HBr := Lib.hid hbr
   have HD5 := Lib.hid d5
   have Hsn := Lib.hid (fillsL_succ r k)
   have HLL := Lib.hid (fillsL_len r k)
   have hgz := hbr.size
   clear hown hM r5 z5 hbr d5 hL5 hb15
   go_upto_region 8 with (fail)
   rw [← hW5]
   clear hW5
   obtain ⟨g, hgd⟩ : ∃ g, g = wr.heap.size := ⟨_, rfl⟩
   rw [← hgd] at HR5 HZ5 hgz ⊢
   have HGD := Lib.hid hgd
   clear hgd
   go_wp2_with (go_at_call 49; refine (rbelow_any _ _ _ _ _).mono ?_; rintro e w' ⟨rfl, rfl⟩)
   refine below_law (w := W5) HG.out hlt (B := g) (A := A) (c := cap) ?hs ?hB rfl rfl
    (fun q W => W.heap[g]? = some (.cells #[.int .i64 (fillK r k q)] 3)) (fun _ _ => False) ?hE ?hX rfl ?h0 ?hround ?hdone ?hstop
   case hs => exact (HS1.out.below ((HBr.out.trans (HD5.out.mono HBr.out.size)).mono hB2)).mono (by omega)
   case hB => have := HZ5.out; omega
   case hE => exact fun q A B h hst => (hst.low _ (by have := HZ5.out; omega)).trans h
   case hX => exact fun _ _ _ h => h.elim
   case h0 =>
    have hb0 : Below W5.heap.size W5 ((W5.alloc (.cells #[.slice A r.length cap] 95)).alloc (.cells #[.int .i64 k] 3)) := ((Below.refl _ _).alloc (Nat.le_refl _) _).alloc (by simp) _
    exact (hb0.block _ (lt_of_block HR5.out)).trans HR5.out
   case hstop => exact fun _ _ _ _ _ h => h.elim
   case hdone =>
    rintro d W hd hbW h1 hk
    rw [fillK_all] at h1
    have hbw : Below wr.heap.size wr W := HD5.out.trans (by rw [← HGD.out]; exact hbW)
    have c0 := cellOf h1 0 (v := .int .i64 (fillR r k)) rfl
    have h9 := HF.out k hlt
    have HBW := Lib.hid hbw
    have HK := Lib.hid hk
    have hdw : d < W.heap.size := lt_of_block hk
    clear hbw hbW hk h1
    generalize fillR r k = f at *
    simp only [Exit.inBlock, Exit.then]
    go_upto_region 14 with (fail)
    obtain ⟨A2, c2, w2, hrun, hown2, hb2, hz2, hk2⟩ := append_intN (Hown.out.below HBW.out) f (by rw [HLL.out]; omega) (Nat.le_trans HBr.out.size HBW.out.size)
    have Hown2 := Lib.hid hown2
    have Hb2 := Lib.hid (HBr.out.trans ((HBW.out.mono HBr.out.size).trans hb2))
    have HM2 := Lib.hid ((HM.out.below HBW.out).step hk2)
    have HK2 := Lib.hid (hk2 _ _ HK.out fun _ _ e => by cases e)
    clear hown2 hb2 hk2
    go_wp2_with (at_builtin; refine wpList_append_run rfl _ _ _ rfl rfl rfl hrun ?_)
    refine ⟨⟨_, _, _, _, _, _, _, _, _, _, _, _, _, _, _, _, _, _, _, _, _, _, _, _, _, _, _, _, _, _, _, _, ?rel, rfl⟩, ?measure⟩
    case rel => exact ⟨k + 1, A2, c2, by omega, by go_num, by rw [Hsn.out]; simp, by rw [Hsn.out]; simpa using Hown2.out, Hb2.out, Marks.cons (by have := HZ5.out; omega) (lt_of_block HK2.out) HK2.out (HM2.out.up (by rw [← HGD.out]; have := HZ5.out; omega))⟩
    case measure => simp [intOf]; omega
   case hround =>
    rintro l q p W hp hbW h1 hl1 hl2
    generalize hT : Array.foldl _ _ _ = T
    simp at hT
    subst hT
    gi_wp2
    refine ⟨NC.refl _, fun W₂ hbk hsz => ?_⟩
    obtain ⟨p1, p2⟩ := p
    obtain ⟨q1, b1, b2, _⟩ := belL_at HG.out hlt hp
    have HFS := Lib.hid (fillK_step hp)
    have hfl := fillK_le HG.out hlt q
    have hh := HG.out.hgt _ q1
    simp only at q1 b1 b2 hh
    have hbk2 := hbk.below
    have c0 := cellOf ((hbk2.block _ (by have := HZ5.out; omega)).trans h1) 0 (v := .int .i64 (fillK r k q)) rfl
    have hbs : Below g W5 W₂ := hbW.trans (hbk2.mono (by have := HZ5.out; omega))
    have hb1s : Below w1.heap.size w1 W₂ := HBr.out.trans (((HD5.out.mono HBr.out.size)).trans (hbs.mono hgz))
    have q0 := cellOf ((hb1s.block _ hwz).trans HK1.out) 0 (v := .slice A r.length cap) rfl
    have hrd := HS1.out.below (hb1s.mono hB2)
    obtain ⟨ad, rfl, _, _, _, _, n3⟩ := hrd.rv q1
    rw [show (r.getD p1 default).hgt = rvH r p1 from rfl] at n3
    have H1 := Lib.hid h1
    have HBK := Lib.hid hbk2
    have HBW := Lib.hid hbW
    have fz : W₂.frozen? ⟨g, 0, none⟩ = false := by
     have := (hbk2.block g (by have := HZ5.out; omega)).trans h1
     simp [World.frozen?, this]
    clear hbk hbk2 hbs hb1s hrd h1 hbW hp
    generalize rvH r p1 = h at *
    generalize fillK r k q = f at *
    gi_wp2
    refine round_quiet_tail (C := fun w' => ∃ n, w' = W₂.drewN n) 9 (by kernel_rfl) (by kernel_rfl) ⟨1, rfl⟩ ?_
    simp only [List.take_succ_cons, List.take_zero, List.drop_succ_cons, List.drop_zero]
    repeat (first | go_big_quiet_step (fail) | quiet_step (fail))
    refine wpQuiet_nil ?_
    rintro _ ⟨n2, rfl⟩
    gi_wp2
    have hg2 : W₂.heap[g]? = some (.cells #[.int .i64 f] 3) := (HBK.out.block g (by have := HZ5.out; omega)).trans H1.out
    refine ⟨(NC.refl W₂).setCell _ _, ⟨?_, ?_, ?_⟩, ?_⟩
    ·exact (below_drewN (HBW.out.trans (HBK.out.mono (by have := HZ5.out; omega))) n2).setCell (Nat.le_refl g) _
    ·exact (Below.heap_setCell _ _ _ _ (by show W5.heap.size ≠ g; have := HZ5.out; omega)).trans (HBK.out.block _ (by omega))
    ·exact (Below.heap_setCell _ _ _ _ (by show W5.heap.size + 1 ≠ g; have := HZ5.out; omega)).trans (HBK.out.block _ (by omega))
    ·rw [HFS.out]
     exact heap_setCell_row (show (W₂.drewN n2).heap[g]? = _ from hg2) _
  ·have hkn : k = r.length := by omega
   subst hkn
   have Hown := Lib.hid hown
   have Hbr := Lib.hid hbr
   have HM := Lib.hid hM
   clear hown hbr hM
   go_wp2
   refine leaves_marks ds _ _ HM.out fun w' hb => ?_
   have e : fillL r = fillsL r r.length := rfl
   refine ⟨_, results13 rfl rfl, L, c, ?_, ?_, ?_⟩
   ·rw [e]; rfl
   ·rw [e]
    exact (Hown.out.data hb.data).mono (by omega)
   ·exact HB2.out.trans ((Hbr.out.trans hb.below).mono (by omega))
end Go.Proofs.YthnimhnlnddnoaaGreatDoor
namespace Go.Proofs.YthnimhnlnddnoaaGreatDoor
open Go.RowKit Go.Shelf
attribute [local go_sem] Oper.semAt_some
def ptsK (r : List RvR) (i k : Nat) : List Int := ((belL r i).take k).map fun p : Nat × Int => (p.1 : Int)
theorem ptsK_succ {r : List RvR} {i k : Nat} {p : Nat × Int} (h : (belL r i)[k]? = some p) : ptsK r i (k + 1) = ptsK r i k ++ [(p.1 : Int)] := by
 have hlt := (List.getElem?_eq_some_iff.1 h).1
 unfold ptsK
 rw [List.take_succ_eq_append_getElem hlt, List.map_append, (List.getElem?_eq_some_iff.1 h).2]
 rfl
theorem ptsK_len (r : List RvR) (i k : Nat) : (ptsK r i k).length ≤ k := by simp [ptsK]; omega
theorem pourL_all {r : List RvR} : ∀ {l : List (Nat × Int)}, (∀ p : Nat × Int, p ∈ l → runsB r p.1 = true) → pourL r l = l.map fun p : Nat × Int => (p.1 : Int)
 | [], _ => rfl
 | p :: l, h => by
  rw [pourL, h p (by simp), if_pos rfl, pourL_all fun q hq => h q (by simp [hq])]
  rfl
theorem pourL_stop {r : List RvR} : ∀ {l : List (Nat × Int)} {k : Nat} {p : Nat × Int}, l[k]? = some p → (∀ (j : Nat) (q : Nat × Int), j < k → l[j]? = some q → runsB r q.1 = true) → runsB r p.1 = false → pourL r l = (l.take (k + 1)).map fun p : Nat × Int => (p.1 : Int)
 | [], _, _, h, _, _ => by simp at h
 | x :: l, 0, p, h, _, hr => by
  have h : x = p := by simpa using h
  subst h
  rw [pourL, hr]
  simp
 | x :: l, k + 1, p, h, hj, hr => by
  have h : l[k]? = some p := by simpa using h
  rw [pourL, hj 0 x (by omega) rfl, if_pos rfl, pourL_stop h (fun j q hjk hq => hj (j + 1) q (by omega) (by simpa using hq)) hr, List.take_succ_cons, List.map_cons]
theorem poured_all {r : List RvR} {i : Nat} (h : ∀ (k : Nat) (p : Nat × Int), (belL r i)[k]? = some p → runsB r p.1 = true) : pouredR r i = ptsK r i (belL r i).length := by
 unfold pouredR ptsK
 rw [List.take_length]
 refine pourL_all fun p hp => ?_
 obtain ⟨k, hk, rfl⟩ := List.getElem_of_mem hp
 exact h k _ (List.getElem?_eq_getElem hk)
theorem Own.stay {α : Type} {At : World → Addr → α → Prop} {sz : Nat} [E : Enc α At sz] {H : Nat} {e : TypeId} {w w' : World} {v : Value} {xs : List α} (h : Own (H + 2) e w v xs) (hs : StayB H w w') : Own (H + 2) e w' v xs := by
 rcases h with ⟨hl, h0 | ⟨g, cap, cur, rfl, hbb, hh, r⟩⟩
 ·exact ⟨hl, .inl h0⟩
 ·exact ⟨hl, .inr ⟨g, cap, cur, rfl, hbb, hs.data _ _ (by omega) hh rfl, r⟩⟩
structure PoI (r : List RvR) (i g4 gx b H : Nat) (sl : Value) (l : List Int) (W : World) : Prop where
 l : ∃ L c, W.heap[g4]? = some (.cells #[.slice L l.length c] 30) ∧ Own (H + 2) 3 W (.slice L l.length c) l
 x : W.heap[gx]? = some (.cells #[.pointer (some ⟨b, 0, none⟩)] 87)
 riv : RivAt W b sl (dropP r r.length)
theorem results37 {w : World} {a : Addr} {v u : Value} {tmps : Array Value} (h1 : w.cell? a = some v) (t1 : tmps[4]?.getD undef = .pointer (some a)) (t2 : tmps[5]?.getD undef = u) :
  (results Tryz.f37 tmps).run Tryz.prog w = .ok (.tuple #[v, u]) w := by
 have hl : (loadVar 30 a).run Tryz.prog w = .ok v w := by simp [loadVar, go_sem, h1]
 simp [results, Tryz.results37, t1, t2, asAddr, hl]
theorem rpoured_any {B : Nat} {w : World} {v : Value} {r : List RvR} {i : Nat} (hs : Rd RvAt 4 B w v r) (hg : RGood r) (hi : i < r.length) (hB : B ≤ w.heap.size) :
  Calls Tryz.prog 37 #[v, .int .i64 i] w (OwnRes w.heap.size 3 (pouredR r i) 0 w) := by
 obtain ⟨A, cap, rfl, h5, h6, _⟩ := id hs
 have hlen := hg.len
 obtain ⟨W1, hW1, r1, z1, d1⟩ := box_any w #[.slice none 0 0] 30
 have HG := Lib.hid hg
 have HS0 := Lib.hid hs
 have HS := Lib.hid (hs.below (d1.mono hB))
 have HO := Lib.hid (ropen_any (hs.below (d1.mono hB)) hg (Nat.le_trans hB d1.size))
 have HB1 := Lib.hid d1
 have HR1 := Lib.hid r1
 have HZ1 := Lib.hid z1
 have hB1 := Nat.le_trans hB d1.size
 clear hs hg h5 h6 d1 z1 r1
 refine calls_of_wp_marks Tryz.func37 rfl ?_
 simp only [Tryz.ntmps37, List.size_toArray, List.length_cons, List.length_nil, Nat.reduceAdd, Nat.reduceSub, Array.replicate_succ,
   Array.replicate_zero, List.push_toArray, List.append_toArray, List.nil_append, List.cons_append]
 go_upto_region 1 with (fail)
 rw [← hW1]
 clear hW1
 go_upto_region 4 with (go_at_call 46; refine HO.out.mono ?_; rintro e w1 ⟨b, rfl, hL, hb, hb1⟩)
 obtain ⟨W2, hW2, r2, z2, d2⟩ := box_any w1 #[.pointer (some ⟨b, 0, none⟩)] 87
 rw [← hW2]
 clear hW2
 have hwz : w.heap.size < w1.heap.size := by have := hb1.size; have := HZ1.out; omega
 have hk1 := (hb1.block _ (lt_of_block HR1.out)).trans HR1.out
 have hL1 := LkN.of_open HS.out hB1 hL hb1
 have HB2 := Lib.hid (HB1.out.trans ((hb1.trans (d2.mono hb1.size)).mono HB1.out.size))
 have HK2 := Lib.hid ((d2.block _ (lt_of_block hk1)).trans hk1)
 have HR2 := Lib.hid r2
 have HL2 := Lib.hid (hL1.below d2)
 have HZ2 := Lib.hid z2
 clear hL hk1 hL1 d2 r2 z2 hb1 HO
 go_upto_region 6 with (first | (refine wpList_bsB rfl 30 1 _ rfl (vs := #[(0, .int .i64 i)]) rfl (run_bs30 _ _) ?_) | (go_at_call 72; refine (rout1 _ _ _ _ (by omega)).mono ?_; rintro e w3 ⟨rfl, hb3⟩))
 have HB3 := Lib.hid (HB2.out.trans (hb3.mono HB2.out.size))
 have HK3 := Lib.hid ((hb3.block _ (lt_of_block HK2.out)).trans HK2.out)
 have HR3 := Lib.hid ((hb3.block _ (lt_of_block HR2.out)).trans HR2.out)
 have hL3 := HL2.out.below hb3
 have p0 := hL3.riv.pts
 have x0 := cellOf HR3.out 0 (v := .pointer (some ⟨b, 0, none⟩)) rfl
 have HL3 := Lib.hid hL3
 have hz3 := hb3.size
 clear hL3 hb3
 obtain ⟨gx, hgx⟩ : ∃ g, g = w1.heap.size := ⟨_, rfl⟩
 rw [← hgx] at HR3 x0 hwz HZ2 ⊢
 clear hgx
 go_wp2_with (go_at_call 49; refine (rbelow_any _ _ _ _ _).mono ?_; rintro e w' ⟨rfl, rfl⟩)
 clear p0 x0
 refine below_law (w := w3) HG.out hi (B := w.heap.size) (A := A) (c := cap) ?hs ?hB rfl rfl
  (fun q W => PoI r i w.heap.size gx b w3.heap.size (.slice A r.length cap) (ptsK r i q) W ∧ ∀ (k : Nat) (p : Nat × Int), k < q → (belL r i)[k]? = some p → runsB r p.1 = true)
  (fun c W => c = .exit 1 ∧ PoI r i w.heap.size gx b w3.heap.size (.slice A r.length cap) (pouredR r i) W) ?hE ?hX rfl ?h0 ?hround ?hdone ?hstop
 case hs => exact (HS0.out.below (HB3.out.mono hB)).mono hB
 case hB => exact HB3.out.size
 case hE =>
  rintro q A B ⟨h1, h2⟩ hst
  obtain ⟨L, c, e1, e2⟩ := h1.l
  exact ⟨⟨⟨L, c, (hst.low _ (lt_of_block HK3.out)).trans e1, e2.stay hst⟩, (hst.low _ (lt_of_block HR3.out)).trans h1.x, (hst.low _ HL3.out.riv.lt).trans h1.riv⟩, h2⟩
 case hX =>
  rintro c A B ⟨h0, h1⟩ hst
  obtain ⟨L, c, e1, e2⟩ := h1.l
  exact ⟨h0, ⟨⟨L, c, (hst.low _ (lt_of_block HK3.out)).trans e1, e2.stay hst⟩, (hst.low _ (lt_of_block HR3.out)).trans h1.x, (hst.low _ HL3.out.riv.lt).trans h1.riv⟩⟩
 case h0 =>
  have hb0 : Below w3.heap.size w3 ((w3.alloc (.cells #[.slice A r.length cap] 95)).alloc (.cells #[.int .i64 i] 3)) := ((Below.refl _ _).alloc (Nat.le_refl _) _).alloc (by simp) _
  exact ⟨⟨⟨none, 0, (hb0.block _ (lt_of_block HK3.out)).trans HK3.out, Own.nil _ _ _⟩, (hb0.block _ (lt_of_block HR3.out)).trans HR3.out, HL3.out.riv.below hb0⟩, fun k p hk => absurd hk (by omega)⟩
 case hstop =>
  rintro d c W hd hbW ⟨rfl, h1⟩ hk
  obtain ⟨L, c, e1, e2⟩ := h1.l
  have c0 := cellOf e1 0 (v := .slice L (pouredR r i).length c) rfl
  have f0 : W.frozen? ⟨w.heap.size, 0, none⟩ = false := by simp [World.frozen?, e1]
  have E1 := Lib.hid e1
  have E2 := Lib.hid e2
  have HK := Lib.hid hk
  have HBW := Lib.hid hbW
  clear h1 e1 e2 hk hbW
  generalize pouredR r i = l at *
  go_wp2
  refine leaves_one rfl ((NC.refl W).setCell _ _ _ _ HK.out rfl) (Nat.le_refl d) fun w' hb => ?_
  have hx := heap_setCell_row E1.out (n := 0) (.slice L l.length c)
  have e3 := hb.cell (cellOf hx 0 (v := .slice L l.length c) rfl)
  refine ⟨_, results37 e3 rfl rfl, L, c, rfl, ?_, ?_⟩
  ·exact ((E2.out.other (by show w.heap.size < w3.heap.size + 2; have := HB3.out.size; omega) _).data hb.data).mono (by have := HB3.out.size; omega)
  ·exact HB3.out.trans ((HBW.out.setCell (Nat.le_refl _) _).trans (hb.below.mono (by have := HB3.out.size; omega)))
 case hdone =>
  rintro d W hd hbW ⟨h1, h2⟩ hk
  rw [← poured_all fun k p hp => h2 k p (List.getElem?_eq_some_iff.1 hp).1 hp] at h1
  obtain ⟨L, c, e1, e2⟩ := h1.l
  have c0 := cellOf e1 0 (v := .slice L (pouredR r i).length c) rfl
  have f0 : W.frozen? ⟨w.heap.size, 0, none⟩ = false := by simp [World.frozen?, e1]
  have E1 := Lib.hid e1
  have E2 := Lib.hid e2
  have HK := Lib.hid hk
  have HBW := Lib.hid hbW
  clear h1 h2 e1 e2 hk hbW
  generalize pouredR r i = l at *
  simp only [Exit.inBlock, Exit.then]
  go_wp2
  refine leaves_one rfl ((NC.refl W).setCell _ _ _ _ HK.out rfl) (Nat.le_refl d) fun w' hb => ?_
  have hx := heap_setCell_row E1.out (n := 0) (.slice L l.length c)
  have e3 := hb.cell (cellOf hx 0 (v := .slice L l.length c) rfl)
  refine ⟨_, results37 e3 rfl rfl, L, c, rfl, ?_, ?_⟩
  ·exact ((E2.out.other (by show w.heap.size < w3.heap.size + 2; have := HB3.out.size; omega) _).data hb.data).mono (by have := HB3.out.size; omega)
  ·exact HB3.out.trans ((HBW.out.setCell (Nat.le_refl _) _).trans (hb.below.mono (by have := HB3.out.size; omega)))
 case hround =>
  rintro l q p W hp hbW ⟨h1, h2⟩ hl1 hl2
  generalize hT : Array.foldl _ _ _ = T
  simp at hT
  subst hT
  gi_wp2
  refine ⟨NC.refl _, fun W₂ hbk hsz => ?_⟩
  obtain ⟨p1, p2⟩ := p
  have q1 : p1 < r.length := (belL_at HG.out hi hp).1
  have hq9 := (belL_len HG.out hi).2
  have hql : q < (belL r i).length := (List.getElem?_eq_some_iff.1 hp).1
  have HPS := Lib.hid (ptsK_succ hp)
  have hpl := ptsK_len r i q
  have HP := Lib.hid hp
  have H2 := Lib.hid h2
  obtain ⟨L, c, e1, e2⟩ := h1.l
  have l4 := lt_of_block HK3.out
  have lx := lt_of_block HR3.out
  have lb := HL3.out.riv.lt
  have e1' := (hbk.below.block _ (by omega)).trans e1
  have x' := (hbk.below.block _ (by omega)).trans h1.x
  have r' : RivAt W₂ b (.slice A r.length cap) (dropP r r.length) := (hbk.below.block _ (by omega)).trans h1.riv
  have hbn : b ≠ w.heap.size := by have := hb; have := HB1.out.size; have := HZ1.out; omega
  obtain ⟨A2, c2, w5, hrun, ho5, hb5, hz5, hk5⟩ := append_intN (e2.data hbk.data) (p1 : Int) (by omega) (by omega)
  have e5 := (hb5.block _ (by omega)).trans e1'
  have q4 := cellOf e1' 0 (v := .slice L (ptsK r i q).length c) rfl
  have q5 := cellOf e5 0 (v := .slice L (ptsK r i q).length c) rfl
  have f5 : w5.frozen? ⟨w.heap.size, 0, none⟩ = false := by simp [World.frozen?, e5]
  obtain ⟨w6, hw6⟩ : ∃ w6, w6 = w5.setCell ⟨w.heap.size, 0, none⟩ (.slice A2 ((ptsK r i q).length + 1) c2) := ⟨_, rfl⟩
  have x6 : w6.heap[gx]? = some (.cells #[.pointer (some ⟨b, 0, none⟩)] 87) := by rw [hw6]; exact (Below.heap_setCell _ _ _ _ (by show gx ≠ w.heap.size; omega)).trans ((hb5.block _ (by omega)).trans x')
  have r6 : RivAt w6 b (.slice A r.length cap) (dropP r r.length) := by rw [hw6]; exact (Below.heap_setCell _ _ _ _ (by show b ≠ w.heap.size; exact hbn)).trans ((hb5.block _ (by omega)).trans r')
  have b6 : Below w.heap.size w3 w6 := by rw [hw6]; exact (hbW.trans ((hbk.below.mono (by omega)).trans (hb5.mono (by omega)))).setCell (Nat.le_refl _) _
  have g6 : w6.heap[w.heap.size]? = some (.cells #[.slice A2 ((ptsK r i q).length + 1) c2] 30) := by rw [hw6]; exact heap_setCell_row e5 _
  have o6 : Own (w3.heap.size + 2) 3 w6 (.slice A2 ((ptsK r i q).length + 1) c2) (ptsK r i q ++ [(p1 : Int)]) := by rw [hw6]; exact ho5.other (by show w.heap.size < w3.heap.size + 2; omega) _
  have n6 : NC W₂ w6 := by
   rw [hw6]
   exact (show NC W₂ w5 from fun b o ho hd => hk5 b o ho fun c f e => by subst e; cases hd).setCell _ _
  have k6 : w6.heap[w3.heap.size]? = W.heap[w3.heap.size]? ∧ w6.heap[w3.heap.size + 1]? = W.heap[w3.heap.size + 1]? := by
   rw [hw6]
   exact ⟨(Below.heap_setCell _ _ _ _ (by show w3.heap.size ≠ w.heap.size; omega)).trans ((hb5.block _ (by omega)).trans (hbk.below.block _ (by omega))),
    (Below.heap_setCell _ _ _ _ (by show w3.heap.size + 1 ≠ w.heap.size; omega)).trans ((hb5.block _ (by omega)).trans (hbk.below.block _ (by omega)))⟩
  have s6 : w3.heap.size + 2 ≤ w6.heap.size := by rw [hw6]; simp [World.setCell]; omega
  have y6 := cellOf x6 0 (v := .pointer (some ⟨b, 0, none⟩)) rfl
  have hpo : ∀ w7, Below w6.heap.size w6 w7 → PoI r i w.heap.size gx b w3.heap.size (.slice A r.length cap) (ptsK r i q ++ [(p1 : Int)]) w7 ∧ Below w.heap.size w3 w7 ∧ (w7.heap[w3.heap.size]? = W.heap[w3.heap.size]? ∧ w7.heap[w3.heap.size + 1]? = W.heap[w3.heap.size + 1]?) ∧ NC W₂ w7 := fun w7 h7 =>
   ⟨⟨⟨A2, c2, by simpa using (h7.block _ (lt_of_block g6)).trans g6, by simpa using o6.below h7⟩, (h7.block _ (lt_of_block x6)).trans x6, r6.below h7⟩, b6.trans (h7.mono (by have := HB3.out.size; omega)),
    ⟨(h7.block _ (by omega)).trans k6.1, (h7.block _ (by omega)).trans k6.2⟩, n6.of_below h7⟩
  have HPO := Lib.hid hpo
  have hrn := rruns_any (w := w6) ((HS0.out.below ((HB3.out.trans b6).mono hB))) r6 HG.out q1 (by have := HB3.out.size; omega)
  have HRN := Lib.hid hrn
  have HW6 := Lib.hid hw6
  rw [hw6] at y6
  clear h1 h2 e1 e2 e1' x' r' ho5 hb5 hz5 hk5 e5 x6 r6 b6 g6 o6 n6 k6 s6 hrn hpo hbk hbW hp hw6 hsz
  generalize ptsK r i q = l0 at *
  cases hrb : runsB r p1 with
  | true =>
   have HRB := Lib.hid hrb
   rw [hrb] at HRN
   clear hrb
   gi_wp2_with (first | (gi_at_builtin; refine wpListIn_append_run rfl _ _ _ rfl rfl rfl hrun ?_) | (rw [← HW6.out]; refine ⟨trivial, rfl, ?_⟩; gi_at_call 47; refine (callsIn_wide.2 HRN.out).mono ?_; rintro e w7 ⟨rfl, hb7⟩))
   obtain ⟨t1, t2, t3, t4⟩ := HPO.out _ hb7
   refine ⟨t4, ⟨t2, t3.1, t3.2⟩, by rw [HPS.out]; exact t1, fun k x hk hx => ?_⟩
   by_cases e : k < q
   ·exact H2.out k x e hx
   ·obtain rfl : k = q := by omega
    obtain rfl := Option.some.inj (HP.out.symm.trans hx)
    exact HRB.out
  | false =>
   have HRB := Lib.hid hrb
   rw [hrb] at HRN
   clear hrb
   gi_wp2_with (first | (gi_at_builtin; refine wpListIn_append_run rfl _ _ _ rfl rfl rfl hrun ?_) | (rw [← HW6.out]; refine ⟨trivial, rfl, ?_⟩; gi_at_call 47; refine (callsIn_wide.2 HRN.out).mono ?_; rintro e w7 ⟨rfl, hb7⟩))
   obtain ⟨t1, t2, t3, t4⟩ := HPO.out _ hb7
   have e : pouredR r i = l0 ++ [(p1 : Int)] := (pourL_stop HP.out (fun j x hj hx => H2.out j x hj hx) HRB.out).trans HPS.out
   exact ⟨t4, t2, rfl, by rw [e]; exact t1⟩
end Go.Proofs.YthnimhnlnddnoaaGreatDoor
namespace Go.Proofs.YthnimhnlnddnoaaGreatDoor
open Go.RowKit
def intsC (n : Nat) (F : Nat → Int) : Array Value := ((List.range n).map fun d => Value.int .i64 (F d)).toArray
def IArr (w : World) (g n : Nat) (F : Nat → Int) : Prop := w.heap[g]? = some (.cells (intsC n F) 3)
theorem IArr.cell {w : World} {g n : Nat} {F : Nat → Int} (h : IArr w g n F) {i : Nat} (hi : i < n) : w.cell? ⟨g, i, none⟩ = some (.int .i64 (F i)) :=
 cellOf h i (by simp [intsC, hi])
theorem IArr.frozen {w : World} {g n : Nat} {F : Nat → Int} (h : IArr w g n F) (i : Nat) : w.frozen? ⟨g, i, none⟩ = false := by
 unfold IArr at h
 simp [World.frozen?, h]
theorem intsC_set (n : Nat) (F : Nat → Int) (i : Nat) (v : Int) : (intsC n F).setIfInBounds i (.int .i64 v) = intsC n fun d => if d = i then v else F d := by
 unfold intsC
 apply Array.ext_getElem?
 intro j
 by_cases hj : j < n
 ·by_cases e : i = j
  ·subst e
   simp [hj]
  ·simp [hj, e, Ne.symm e]
 ·simp [hj]
theorem IArr.set_ {w : World} {g n : Nat} {F : Nat → Int} (h : IArr w g n F) (i : Nat) (v : Int) : IArr (w.setCell ⟨g, i, none⟩ (.int .i64 v)) g n fun d => if d = i then v else F d := by
 unfold IArr at h ⊢
 rw [← intsC_set]
 simp [World.setCell, Array.getElem?_modify, h]
theorem IArr.congr {w : World} {g n : Nat} {F G : Nat → Int} (h : IArr w g n F) (e : ∀ d, F d = G d) : IArr w g n G := by
 have : F = G := funext e
 rw [← this]
 exact h
theorem make_ints (n : Nat) (hn : n ≤ 1000) (w : World) : (Instr.makeSlice 30 (.int .i64 n) (.int .i64 n)).run Tryz.prog w = .ok (.slice (some ⟨w.heap.size, 0, none⟩) n n) (w.alloc (.cells (intsC n fun _ => 0) 3)) := by
 obtain ⟨i, hi, hi2⟩ := Option.map_eq_some_iff.1 (show (Tryz.prog.info? 3).map (fun i => (i.size, i.bytes, i.zero)) = some (1, 8, some (.int .i64 0)) by kernel_rfl)
 simp only [Prod.mk.injEq] at hi2
 obtain ⟨hsize, hby, hz⟩ := hi2
 have ht : Tryz.prog.underlying 30 = some (.slice 3) := by kernel_rfl
 have e : madeCells (Value.int .i64 0).cells n = intsC n fun _ => 0 := by
  apply Array.ext'
  rw [show (Value.int .i64 0).cells = #[.int .i64 0] from rfl, toList_madeCells_one]
  simp only [intsC]
  apply List.ext_getElem?
  intro j
  by_cases hj : j < n <;> simp [hj]
 have h := run_make (P := Tryz.prog) w 30 3 i (.int .i64 0) ht hi hz .i64 .i64 n n (by omega) (Int.le_refl _) (by rw [hby]; omega) (by omega)
 rw [hsize, Int.toNat_natCast, Nat.mul_one, e] at h
 exact h
end Go.Proofs.YthnimhnlnddnoaaGreatDoor
