/- Walks of the layer order: OrderFewer. -/
import Derived.Test.YtkmaapkbonkjfaaFewL
import Derived.Test.YtkmaapkbonkjfaaLawT
import Derived.Test.YtkmaapkbonkjfaaGRefB
set_option linter.unusedSimpArgs false
set_option linter.unusedVariables false
namespace Go.Proofs.Ytkmaapkbonkjfaa
open Go.RowKit

/-- a part more -/
theorem append_part {base : Nat} {w : World} {v : Value} {xs : List PartR} (h : Own base 57 w v xs) (x : PartR) (hn : xs.length ≤ 100000) (hbase : base ≤ w.heap.size) :
    ∃ A c w', (Builtin.append_ #[23, 23] 23 #[v, .slice (some ⟨w.heap.size, 0, none⟩) 1 1]).run Try.prog (w.alloc (.cells #[.string x.name, .int .i64 x.batch, .int .i64 x.long, .int .i64 x.stock] 57)) = .ok (.slice A (xs.length + 1) c) w' ∧ Own base 57 w' (.slice A (xs.length + 1) c) (xs ++ [x]) ∧
      Below base w w' ∧ base ≤ w'.heap.size ∧ xs.length + 1 ≤ c ∧ c ≤ 9223372036854775807 :=
  append_one (bytes := 40) (by kernel_rfl) (by kernel_rfl) (by omega) (by omega) (by simp [Enc.enc]; intros; refine ⟨?_, ?_, ?_, ?_⟩ <;> rfl) h x hn hbase rfl

theorem ask5i {X : World} {base B g n co : Nat} {Ao : Option Addr} {ys : List Int} (hro : Rd IntAt 1 B X (.slice Ao n co) ys) (hn : n = ys.length) (hB : base ≤ X.heap.size) (hg : X.heap[g]? = some (.cells #[] 3)) (hge : base ≤ g) (hl : ys.length ≤ 100) :
    ∃ v' w', (Builtin.append_ #[22, 22] 22 #[.slice (some ⟨g, 0, none⟩) 0 0, .slice Ao n co]).run Try.prog X = .ok v' w' ∧ ∃ A c, v' = .slice A n c ∧ Own base 3 w' (.slice A n c) ys ∧ Below base X w' := by
  subst hn
  obtain ⟨A, c, w', h1, h2, h3, _⟩ := append_ints_at (own_empty_at (base := base) hg hge) hro (by simp; omega) hB
  simp only [List.length_nil, Nat.zero_add, List.nil_append] at h1 h2
  exact ⟨_, w', h1, A, c, rfl, h2, h3⟩
theorem ask6i {X : World} {base B n m c0 c1 : Nat} {A0 A1 : Option Addr} {xs ys : List Int} (hown : Own base 3 X (.slice A0 n c0) xs) (hn : n = xs.length) (hro : Rd IntAt 1 B X (.slice A1 m c1) ys) (hm : m = ys.length) (hB : base ≤ X.heap.size) (hl : xs.length + ys.length ≤ 100) :
    ∃ v' w', (Builtin.append_ #[22, 22] 22 #[.slice A0 n c0, .slice A1 m c1]).run Try.prog X = .ok v' w' ∧ ∃ A c, v' = .slice A (n + m) c ∧ Own base 3 w' (.slice A (n + m) c) (xs ++ ys) ∧ Below base X w' := by
  subst hn hm
  obtain ⟨A, c, w', h1, h2, h3, _⟩ := append_ints_at hown hro (by omega) hB
  exact ⟨_, w', h1, A, c, rfl, h2, h3⟩
/-- what holds within the statement that leaves one order out -/
structure FwI (W : World) (n1 n2 : Nat) (xs ys : List Int) (val : Nat → Value) (L : Nat → Bool) (vs : Nat → Value) (X : World) : Prop where
  bel : Below W.heap.size W X
  rd : ∀ k, (k ≠ 0 ∧ k ≠ 4 ∧ k ≠ 9 ∧ k ≠ 10) → L k = true → vs k = val k
  f0 : L 0 = true → L 4 = false → ∃ g, W.heap.size ≤ g ∧ vs 0 = .slice (some ⟨g, 0, none⟩) 0 0 ∧ X.heap[g]? = some (.cells #[] 3)
  f4 : L 4 = true → L 9 = false → ∃ A c, vs 4 = .slice A n1 c ∧ Own W.heap.size 3 X (.slice A n1 c) xs
  f9 : L 9 = true → ∃ A c, vs 9 = .slice A (n1 + n2) c ∧ Own W.heap.size 3 X (.slice A (n1 + n2) c) (xs ++ ys)
  f10 : L 10 = true → vs 10 = vs 9
/-- what holds while an order is copied -/
structure FlI (U : World) (val : Nat → Value) (cs : Array Value) (L : Nat → Bool) (vs : Nat → Value) (X : World) : Prop where
  bel : Below U.heap.size U X
  rd : ∀ k, (k ≠ 8 ∧ k ≠ 9) → L k = true → vs k = val k
  f8 : L 8 = true → L 9 = false → ∃ g, U.heap.size ≤ g ∧ vs 8 = .pointer (some ⟨g, 0, none⟩) ∧ X.heap[g]? = some (.cells #[.int .i64 0, .int .i64 0, .int .i64 0, .int .i64 0] 60)
  f9 : L 9 = true → ∃ g, U.heap.size ≤ g ∧ vs 8 = .pointer (some ⟨g, 0, none⟩) ∧ X.heap[g]? = some (.cells cs 60)
theorem flat_ord : ∀ (xs : List OrdR) (k : Nat) (o : OrdR), k < xs.length → ((((xs.flatMap (Enc.enc (α := OrdR))).set (k * 4) (.int .i64 o.part)).set (k * 4 + 1) (.int .i64 o.many)).set (k * 4 + 2) (.int .i64 o.due)).set (k * 4 + 3) (.int .i64 o.worth) = (xs.set k o).flatMap Enc.enc := by
  intro xs
  induction xs with
  | nil => intro k o h; simp at h
  | cons x r ih =>
    intro k o h
    cases k with
    | zero => simp [Enc.enc]
    | succ k =>
      have := ih k o (by simpa using h)
      rw [List.flatMap_cons, show (k + 1) * 4 = k * 4 + 1 + 1 + 1 + 1 by omega, show k * 4 + 1 + 1 + 1 + 1 + 1 = (k * 4 + 1) + 1 + 1 + 1 + 1 by omega, show k * 4 + 1 + 1 + 1 + 1 + 2 = (k * 4 + 2) + 1 + 1 + 1 + 1 by omega, show k * 4 + 1 + 1 + 1 + 1 + 3 = (k * 4 + 3) + 1 + 1 + 1 + 1 by omega]
      simp only [Enc.enc, List.cons_append, List.nil_append, List.set_cons_succ, List.flatMap_cons] at this ⊢
      rw [this]
/-- an order of the call's own, written anew -/
theorem Own.putOrd {base : Nat} {w : World} {A : Option Addr} {m c : Nat} {xs : List OrdR} (h : Own base 60 w (.slice A m c) xs) {k : Nat} (hk : k < xs.length) (o : OrdR) :
    ∃ g, A = some ⟨g, 0, none⟩ ∧ base ≤ g ∧ g < w.heap.size ∧ (∀ i, i < 4 → ∃ u, w.cell? ⟨g, k * 4 + i, none⟩ = some u) ∧ (∀ i, w.frozen? ⟨g, i, none⟩ = false) ∧
      Own base 60 ((((w.setCell ⟨g, k * 4, none⟩ (.int .i64 o.part)).setCell ⟨g, k * 4 + 1, none⟩ (.int .i64 o.many)).setCell ⟨g, k * 4 + 2, none⟩ (.int .i64 o.due)).setCell ⟨g, k * 4 + 3, none⟩ (.int .i64 o.worth)) (.slice A m c) (xs.set k o) := by
  have h0 := h
  rcases h with ⟨hl, ⟨_, h0⟩ | ⟨g, cap, cur, hv, hb, hh, hn, hc, hsz, hx⟩⟩
  · omega
  · injection hv with e1 e2 e3
    subst e1 e2 e3
    have hcell : ∀ i, i < 4 → ∃ u, w.cell? ⟨g, k * 4 + i, none⟩ = some u := fun i hi => by
      have hlt : k * 4 + i < xs.length * 4 := by omega
      have hcell := World.ownsRow.cellAt h0 (k * 4 + i) hlt
      have hfl : k * 4 + i < (xs.flatMap (Enc.enc (α := OrdR))).length := by rw [flat_len]; exact hlt
      exact ⟨_, hcell.trans (List.getElem?_eq_getElem hfl)⟩
    refine ⟨g, rfl, hb, lt_of_block hh, hcell, fun i => World.ownsRow.frozenAt h0 _, ?_⟩
    have j1 := (World.ownsRow.stored h0 (k * 4) (.int .i64 o.part)).1
    have j2 := (World.ownsRow.stored j1 (k * 4 + 1) (.int .i64 o.many)).1
    have j3 := (World.ownsRow.stored j2 (k * 4 + 2) (.int .i64 o.due)).1
    have j4 := (World.ownsRow.stored j3 (k * 4 + 3) (.int .i64 o.worth)).1
    unfold Own
    rw [← flat_ord xs k o hk, List.length_set]
    exact j4
/-- the easier shop, while its hours are made -/
structure EaH (w3 : World) (eb : Nat) (vo : Value) (hs : List Int) (X : World) : Prop where
  bel : Below eb w3 X
  lt : eb < X.heap.size
  own : ∃ A c, X.heap[eb]? = some (.cells #[.slice A hs.length c, .slice none 0 0, vo] 26) ∧ Own (eb + 1) 3 X (.slice A hs.length c) hs
theorem rd_step {P : Nat → Prop} {val vs : Nat → Value} {L : Nat → Bool} (h : ∀ k, P k → L k = true → vs k = val k) {i : Nat} {v : Value} (hv : P i → v = val i) : ∀ k, P k → updB L i k = true → updV vs i v k = val k := by
  intro k hk hu
  by_cases e : k = i
  · subst e; rw [updV_self]; exact hv hk
  · rw [updV_other _ _ e]; exact h k hk (by rwa [updB_other _ e] at hu)
/-- what holds within one round of the hours -/
structure HrI (w3 : World) (eb : Nat) (A : Option Addr) (c : Nat) (vo : Value) (xs : List Int) (m : Int) (val : Nat → Value) (L : Nat → Bool) (vs : Nat → Value) (X : World) : Prop where
  bel : Below eb w3 X
  lt : eb < X.heap.size
  rd : ∀ k, (k ≠ 13 ∧ k ≠ 14) → L k = true → vs k = val k
  blk : L 16 = false → X.heap[eb]? = some (.cells #[.slice A xs.length c, .slice none 0 0, vo] 26)
  own : L 14 = false → Own (eb + 1) 3 X (.slice A xs.length c) xs
  f13 : L 13 = true → L 14 = false → ∃ g, vs 13 = .slice (some ⟨g, 0, none⟩) 1 1 ∧ X.heap[g]? = some (.cells #[.int .i64 m] 3)
  f14 : L 14 = true → ∃ A' c', vs 14 = .slice A' (xs.length + 1) c' ∧ Own (eb + 1) 3 X (.slice A' (xs.length + 1) c') (xs ++ [m]) ∧ (L 16 = true → X.heap[eb]? = some (.cells #[.slice A' (xs.length + 1) c', .slice none 0 0, vo] 26))

/-- the easier shop, while its parts are made -/
structure EaP (w3 wd : World) (eb : Nat) (vh vo : Value) (ps : List PartR) (X : World) : Prop where
  bel : Below eb w3 X
  lt : eb < X.heap.size
  sz : wd.heap.size ≤ X.heap.size
  same : ∀ b, b < wd.heap.size → b ≠ eb → X.heap[b]? = wd.heap[b]?
  own : ∃ A c, X.heap[eb]? = some (.cells #[vh, .slice A ps.length c, vo] 26) ∧ Own wd.heap.size 57 X (.slice A ps.length c) ps

set_option maxRecDepth 100000 in
set_option maxHeartbeats 4000000 in
theorem fewer_walk {B : Nat} {w : World} {v : Value} {s : ShopR} (hs : RdShop B w v s) (hn : ∀ p ∈ s.parts, p.name.size ≤ 9223372036854775807) (hB : B ≤ w.heap.size) (x a b c e f g i : Nat) (hx : x < 256) (hbd : a < 256 ∧ b < 256 ∧ c < 256 ∧ e < 256 ∧ f < 256 ∧ g < 256 ∧ i < 256) :
    Calls Try.prog 13 #[v, .int .u8 x, .agg #[.int .u8 a, .int .u8 b, .int .u8 c, .int .u8 e, .int .u8 f, .int .u8 g, .int .u8 i]] w fun e w' => e = .returned (.bool true) ∧ Below w.heap.size w w' := by
  obtain ⟨vh, vp, vo, rfl, ⟨Ah, ch, rfl, _⟩, ⟨Ap, cp, rfl, _⟩, ⟨Ao, co, rfl, _⟩⟩ := id hs
  obtain ⟨xv, hxv⟩ : ∃ xv : Array Value, xv = #[.int .u8 a, .int .u8 b, .int .u8 c, .int .u8 e, .int .u8 f, .int .u8 g, .int .u8 i] := ⟨_, rfl⟩
  obtain ⟨W, hW⟩ : ∃ W, W = (w.alloc (.cells #[.slice Ah s.hours.length ch, .slice Ap s.parts.length cp, .slice Ao s.orders.length co] 26)).alloc (.cells #[.int .u8 a, .int .u8 b, .int .u8 c, .int .u8 e, .int .u8 f, .int .u8 g, .int .u8 i] 71) := ⟨_, rfl⟩
  have HS := Lib.hid ((ShS.start hs hn hB).next ((Below.refl _ _).alloc (Nat.le_refl _) (.cells #[.int .u8 a, .int .u8 b, .int .u8 c, .int .u8 e, .int .u8 f, .int .u8 g, .int .u8 i] 71)))
  rw [← hW] at HS
  have T1 : W.heap[w.heap.size + 1]? = some (.cells xv 71) := by
    rw [hW, hxv]
    have := heap_alloc_new (w.alloc (.cells #[.slice Ah s.hours.length ch, .slice Ap s.parts.length cp, .slice Ao s.orders.length co] 26)) (.cells #[.int .u8 a, .int .u8 b, .int .u8 c, .int .u8 e, .int .u8 f, .int .u8 g, .int .u8 i] 71)
    rwa [World.size_alloc] at this
  have T1 := Lib.hid T1
  have Hbd := Lib.hid hbd
  have Hxv := Lib.hid hxv
  clear hs hn hB hbd hxv
  go_enter Try.func13, Try.ntmps13
  go_upto_region 1 with (fail)
  rw [← hW]
  clear hW
  obtain ⟨c0, c1, c2⟩ := HS.out.cells
  by_cases he : errOf s = 0
  · have heb : (errOf s == 0) = true := by simpa using he
    have hg := good_of_valid he
    have He := Lib.hid he
    clear he
    go_upto_region 3 with (go_at_call 36; refine (valid_any HS.out.shop HS.out.nm HS.out.hB).mono ?_; rintro e w1 ⟨rfl, hb⟩; have HS := Lib.hid (HS.out.next hb); obtain ⟨c0, c1, c2⟩ := HS.out.cells; have T1 := Lib.hid ((hb.block _ (lt_of_block T1.out)).trans T1.out); clear hb)
    go_upto_region 4 with (go_at_call 37; refine (chosen_any HS.out.shop HS.out.hB x hx).mono ?_; rintro e w2 ⟨A1, n1, rfl, hr, hb⟩; have HS := Lib.hid (HS.out.next hb); obtain ⟨c0, c1, c2⟩ := HS.out.cells; have HT := Lib.hid hr; have T1 := Lib.hid ((hb.block _ (lt_of_block T1.out)).trans T1.out); clear hb hr)
    have Htl := Lib.hid (upTo_short x s.orders.length hx)
    have Hup : Hid (∃ xs : List Nat, upTo x s.orders.length = xs.map Int.ofNat ∧ Rise s.orders.length xs) := Lib.hid ⟨_, rfl, rise_range s.orders.length fun i => x.testBit i⟩
    generalize upTo x s.orders.length = t at *
    obtain ⟨xs, hxs, hri⟩ := Hup.out
    have hte : takenErr s t = 0 := by rw [hxs]; exact taken_rise He.out hri
    have Ht := Lib.hid hxs
    have Hri := Lib.hid hri
    have HC1 := Lib.hid (canV_of hte)
    have Hte := Lib.hid hte
    obtain ⟨is1, his⟩ : ∃ b, canB s (ofL s t) = b := ⟨_, rfl⟩
    rw [his] at HC1
    have His := Lib.hid his
    clear hte his hxs hri Hup
    go_upto_region 5 with (go_at_call 38; refine (lcan_any (HS.out.given HT.out)).mono ?_; rw [HC1.out]; rintro e w3 ⟨rfl, hb⟩; have HS := Lib.hid (HS.out.next hb); obtain ⟨c0, c1, c2⟩ := HS.out.cells; have HT := Lib.hid ((HT.out.below hb).mono hb.size); have T1 := Lib.hid ((hb.block _ (lt_of_block T1.out)).trans T1.out); clear hb)
    go_upto_region 6 with (fail)
    obtain ⟨W4, hW4, r4, z4, b4⟩ := box_any w3 #[.slice Ah s.hours.length ch, .slice Ap s.parts.length cp, .slice Ao s.orders.length co] 26
    rw [← hW4]
    have y0 := cellOf r4 0 (v := .slice Ah s.hours.length ch) rfl
    have y1 := cellOf r4 1 (v := .slice Ap s.parts.length cp) rfl
    have f0 : W4.frozen? ⟨w3.heap.size, 0, none⟩ = false := by simp [World.frozen?, r4]
    have f1 : W4.frozen? ⟨w3.heap.size, 1, none⟩ = false := by simp [World.frozen?, r4]
    have R4 := Lib.hid r4
    have Z4 := Lib.hid z4
    have B4 := Lib.hid b4
    clear hW4 r4 z4 b4 c0 c1 c2
    have hE0 : EaH w3 w3.heap.size (.slice Ao s.orders.length co) [] ((W4.setCell ⟨w3.heap.size, 0, none⟩ (.slice none 0 0)).setCell ⟨w3.heap.size, 1, none⟩ (.slice none 0 0)) := by
      have k1 := heap_setCell_same W4 _ 0 _ _ (.slice none 0 0) R4.out
      have k2 := heap_setCell_same _ _ 1 _ _ (.slice none 0 0) k1
      exact ⟨(B4.out.setCell (Nat.le_refl _) _).setCell (Nat.le_refl _) _, lt_of_block k2, none, 0, k2, Own.nil _ _ _⟩
    have HE0 := Lib.hid hE0
    clear hE0
    go_upto_region 7 with (fail)
    clear y0 y1 f0 f1
    generalize (W4.setCell ⟨w3.heap.size, 0, none⟩ (.slice none 0 0)).setCell ⟨w3.heap.size, 1, none⟩ (.slice none 0 0) = W6 at *
    clear R4 Z4 B4
    have Hg := Lib.hid hg
    have Hno := Lib.hid hg.olen
    clear hg
    obtain ⟨he', hhe⟩ : ∃ l : List Int, l = s.hours.map fun x => min 24 (x + ((e : Int) % 4)) := ⟨_, rfl⟩
    have Hhe := Lib.hid hhe
    have hhl : he'.length = s.hours.length := by rw [hhe, List.length_map]
    have Hhl := Lib.hid hhl
    have Hhat : Hid (∀ d, d < s.hours.length → he'[d]?.getD 0 = min 24 (s.hours[d]?.getD 0 + ((e : Int) % 4)) ∧ 0 ≤ s.hours[d]?.getD 0 ∧ s.hours[d]?.getD 0 ≤ 24) := Lib.hid fun d hd => by
      have hh := Hg.out.hours _ (List.getElem_mem hd)
      rw [hhe, List.getElem?_map, List.getElem?_eq_getElem hd]
      exact ⟨rfl, hh⟩
    clear hhe hhl
    go_wp2
    go_loopw [11] (fun iv wr => ∃ d : Nat, d ≤ s.hours.length ∧ iv = .int .i64 d ∧ EaH w3 w3.heap.size (.slice Ao s.orders.length co) (he'.take d) wr) (fun iv _ => s.hours.length - (intOf iv).toNat)
    case atStart => exact ⟨0, Nat.zero_le _, rfl, HE0.out⟩
    case round =>
      obtain ⟨d, hd, rfl, hea⟩ := hrel
      have HR := Lib.hid (HS.out.next hea.bel)
      have HEa := Lib.hid hea
      clear hea
      obtain ⟨c0, c1, c2⟩ := HR.out.cells
      by_cases hlt : d < s.hours.length
      · obtain ⟨A, cA, hblk, hown⟩ := HEa.out.own
        have hxl : (he'.take d).length = d := by rw [List.length_take, Hhl.out]; omega
        obtain ⟨vh', vp', vo', hv, hh, _, _⟩ := id HS.out.shop
        cases hv
        obtain ⟨ah, rfl, _, d0⟩ := hh.int hlt
        have D0 := Lib.hid d0
        clear hh d0
        obtain ⟨hm1, hm2, hm3⟩ := Hhat.out d hlt
        obtain ⟨h, hh⟩ : ∃ h, s.hours[d]?.getD 0 = h := ⟨_, rfl⟩
        rw [hh] at D0 hm1 hm2 hm3
        obtain ⟨m, hm⟩ : ∃ m, he'[d]?.getD 0 = m := ⟨_, rfl⟩
        rw [hm] at hm1
        have hh := Lib.hid hh
        have Hm := Lib.hid hm
        have X3 := Lib.hid (cellOf T1.out 3 (v := .int .u8 e) (by rw [Hxv.out]; rfl))
        obtain ⟨C0, _, _⟩ := HS.out.cells
        have C0 := Lib.hid C0
        have hu4 : 0 ≤ (e : Int) % 4 ∧ (e : Int) % 4 < 4 := ⟨by omega, by omega⟩
        have hd20 : d ≤ 20 := by have := Hg.out.hlen; omega
        have Hw1 : Hid (IntKind.i64.wrap (e : Int) = e) := Lib.hid (IntWalk.i64_in _ (by have := Hbd.out; omega))
        have Hw2 : Hid ((e : Int).tmod 4 = (e : Int) % 4) := Lib.hid (Int.tmod_eq_emod_of_nonneg (by omega))
        have Hw3 : Hid (IntKind.i64.wrap (h + (e : Int) % 4) = h + (e : Int) % 4) := Lib.hid (IntWalk.i64_in _ (by omega))
        have Hw4 : Hid ((if h + (e : Int) % 4 < 24 then h + (e : Int) % 4 else 24) = m) := Lib.hid (by rw [hm1]; omega)
        clear hm hm1 hm2 hm3 hu4
        go_upto_region 10 with (fail)
        refine wp_region_ghost (HrI w3 w3.heap.size A cA (.slice Ao s.orders.length co) (he'.take d) m (fun k => ([.pointer (some ⟨w3.heap.size, 0, none⟩), .slice A (he'.take d).length cA, .pointer (some ⟨w.heap.size, 0, none⟩), .slice (some ah) s.hours.length ch, .int .i64 d, .pointer (some (ah.add d)), .int .i64 h, .pointer (some ⟨w.heap.size + 1, 3, none⟩), .int .u8 e, .int .i64 e, .int .i64 ((e : Int) % 4), .int .i64 (h + ((e : Int) % 4)), .int .i64 m, undef, undef, .pointer (some ⟨w3.heap.size, 0, none⟩), undef] : List Value).getD k undef)) (by kernel_rfl) (by kernel_rfl) ?_ ?_ ?_
        · exact ⟨HEa.out.bel.drew, by simpa using HEa.out.lt, fun _ _ h => (by cases h), fun _ => hblk, fun _ => hown.qt ⟨1, rfl⟩, fun h => (by cases h), fun h => (by cases h)⟩
        · refine ⟨?_, ?_, ?_, ?_, ?_, ?_, ?_, ?_, ?_, ?_, ?_, ?_, ?_, ?_, ?_, ?_, ?_, trivial⟩
          all_goals
            intro L vs X b hL hw hcl hI hf
          · have e10 := hf.old 10 (by kernel_rfl)
            refine wp_of_run (v := .pointer (some ⟨w3.heap.size, 0, none⟩)) (w' := X) (by unfold execOp; go_simp) ?_
            exact ⟨hI.bel, hI.lt, rd_step hI.rd (fun _ => rfl), hI.blk, hI.own, hI.f13, hI.f14⟩
          · have h0 : L 0 = true := done_of hw 0 (by kernel_rfl)
            have e53 : b.tmps[53]?.getD undef = .pointer (some ⟨w3.heap.size, 0, none⟩) := (hf.new 0 53 rfl h0 (by simp)).trans (hI.rd 0 (by decide) h0)
            have a0 := cellOf (hI.blk (not_yet hcl 16 (not_yet hcl 14 hL rfl (by kernel_rfl)) rfl (by kernel_rfl))) 0 (v := .slice A (he'.take d).length cA) rfl
            refine wp_of_run (v := .slice A (he'.take d).length cA) (w' := X) (by unfold execOp; go_simp) ?_
            exact ⟨hI.bel, hI.lt, rd_step hI.rd (fun _ => rfl), hI.blk, hI.own, hI.f13, hI.f14⟩
          · have e3 := hf.old 3 (by kernel_rfl)
            refine wp_of_run (v := .pointer (some ⟨w.heap.size, 0, none⟩)) (w' := X) (by unfold execOp; go_simp) ?_
            exact ⟨hI.bel, hI.lt, rd_step hI.rd (fun _ => rfl), hI.blk, hI.own, hI.f13, hI.f14⟩
          · have h2 : L 2 = true := done_of hw 2 (by kernel_rfl)
            have e55 : b.tmps[55]?.getD undef = .pointer (some ⟨w.heap.size, 0, none⟩) := (hf.new 2 55 rfl h2 (by simp)).trans (hI.rd 2 (by decide) h2)
            have a0 := (hI.bel.cell (cell_lt C0.out)).trans C0.out
            refine wp_of_run (v := .slice (some ah) s.hours.length ch) (w' := X) (by unfold execOp; go_simp) ?_
            exact ⟨hI.bel, hI.lt, rd_step hI.rd (fun _ => rfl), hI.blk, hI.own, hI.f13, hI.f14⟩
          · have e11 := hf.old 11 (by kernel_rfl)
            refine wp_of_run (v := .int .i64 d) (w' := X) (by unfold execOp; go_simp) ?_
            exact ⟨hI.bel, hI.lt, rd_step hI.rd (fun _ => rfl), hI.blk, hI.own, hI.f13, hI.f14⟩
          · have h3 : L 3 = true := done_of hw 3 (by kernel_rfl)
            have e56 : b.tmps[56]?.getD undef = .slice (some ah) s.hours.length ch := (hf.new 3 56 rfl h3 (by simp)).trans (hI.rd 3 (by decide) h3)
            have h4 : L 4 = true := done_of hw 4 (by kernel_rfl)
            have e57 : b.tmps[57]?.getD undef = .int .i64 d := (hf.new 4 57 rfl h4 (by simp)).trans (hI.rd 4 (by decide) h4)
            refine wp_of_run (v := .pointer (some (ah.add d))) (w' := X) (by unfold execOp; go_simp) ?_
            exact ⟨hI.bel, hI.lt, rd_step hI.rd (fun _ => rfl), hI.blk, hI.own, hI.f13, hI.f14⟩
          · have h5 : L 5 = true := done_of hw 5 (by kernel_rfl)
            have e58 : b.tmps[58]?.getD undef = .pointer (some (ah.add d)) := (hf.new 5 58 rfl h5 (by simp)).trans (hI.rd 5 (by decide) h5)
            have a0 := (hI.bel.cell (cell_lt D0.out)).trans D0.out
            refine wp_of_run (v := .int .i64 h) (w' := X) (by unfold execOp; go_simp) ?_
            exact ⟨hI.bel, hI.lt, rd_step hI.rd (fun _ => rfl), hI.blk, hI.own, hI.f13, hI.f14⟩
          · have e5 := hf.old 5 (by kernel_rfl)
            refine wp_of_run (v := .pointer (some ⟨w.heap.size + 1, 3, none⟩)) (w' := X) (by unfold execOp; go_simp) ?_
            exact ⟨hI.bel, hI.lt, rd_step hI.rd (fun _ => rfl), hI.blk, hI.own, hI.f13, hI.f14⟩
          · have h7 : L 7 = true := done_of hw 7 (by kernel_rfl)
            have e60 : b.tmps[60]?.getD undef = .pointer (some ⟨w.heap.size + 1, 3, none⟩) := (hf.new 7 60 rfl h7 (by simp)).trans (hI.rd 7 (by decide) h7)
            have a0 := (hI.bel.cell (cell_lt X3.out)).trans X3.out
            refine wp_of_run (v := .int .u8 e) (w' := X) (by unfold execOp; go_simp) ?_
            exact ⟨hI.bel, hI.lt, rd_step hI.rd (fun _ => rfl), hI.blk, hI.own, hI.f13, hI.f14⟩
          · have h8 : L 8 = true := done_of hw 8 (by kernel_rfl)
            have e61 : b.tmps[61]?.getD undef = .int .u8 e := (hf.new 8 61 rfl h8 (by simp)).trans (hI.rd 8 (by decide) h8)
            have a0 := Hw1.out
            refine wp_of_run (v := .int .i64 e) (w' := X) (by unfold execOp; go_simp) ?_
            exact ⟨hI.bel, hI.lt, rd_step hI.rd (fun _ => rfl), hI.blk, hI.own, hI.f13, hI.f14⟩
          · have h9 : L 9 = true := done_of hw 9 (by kernel_rfl)
            have e62 : b.tmps[62]?.getD undef = .int .i64 e := (hf.new 9 62 rfl h9 (by simp)).trans (hI.rd 9 (by decide) h9)
            have a0 := Hw2.out
            refine wp_of_run (v := .int .i64 ((e : Int) % 4)) (w' := X) (by unfold execOp; go_simp) ?_
            exact ⟨hI.bel, hI.lt, rd_step hI.rd (fun _ => rfl), hI.blk, hI.own, hI.f13, hI.f14⟩
          · have h6 : L 6 = true := done_of hw 6 (by kernel_rfl)
            have e59 : b.tmps[59]?.getD undef = .int .i64 h := (hf.new 6 59 rfl h6 (by simp)).trans (hI.rd 6 (by decide) h6)
            have h10 : L 10 = true := done_of hw 10 (by kernel_rfl)
            have e63 : b.tmps[63]?.getD undef = .int .i64 ((e : Int) % 4) := (hf.new 10 63 rfl h10 (by simp)).trans (hI.rd 10 (by decide) h10)
            have a0 := Hw3.out
            refine wp_of_run (v := .int .i64 (h + ((e : Int) % 4))) (w' := X) (by unfold execOp; go_simp) ?_
            exact ⟨hI.bel, hI.lt, rd_step hI.rd (fun _ => rfl), hI.blk, hI.own, hI.f13, hI.f14⟩
          · have h11 : L 11 = true := done_of hw 11 (by kernel_rfl)
            have e64 : b.tmps[64]?.getD undef = .int .i64 (h + ((e : Int) % 4)) := (hf.new 11 64 rfl h11 (by simp)).trans (hI.rd 11 (by decide) h11)
            have a0 := Hw4.out
            refine wp_of_run (v := .int .i64 m) (w' := X) (by unfold execOp; go_simp) ?_
            exact ⟨hI.bel, hI.lt, rd_step hI.rd (fun _ => rfl), hI.blk, hI.own, hI.f13, hI.f14⟩
          · have n14 : L 14 = false := not_yet hcl 14 hL rfl (by kernel_rfl)
            have h12 : L 12 = true := done_of hw 12 (by kernel_rfl)
            have e65 : b.tmps[65]?.getD undef = .int .i64 m := (hf.new 12 65 rfl h12 (by simp)).trans (hI.rd 12 (by decide) h12)
            refine wp_of_run (v := .slice (some ⟨X.heap.size, 0, none⟩) 1 1) (w' := X.alloc (.cells #[.int .i64 m] 3)) (by unfold execOp; go_simp) ?_
            have hk : ∀ {o}, X.heap[w3.heap.size]? = some o → (X.alloc (.cells #[.int .i64 m] 3)).heap[w3.heap.size]? = some o := fun h => (Below.heap_alloc _ _ _ (lt_of_block h)).trans h
            exact ⟨hI.bel.alloc (by have := hI.bel.size; omega) _, by have := hI.lt; simp; omega, rd_step hI.rd (fun h => absurd rfl h.1), fun h => hk (hI.blk h), fun h => (hI.own h).alloc _, fun _ _ => ⟨_, rfl, heap_alloc_new _ _⟩, fun h => absurd (n14.symm.trans h) (by simp)⟩
          · have n16 : L 16 = false := not_yet hcl 16 hL rfl (by kernel_rfl)
            have h1 : L 1 = true := done_of hw 1 (by kernel_rfl)
            have h13 : L 13 = true := done_of hw 13 (by kernel_rfl)
            have e54 : b.tmps[54]?.getD undef = .slice A (he'.take d).length cA := (hf.new 1 54 rfl h1 (by simp)).trans (hI.rd 1 (by decide) h1)
            obtain ⟨g, k1, k2⟩ := hI.f13 h13 hL
            have e66 := (hf.new 13 66 rfl h13 (by simp)).trans k1
            obtain ⟨v', w', hrun, A2, c2, rfl, hown2, hb2⟩ := ask4 hI.lt (hI.own hL) k2 (by rw [hxl]; omega)
            refine wp_append_run (.tmp 54) (.tmp 66) 22 rfl (by unfold Act.eval; simpa using e54) (by unfold Act.eval; simpa using e66) hrun ⟨_, rfl, ?_⟩
            have hbk := (hb2.block _ (Nat.lt_succ_self _)).trans (hI.blk n16)
            exact ⟨hI.bel.trans (hb2.mono (Nat.le_succ _)), lt_of_block hbk, rd_step hI.rd (fun h => absurd rfl h.2), fun _ => hbk, fun h => (by cases h), fun _ h => (by cases h), fun _ => ⟨A2, c2, rfl, hown2, fun h => absurd (n16.symm.trans h) (by simp)⟩⟩
          · have e10 := hf.old 10 (by kernel_rfl)
            refine wp_of_run (v := .pointer (some ⟨w3.heap.size, 0, none⟩)) (w' := X) (by unfold execOp; go_simp) ?_
            exact ⟨hI.bel, hI.lt, rd_step hI.rd (fun _ => rfl), hI.blk, hI.own, hI.f13, hI.f14⟩
          · have h14 : L 14 = true := done_of hw 14 (by kernel_rfl)
            have h15 : L 15 = true := done_of hw 15 (by kernel_rfl)
            have e68 : b.tmps[68]?.getD undef = .pointer (some ⟨w3.heap.size, 0, none⟩) := (hf.new 15 68 rfl h15 (by simp)).trans (hI.rd 15 (by decide) h15)
            obtain ⟨A2, c2, k1, k2, _⟩ := hI.f14 h14
            have e67 := (hf.new 14 67 rfl h14 (by simp)).trans k1
            have hbk := hI.blk hL
            have a0 := cellOf hbk 0 (v := .slice A (he'.take d).length cA) rfl
            have a1 : X.frozen? ⟨w3.heap.size, 0, none⟩ = false := by simp [World.frozen?, hbk]
            have a2 := heap_setCell_same X _ 0 _ _ (.slice A2 ((he'.take d).length + 1) c2) hbk
            refine wp_of_skip (w' := X.setCell ⟨w3.heap.size, 0, none⟩ (.slice A2 ((he'.take d).length + 1) c2)) (by unfold execOp; go_simp) ?_
            exact ⟨hI.bel.setCell (Nat.le_refl _) _, lt_of_block a2, rd_step hI.rd (fun _ => rfl), fun h => (by cases h), fun h => absurd (h14.symm.trans h) (by simp), fun _ h => absurd (h14.symm.trans h) (by simp), fun _ => ⟨A2, c2, k1, k2.other (Nat.lt_succ_self _) _, fun _ => a2⟩⟩
        · intro vs X hI
          obtain ⟨A2, c2, k1, k2, k3⟩ := hI.f14 rfl
          simp [fill, slotOf, Act.put, k1]
          simp only [Exit.inBlock, Exit.then]
          have hfin : EaH w3 w3.heap.size (.slice Ao s.orders.length co) (he'.take (d + 1)) X := by
            have e1 : he'.take (d + 1) = he'.take d ++ [m] := by
              have hdl : d < he'.length := by rw [Hhl.out]; exact hlt
              rw [List.take_add_one, List.getElem?_eq_getElem hdl, Option.toList_some]
              have := Hm.out
              rw [List.getElem?_eq_getElem hdl] at this
              rw [show he'[d] = m from this]
            rw [e1]
            have e2 : (he'.take d ++ [m]).length = (he'.take d).length + 1 := by simp
            refine ⟨hI.bel, hI.lt, A2, c2, ?_, ?_⟩
            · rw [e2]; exact k3 rfl
            · rw [e2]; exact k2
          have Hfin := Lib.hid hfin
          clear hfin hI k1 k2 k3 hblk hown
          go_wp2
          go_roundw
          case rel => exact ⟨d + 1, by omega, by go_num, Hfin.out⟩
          case measure => simp [intOf]; omega
      · have hde : d = s.hours.length := by omega
        subst hde
        obtain ⟨wd, rfl⟩ : ∃ x, x = wr := ⟨_, rfl⟩
        have hfull : he'.take s.hours.length = he' := by rw [← Hhl.out, List.take_length]
        rw [hfull] at HEa
        obtain ⟨A5, c5, hblk, hown⟩ := HEa.out.own
        have Hbd5 := Lib.hid hblk
        have Hown5 := Lib.hid hown
        clear hblk hown hfull HR
        obtain ⟨pe, hpe⟩ : ∃ l : List PartR, l = s.parts.map (easyP ((f : Int) % 4) ((g : Int) % 3) ((i : Int) % 4)) := ⟨_, rfl⟩
        have Hpe := Lib.hid hpe
        have hpl : pe.length = s.parts.length := by rw [hpe, List.length_map]
        have Hpl := Lib.hid hpl
        have Hpat : Hid (∀ k, k < s.parts.length → pe[k]?.getD default = easyP ((f : Int) % 4) ((g : Int) % 3) ((i : Int) % 4) (s.parts[k]?.getD default) ∧ PartOK (s.parts[k]?.getD default)) := Lib.hid fun k hk => by
          have hh := Hg.out.parts _ (List.getElem_mem hk)
          rw [hpe, List.getElem?_map, List.getElem?_eq_getElem hk]
          exact ⟨rfl, hh⟩
        clear hpe hpl
        obtain ⟨c0, c1, c2⟩ := (HS.out.next HEa.out.bel).cells
        have HE1 : Hid (EaP w3 wd w3.heap.size (.slice A5 he'.length c5) (.slice Ao s.orders.length co) [] wd) := Lib.hid ⟨HEa.out.bel, HEa.out.lt, Nat.le_refl _, fun _ _ _ => rfl, none, 0, Hbd5.out, Own.nil _ _ _⟩
        go_wp2
        go_loopw [12] (fun iv wq => ∃ k : Nat, k ≤ s.parts.length ∧ iv = .int .i64 k ∧ EaP w3 wd w3.heap.size (.slice A5 he'.length c5) (.slice Ao s.orders.length co) (pe.take k) wq) (fun iv _ => s.parts.length - (intOf iv).toNat)
        case atStart => exact ⟨0, Nat.zero_le _, rfl, HE1.out⟩
        case round =>
          obtain ⟨k, hk, rfl, hea⟩ := hrel
          have HEp := Lib.hid hea
          clear hea
          obtain ⟨c0, c1, c2⟩ := (HS.out.next HEp.out.bel).cells
          by_cases hlt : k < s.parts.length
          · obtain ⟨pk, hpk⟩ : ∃ l, l = pe.take k := ⟨_, rfl⟩
            rw [← hpk] at HEp
            have Hpk := Lib.hid hpk
            clear hpk
            obtain ⟨A, cA, hblk, hown⟩ := HEp.out.own
            have Hblk := Lib.hid hblk
            have Hown := Lib.hid hown
            obtain ⟨vh', vp', vo', hv, _, hpp, _⟩ := id (HS.out.next HEp.out.bel).shop
            cases hv
            obtain ⟨ap, rfl, _, p0, p1, p2, p3⟩ := hpp.part hlt
            obtain ⟨hpe1, hpo⟩ := Hpat.out k hlt
            clear hpp hblk hown
            generalize s.parts[k]?.getD default = p at *
            go_upto_region 15 with (fail)
            obtain ⟨W7, hW7, r7, z7, b7⟩ := box_any wr #[.string p.name, .int .i64 p.batch, .int .i64 p.long, .int .i64 p.stock] 57
            rw [← hW7]
            have y1 := cellOf r7 1 (v := .int .i64 p.batch) rfl
            have y2 := cellOf r7 2 (v := .int .i64 p.long) rfl
            have y3 := cellOf r7 3 (v := .int .i64 p.stock) rfl
            have f1 : W7.frozen? ⟨wr.heap.size, 1, none⟩ = false := by simp [World.frozen?, r7]
            have f2 : W7.frozen? ⟨wr.heap.size, 2, none⟩ = false := by simp [World.frozen?, r7]
            have f3 : W7.frozen? ⟨wr.heap.size, 3, none⟩ = false := by simp [World.frozen?, r7]
            have hb7 := HEp.out.bel.trans (b7.mono HEp.out.bel.size)
            have x4 := (hb7.cell (cell_lt (cellOf T1.out 4 (v := .int .u8 f) (by rw [Hxv.out]; rfl)))).trans (cellOf T1.out 4 (v := .int .u8 f) (by rw [Hxv.out]; rfl))
            have x5 := (hb7.cell (cell_lt (cellOf T1.out 5 (v := .int .u8 g) (by rw [Hxv.out]; rfl)))).trans (cellOf T1.out 5 (v := .int .u8 g) (by rw [Hxv.out]; rfl))
            have x6 := (hb7.cell (cell_lt (cellOf T1.out 6 (v := .int .u8 i) (by rw [Hxv.out]; rfl)))).trans (cellOf T1.out 6 (v := .int .u8 i) (by rw [Hxv.out]; rfl))
            have hw4 : IntKind.i64.wrap (f : Int) = f := IntWalk.i64_in _ (by have := Hbd.out; omega)
            have hw5 : IntKind.i64.wrap (g : Int) = g := IntWalk.i64_in _ (by have := Hbd.out; omega)
            have hw6 : IntKind.i64.wrap (i : Int) = i := IntWalk.i64_in _ (by have := Hbd.out; omega)
            have R7 := Lib.hid r7
            have Z7 := Lib.hid z7
            have B7 := Lib.hid b7
            have Hb7 := Lib.hid hb7
            clear hW7 r7 z7 b7 hb7 p0 p1 p2 p3 c0 c1 c2
            have hpb := hpo.batch
            have hpl := hpo.long
            have hps := hpo.stock
            have hq4 : wrap64 (p.stock + (f : Int) % 4) = p.stock + (f : Int) % 4 := IntWalk.wrap64_in _ ⟨by omega, by omega⟩
            have hq5 : wrap64 (p.batch + (g : Int) % 3) = p.batch + (g : Int) % 3 := IntWalk.wrap64_in _ ⟨by omega, by omega⟩
            have hq6 : wrap64 (p.long - (i : Int) % 4) = p.long - (i : Int) % 4 := IntWalk.wrap64_in _ ⟨by omega, by omega⟩
            clear hpb hpl hps
            go_upto_region 18 with (fail)
            obtain ⟨p', hp'⟩ : ∃ p', p' = easyP ((f : Int) % 4) ((g : Int) % 3) ((i : Int) % 4) p := ⟨_, rfl⟩
            have i3 : (if p.stock + (f : Int) % 4 < 50 then p.stock + (f : Int) % 4 else 50) = p'.stock := by rw [hp']; show _ = min 50 _; omega
            have i1 : (if p.batch + (g : Int) % 3 < 10 then p.batch + (g : Int) % 3 else 10) = p'.batch := by rw [hp']; show _ = min 10 _; omega
            have i2 : (if 1 < p.long - (i : Int) % 4 then p.long - (i : Int) % 4 else 1) = p'.long := by rw [hp']; show _ = max 1 _; omega
            have i0 : p.name = p'.name := by rw [hp']; rfl
            rw [i1, i2, i3]
            obtain ⟨V, hV⟩ : ∃ V, V = ((W7.setCell ⟨wr.heap.size, 3, none⟩ (.int .i64 p'.stock)).setCell ⟨wr.heap.size, 1, none⟩ (.int .i64 p'.batch)).setCell ⟨wr.heap.size, 2, none⟩ (.int .i64 p'.long) := ⟨_, rfl⟩
            have r8 : V.heap[wr.heap.size]? = some (.cells #[.string p'.name, .int .i64 p'.batch, .int .i64 p'.long, .int .i64 p'.stock] 57) := by
              rw [hV, ← i0]
              exact heap_setCell_same _ _ 2 _ _ _ (heap_setCell_same _ _ 1 _ _ _ (heap_setCell_same W7 _ 3 _ _ _ R7.out))
            have b8 : Below wr.heap.size wr V := by rw [hV]; exact ((B7.out.setCell (Nat.le_refl _) _).setCell (Nat.le_refl _) _).setCell (Nat.le_refl _) _
            rw [← hV]
            clear hV i0 i1 i2 i3 hq4 hq5 hq6 hw4 hw5 hw6 x4 x5 x6 y1 y2 y3 f1 f2 f3 hpo
            have y0 := cellOf r8 0 (v := .string p'.name) rfl
            have y1 := cellOf r8 1 (v := .int .i64 p'.batch) rfl
            have y2 := cellOf r8 2 (v := .int .i64 p'.long) rfl
            have y3 := cellOf r8 3 (v := .int .i64 p'.stock) rfl
            have e1 := cellOf ((b8.block _ HEp.out.lt).trans Hblk.out) 1 (v := .slice A pk.length cA) rfl
            have hkl : pk.length ≤ 100000 := by
              have h1 := Hg.out.plen
              have h2 : pk.length ≤ k := by rw [Hpk.out, List.length_take]; omega
              omega
            obtain ⟨A2, c2, w', hrun, hown2, hb2, hsz2, _, _⟩ := append_part (Hown.out.below b8) p' hkl (Nat.le_trans HEp.out.sz b8.size)
            have hltd : w3.heap.size < wd.heap.size := lt_of_block Hbd5.out
            have hblk2 := (hb2.block _ hltd).trans ((b8.block _ HEp.out.lt).trans Hblk.out)
            have u1 := cellOf hblk2 1 (v := .slice A pk.length cA) rfl
            have uf : w'.frozen? ⟨w3.heap.size, 1, none⟩ = false := by simp [World.frozen?, hblk2]
            have hfin : EaP w3 wd w3.heap.size (.slice A5 he'.length c5) (.slice Ao s.orders.length co) (pe.take (k + 1)) (w'.setCell ⟨w3.heap.size, 1, none⟩ (.slice A2 (pk.length + 1) c2)) := by
              have hkl2 : k < pe.length := by rw [Hpl.out]; exact hlt
              have q1 : pe.take (k + 1) = pk ++ [p'] := by
                rw [Hpk.out, List.take_add_one, List.getElem?_eq_getElem hkl2, Option.toList_some]
                have := hpe1
                rw [List.getElem?_eq_getElem hkl2] at this
                rw [show pe[k] = p' from this.trans hp'.symm]
              rw [q1]
              have q2 : (pk ++ [p']).length = pk.length + 1 := by simp
              have k2 := heap_setCell_same w' _ 1 _ _ (.slice A2 (pk.length + 1) c2) hblk2
              have hbe : Below w3.heap.size w3 w' := (HEp.out.bel.trans (b8.mono HEp.out.bel.size)).trans (hb2.mono (Nat.le_of_lt hltd))
              refine ⟨hbe.setCell (Nat.le_refl _) _, lt_of_block k2, by rw [World.size_setCell]; exact hsz2, fun b hb hne => ?_, A2, c2, ?_, ?_⟩
              · rw [Below.heap_setCell _ _ _ _ (by simpa using hne), hb2.block _ hb, b8.block _ (Nat.lt_of_lt_of_le hb HEp.out.sz), HEp.out.same b hb hne]
              · rw [q2]; exact k2
              · rw [q2]; exact hown2.other hltd _
            have Hfin := Lib.hid hfin
            have R8 := Lib.hid r8
            have B8 := Lib.hid b8
            clear hfin r8 b8 hown2 hb2 hsz2 hblk2 hkl hp' hpe1 hltd
            go_wp2_with (at_builtin; refine wpList_append_run rfl _ _ _ rfl rfl rfl hrun ?_)
            go_roundw
            case rel => exact ⟨k + 1, by omega, by go_num, Hfin.out⟩
            case measure => simp [intOf]; omega
          · have hke : k = s.parts.length := by omega
            subst hke
            obtain ⟨we, rfl⟩ : ∃ x, x = wr := ⟨_, rfl⟩
            have hfull : pe.take s.parts.length = pe := by rw [← Hpl.out, List.take_length]
            rw [hfull] at HEp
            clear hfull
            obtain ⟨A6, c6, hblk6, hown6⟩ := HEp.out.own
            have hu4 : 0 ≤ (e : Int) % 4 := by omega
            have hu5 : 0 ≤ (f : Int) % 4 := by omega
            have hu6 : 0 ≤ (g : Int) % 3 := by omega
            have hu7 : 0 ≤ (i : Int) % 4 := by omega
            have hee := easy_valid hu4 hu5 hu6 hu7 He.out
            have hbe := best_easy hu4 hu5 hu6 hu7 He.out
            have hce : canB s (ofL s t) = true → canB (easyS s ((e : Int) % 4) ((f : Int) % 4) ((g : Int) % 3) ((i : Int) % 4)) (ofL (easyS s ((e : Int) % 4) ((f : Int) % 4) ((g : Int) % 3) ((i : Int) % 4)) t) = true := canB_easy Hg.out hu4 hu5 hu6 hu7
            have hte2 : takenErr (easyS s ((e : Int) % 4) ((f : Int) % 4) ((g : Int) % 3) ((i : Int) % 4)) t = 0 := by rw [Ht.out]; exact taken_rise hee Hri.out
            have hcv2 := canV_of hte2
            obtain ⟨is2, his2⟩ : ∃ b, canB (easyS s ((e : Int) % 4) ((f : Int) % 4) ((g : Int) % 3) ((i : Int) % 4)) (ofL (easyS s ((e : Int) % 4) ((f : Int) % 4) ((g : Int) % 3) ((i : Int) % 4)) t) = b := ⟨_, rfl⟩
            rw [his2] at hce hcv2
            rw [His.out] at hce
            have HSE : Hid (ShS w we.heap.size w3.heap.size (.slice A5 he'.length c5) (.slice A6 pe.length c6) (.slice Ao s.orders.length co) (easyS s ((e : Int) % 4) ((f : Int) % 4) ((g : Int) % 3) ((i : Int) % 4)) we) := Lib.hid (by
              have HR := HS.out.next HEp.out.bel
              obtain ⟨_, _, _, hv, _, _, k3⟩ := id HR.shop
              cases hv
              refine ⟨⟨_, _, _, rfl, ?_, ?_, k3.mono HR.hB⟩, fun q hq => ?_, Nat.le_refl _, hblk6, HR.below⟩
              · have h5 := (Hown5.out.same (w' := we) fun g hg hb => HEp.out.same g (by
                  rcases Hown5.out with ⟨_, ⟨h0, _⟩ | ⟨g', cap, cur, h0, hb', hh, _⟩⟩
                  · rw [h0] at hg; cases hg
                  · rw [h0] at hg
                    injection hg with hg
                    subst hg
                    exact lt_of_block hh) (by omega)).rd
                rw [Hhe.out] at h5 ⊢
                exact h5
              · have h6 := hown6.rd
                rw [Hpe.out] at h6 ⊢
                exact h6
              · obtain ⟨q', hq', rfl⟩ := List.mem_map.1 hq
                exact HS.out.nm q' hq')
            have HS := Lib.hid (HS.out.next HEp.out.bel)
            have HT := Lib.hid ((HT.out.below HEp.out.bel).mono HEp.out.bel.size)
            have T1 := Lib.hid ((HEp.out.bel.block _ (lt_of_block T1.out)).trans T1.out)
            have HpB1 := Lib.hid (fun (W : World) (B : Nat) (hs : RdShop B W (.agg #[.slice Ah s.hours.length ch, .slice Ap s.parts.length cp, .slice Ao s.orders.length co]) s) (hn : ∀ p ∈ s.parts, p.name.size ≤ 9223372036854775807) (hB : B ≤ W.heap.size) => pbest_any hs hn hB)
            have HpB2 := Lib.hid (fun (W : World) (B : Nat) (hs : RdShop B W (.agg #[.slice A5 he'.length c5, .slice A6 pe.length c6, .slice Ao s.orders.length co]) (easyS s ((e : Int) % 4) ((f : Int) % 4) ((g : Int) % 3) ((i : Int) % 4))) (hn : ∀ p ∈ (easyS s ((e : Int) % 4) ((f : Int) % 4) ((g : Int) % 3) ((i : Int) % 4)).parts, p.name.size ≤ 9223372036854775807) (hB : B ≤ W.heap.size) => pbest_any hs hn hB)
            unfold BestR at HpB1 HpB2
            rw [bestF_ok He.out] at HpB1
            rw [bestF_ok hee] at HpB2
            generalize easyS s ((e : Int) % 4) ((f : Int) % 4) ((g : Int) % 3) ((i : Int) % 4) = es at *
            generalize bestL s = b1 at *
            generalize bestL es = b2 at *
            obtain ⟨bx1, bn1⟩ := b1
            obtain ⟨bx2, bn2⟩ := b2
            simp only at HpB1 HpB2 hbe
            have hbb : decide (bn2 < bn1) = false := decide_eq_false (by omega)
            have HC2 := Lib.hid hcv2
            have Hce := Lib.hid hce
            obtain ⟨c0, c1, c2⟩ := HS.out.cells
            obtain ⟨u0, u1, u2⟩ := HSE.out.cells
            clear hbe hcv2 hce hte2 hee his2 hu4 hu5 hu6 hu7 hown6 hblk6 HEp HEa HE0 HE1 Hbd5 Hown5 Hpat Hhat
            go_upto_region 20 with (go_at_call 38; refine (lcan_any (HSE.out.given HT.out)).mono ?_; rw [HC2.out]; rintro e wz ⟨rfl, hb⟩; have HS := Lib.hid (HS.out.next hb); obtain ⟨c0, c1, c2⟩ := HS.out.cells; have HSE := Lib.hid (HSE.out.next hb); obtain ⟨u0, u1, u2⟩ := HSE.out.cells; have HT := Lib.hid ((HT.out.below hb).mono hb.size); have T1 := Lib.hid ((hb.block _ (lt_of_block T1.out)).trans T1.out); clear hb)
            go_upto_region 21 with (go_at_call 31; refine (HpB1.out _ _ HS.out.shop HS.out.nm HS.out.hB).mono ?_; rintro e wz ⟨A7, n7, rfl, _, hb⟩; have HS := Lib.hid (HS.out.next hb); obtain ⟨c0, c1, c2⟩ := HS.out.cells; have HSE := Lib.hid (HSE.out.next hb); obtain ⟨u0, u1, u2⟩ := HSE.out.cells; have HT := Lib.hid ((HT.out.below hb).mono hb.size); have T1 := Lib.hid ((hb.block _ (lt_of_block T1.out)).trans T1.out); clear hb)
            go_upto_region 22 with (go_at_call 31; refine (HpB2.out _ _ HSE.out.shop HSE.out.nm HSE.out.hB).mono ?_; rintro e wz ⟨A8, n8, rfl, _, hb⟩; have HS := Lib.hid (HS.out.next hb); obtain ⟨c0, c1, c2⟩ := HS.out.cells; have HT := Lib.hid ((HT.out.below hb).mono hb.size); have T1 := Lib.hid ((hb.block _ (lt_of_block T1.out)).trans T1.out); clear hb u0 u1 u2)
            clear HSE HpB1 HpB2 HC1 HC2 Hhe Hpe Hhl Hpl
            obtain ⟨wf, rfl⟩ : ∃ x, x = wz := ⟨_, rfl⟩
            by_cases ht0 : t.length = 0
            · have htb : ((t.length : Int) == 0) = true := by simp [ht0]
              have HDone : Hid (Below w.heap.size w wf) := Lib.hid HS.out.below
              clear ht0
              cases his1 : is1 with
              | true =>
                have h2 := Hce.out his1
                subst his1 h2
                clear Hce
                go_wp2_with (go_at_call 23; refine (awake_any _).mono ?_; rintro e w9 ⟨rfl, hb⟩; have HS := Lib.hid (HS.out.next hb); clear hb)
                go_ret
                exact ⟨rfl, HS.out.below⟩
              | false =>
                subst his1
                clear Hce
                go_wp2_with (go_at_call 23; refine (awake_any _).mono ?_; rintro e w9 ⟨rfl, hb⟩; have HS := Lib.hid (HS.out.next hb); clear hb)
                go_ret
                exact ⟨rfl, HS.out.below⟩
            · have htb : ((t.length : Int) == 0) = false := beq_false_of_ne (by omega)
              obtain ⟨j, hj, hjl⟩ : ∃ j : Nat, (a : Int) % (t.length : Int) = j ∧ j < t.length := ⟨a % t.length, by omega, Nat.mod_lt _ (by omega)⟩
              have X0 := Lib.hid (cellOf T1.out 0 (v := .int .u8 a) (by rw [Hxv.out]; rfl))
              obtain ⟨at_, rfl, _, d0⟩ := HT.out.int hjl
              have D0 := Lib.hid d0
              have htl8 := Htl.out
              have HR1 : Hid (Rd IntAt 1 wf.heap.size wf (.slice (some at_) j n1) (t.take j)) := Lib.hid (HT.out.takeN (o := j) (by omega))
              have HR2 : Hid (Rd IntAt 1 wf.heap.size wf (.slice (if n1 = j + 1 then some at_ else some (at_.add (j + 1))) (t.length - (j + 1)) (n1 - (j + 1))) (t.drop (j + 1))) := Lib.hid (by have := HT.out.dropN (l := j + 1) (by omega); rwa [Nat.mul_one] at this)
              have hn1 : t.length ≤ n1 := by obtain ⟨A', cap, e1, h1, h2, _⟩ := HT.out; injection e1 with _ _ e3; omega
              have Hl1 := Lib.hid (show j = (t.take j).length by rw [List.length_take]; omega)
              have Hl2 := Lib.hid (show t.length - (j + 1) = (t.drop (j + 1)).length by rw [List.length_drop])
              have hoc1 : j ≤ n1 := by omega
              have hoi1 : (0 : Int) ≤ (j : Int) + 1 := by omega
              have hoi2 : (j : Int) + 1 ≤ (t.length : Int) := by omega
              clear d0 ht0
              have Hjl := Lib.hid hjl
              have Hj := Lib.hid hj
              have x0 := X0.out
              have hlt := less_taken He.out Hri.out j
              have hlc : is1 = true → canB s (ofL s (t.take j ++ t.drop (j + 1))) = true := fun h => by
                have := less_can He.out Hri.out j (by rw [← Ht.out, His.out]; exact h)
                rwa [← Ht.out] at this
              rw [← Ht.out] at hlt
              have hcl := canV_of hlt
              obtain ⟨fw, hfw⟩ : ∃ b, canB s (ofL s (t.take j ++ t.drop (j + 1))) = b := ⟨_, rfl⟩
              rw [hfw] at hcl hlc
              have HCl := Lib.hid hcl
              have Hlc := Lib.hid hlc
              clear hlt hlc hcl hfw
              obtain ⟨q, hq⟩ : ∃ q : Nat, t[j]?.getD 0 = (q : Int) ∧ q < s.orders.length := by
                have hxl : xs.length = t.length := by rw [Ht.out, List.length_map]
                have hjx : j < xs.length := by omega
                refine ⟨xs[j], ?_, Hri.out.2 _ (List.getElem_mem hjx)⟩
                rw [Ht.out, List.getElem?_map, List.getElem?_eq_getElem hjx]
                rfl
              rw [hq.1] at D0
              have hql := hq.2
              have Hql := Lib.hid hql
              have hu5 : 0 ≤ (b : Int) % 5 := by omega
              have hu6 : 0 ≤ (c : Int) % 5 := by omega
              have hlt := later_taken He.out hu5 hu6 hql Hri.out
              have hlc : is1 = true → canB (laterS s q ((b : Int) % 5) ((c : Int) % 5)) (ofL (laterS s q ((b : Int) % 5) ((c : Int) % 5)) t) = true := fun h => by
                have := later_can He.out hu5 hu6 hql Hri.out (by rw [← Ht.out, His.out]; exact h)
                rwa [← Ht.out] at this
              rw [← Ht.out] at hlt
              have hcl := canV_of hlt
              obtain ⟨lt, hfw⟩ : ∃ b', canB (laterS s q ((b : Int) % 5) ((c : Int) % 5)) (ofL (laterS s q ((b : Int) % 5) ((c : Int) % 5)) t) = b' := ⟨_, rfl⟩
              rw [hfw] at hcl hlc
              have HCr := Lib.hid hcl
              have Hrc := Lib.hid hlc
              clear hlt hlc hcl hfw hu5 hu6 hql hq
              have hcase : (is1 = true ∧ is2 = true ∧ fw = true ∧ lt = true) ∨ is1 = false := by
                cases h : is1 with
                | true => exact .inl ⟨rfl, Hce.out h, Hlc.out h, Hrc.out h⟩
                | false => exact .inr rfl
              clear Hce Hlc Hrc
              rcases hcase with ⟨rfl, rfl, rfl, rfl⟩ | rfl
              all_goals
                go_upto_region 27 with (fail)
                have hja : (wrap64 (a : Int)).tmod (t.length : Int) = (j : Int) := by
                  rw [IntWalk.wrap64_in _ ⟨by omega, by have := Hbd.out; omega⟩, Int.tmod_eq_emod_of_nonneg (by omega)]
                  exact hj
                rw [hja]
                clear x0 c0 c1 c2 hj hja
                refine wp_region_ghost (FwI wf j (t.length - (j + 1)) (t.take j) (t.drop (j + 1)) (fun k => ([undef, .slice (some at_) t.length n1, .int .i64 j, .slice (some at_) j n1, undef, .slice (some at_) t.length n1, .int .i64 j, .int .i64 ((j : Int) + 1), .slice (if n1 = j + 1 then some at_ else some (at_.add (j + 1))) (t.length - (j + 1)) (n1 - (j + 1)), undef, undef] : List Value).getD k undef)) (by kernel_rfl) (by kernel_rfl) ?_ ?_ ?_
                · exact ⟨(Below.refl _ _).drew, fun _ _ h => (by cases h), fun h => (by cases h), fun h => (by cases h), fun h => (by cases h), fun h => (by cases h)⟩
                · refine ⟨?_, ?_, ?_, ?_, ?_, ?_, ?_, ?_, ?_, ?_, ?_, trivial⟩
                  all_goals
                    intro L vs X b hL hw hcl hI hf
                    have hb := hI.bel
                  · have n4 : L 4 = false := not_yet hcl 4 hL rfl (by kernel_rfl)
                    have n9 : L 9 = false := not_yet hcl 9 n4 rfl (by kernel_rfl)
                    have n10 : L 10 = false := not_yet hcl 10 n9 rfl (by kernel_rfl)
                    refine wp_of_run (v := .slice (some ⟨X.heap.size, 0, none⟩) 0 0) (w' := X.alloc (.cells #[] 3)) (by unfold execOp; go_simp) ?_
                    exact ⟨hb.alloc hb.size _, rd_step hI.rd (fun h => absurd rfl h.1), fun _ _ => ⟨_, hb.size, rfl, heap_alloc_new _ _⟩, fun h => absurd (n4.symm.trans h) (by simp), fun h => absurd (n9.symm.trans h) (by simp), fun h => absurd (n10.symm.trans h) (by simp)⟩
                  · have e7 := hf.old 7 (by kernel_rfl)
                    refine wp_of_run (v := .slice (some at_) t.length n1) (w' := X) (by unfold execOp; go_simp) ?_
                    exact ⟨hb, rd_step hI.rd (fun _ => rfl), hI.f0, hI.f4, hI.f9, hI.f10⟩
                  · have e22 := hf.old 22 (by kernel_rfl)
                    refine wp_of_run (v := .int .i64 j) (w' := X) (by unfold execOp; go_simp) ?_
                    exact ⟨hb, rd_step hI.rd (fun _ => rfl), hI.f0, hI.f4, hI.f9, hI.f10⟩
                  · have h1 : L 1 = true := done_of hw 1 (by kernel_rfl)
                    have e169 : b.tmps[169]?.getD undef = .slice (some at_) t.length n1 := (hf.new 1 169 rfl h1 (by simp)).trans (hI.rd 1 (by decide) h1)
                    have h2 : L 2 = true := done_of hw 2 (by kernel_rfl)
                    have e170 : b.tmps[170]?.getD undef = .int .i64 j := (hf.new 2 170 rfl h2 (by simp)).trans (hI.rd 2 (by decide) h2)
                    refine wp_of_run (v := .slice (some at_) j n1) (w' := X) (by unfold execOp; go_simp) ?_
                    exact ⟨hb, rd_step hI.rd (fun _ => rfl), hI.f0, hI.f4, hI.f9, hI.f10⟩
                  · have n9 : L 9 = false := not_yet hcl 9 hL rfl (by kernel_rfl)
                    have n10 : L 10 = false := not_yet hcl 10 n9 rfl (by kernel_rfl)
                    have h0 : L 0 = true := done_of hw 0 (by kernel_rfl)
                    have h3 : L 3 = true := done_of hw 3 (by kernel_rfl)
                    have e171 : b.tmps[171]?.getD undef = .slice (some at_) j n1 := (hf.new 3 171 rfl h3 (by simp)).trans (hI.rd 3 (by decide) h3)
                    obtain ⟨g, hg1, hg2, hg3⟩ := hI.f0 h0 hL
                    have e168 := (hf.new 0 168 rfl h0 (by simp)).trans hg2
                    obtain ⟨v', w', hrun, A, c, rfl, hown, hb'⟩ := ask5i (HR1.out.below hb) Hl1.out hb.size hg3 hg1 (by rw [List.length_take]; omega)
                    refine wp_append_run (.tmp 168) (.tmp 171) 22 rfl (by unfold Act.eval; simpa using e168) (by unfold Act.eval; simpa using e171) hrun ⟨_, rfl, ?_⟩
                    exact ⟨hb.trans hb', rd_step hI.rd (fun h => absurd rfl h.2.1), fun _ h => (by cases h), fun _ _ => ⟨A, c, rfl, hown⟩, fun h => absurd (n9.symm.trans h) (by simp), fun h => absurd (n10.symm.trans h) (by simp)⟩
                  · have e7 := hf.old 7 (by kernel_rfl)
                    refine wp_of_run (v := .slice (some at_) t.length n1) (w' := X) (by unfold execOp; go_simp) ?_
                    exact ⟨hb, rd_step hI.rd (fun _ => rfl), hI.f0, hI.f4, hI.f9, hI.f10⟩
                  · have e22 := hf.old 22 (by kernel_rfl)
                    refine wp_of_run (v := .int .i64 j) (w' := X) (by unfold execOp; go_simp) ?_
                    exact ⟨hb, rd_step hI.rd (fun _ => rfl), hI.f0, hI.f4, hI.f9, hI.f10⟩
                  · have h6 : L 6 = true := done_of hw 6 (by kernel_rfl)
                    have e174 : b.tmps[174]?.getD undef = .int .i64 j := (hf.new 6 174 rfl h6 (by simp)).trans (hI.rd 6 (by decide) h6)
                    have hwr : IntKind.i64.wrap ((j : Int) + 1) = (j : Int) + 1 := IntWalk.i64_in _ (by omega)
                    refine wp_of_run (v := .int .i64 ((j : Int) + 1)) (w' := X) (by unfold execOp; go_simp) ?_
                    exact ⟨hb, rd_step hI.rd (fun _ => rfl), hI.f0, hI.f4, hI.f9, hI.f10⟩
                  · have h5 : L 5 = true := done_of hw 5 (by kernel_rfl)
                    have e173 : b.tmps[173]?.getD undef = .slice (some at_) t.length n1 := (hf.new 5 173 rfl h5 (by simp)).trans (hI.rd 5 (by decide) h5)
                    have h7 : L 7 = true := done_of hw 7 (by kernel_rfl)
                    have e175 : b.tmps[175]?.getD undef = .int .i64 ((j : Int) + 1) := (hf.new 7 175 rfl h7 (by simp)).trans (hI.rd 7 (by decide) h7)
                    refine wp_of_run (v := .slice (if n1 = j + 1 then some at_ else some (at_.add (j + 1))) (t.length - (j + 1)) (n1 - (j + 1))) (w' := X) (by unfold execOp; go_simp) ?_
                    exact ⟨hb, rd_step hI.rd (fun _ => rfl), hI.f0, hI.f4, hI.f9, hI.f10⟩
                  · have n10 : L 10 = false := not_yet hcl 10 hL rfl (by kernel_rfl)
                    have h4 : L 4 = true := done_of hw 4 (by kernel_rfl)
                    have h8 : L 8 = true := done_of hw 8 (by kernel_rfl)
                    have e176 : b.tmps[176]?.getD undef = .slice (if n1 = j + 1 then some at_ else some (at_.add (j + 1))) (t.length - (j + 1)) (n1 - (j + 1)) := (hf.new 8 176 rfl h8 (by simp)).trans (hI.rd 8 (by decide) h8)
                    obtain ⟨A, n, k1, k2⟩ := hI.f4 h4 hL
                    have e172 := (hf.new 4 172 rfl h4 (by simp)).trans k1
                    obtain ⟨v', w', hrun, A2, c2, rfl, hown, hb'⟩ := ask6i k2 Hl1.out (HR2.out.below hb) Hl2.out hb.size (by rw [List.length_take, List.length_drop]; omega)
                    refine wp_append_run (.tmp 172) (.tmp 176) 22 rfl (by unfold Act.eval; simpa using e172) (by unfold Act.eval; simpa using e176) hrun ⟨_, rfl, ?_⟩
                    exact ⟨hb.trans hb', rd_step hI.rd (fun h => absurd rfl h.2.2.1), fun _ h => absurd (show L 4 = false from h) (by simp [h4]), fun _ h => (by cases h), fun _ => ⟨A2, c2, rfl, hown⟩, fun h => absurd (n10.symm.trans h) (by simp)⟩
                  · have h9 : L 9 = true := done_of hw 9 (by kernel_rfl)
                    obtain ⟨A, c, k1, k2⟩ := hI.f9 h9
                    have e177 := (hf.new 9 177 rfl h9 (by simp)).trans k1
                    refine wp_of_run (v := .slice A (j + (t.length - (j + 1))) c) (w' := X) (by unfold execOp; go_simp) ?_
                    exact ⟨hb, rd_step hI.rd (fun h => absurd rfl h.2.2.2), hI.f0, hI.f4, hI.f9, fun _ => k1.symm⟩
                · intro vs X hI
                  obtain ⟨A9, c9, k1, k2⟩ := hI.f9 rfl
                  have k3 := (hI.f10 rfl).trans k1
                  have hbX := hI.bel
                  have HS := Lib.hid (HS.out.next hbX)
                  have HT := Lib.hid ((HT.out.below hbX).mono hbX.size)
                  have T1 := Lib.hid ((hbX.block _ (lt_of_block T1.out)).trans T1.out)
                  have D0 := Lib.hid ((hbX.cell (cell_lt D0.out)).trans D0.out)
                  have HL9 := Lib.hid k2.rd
                  obtain ⟨c0, c1, c2⟩ := HS.out.cells
                  clear hI hbX k2 HR1 HR2 Hl1 Hl2
                  simp [fill, slotOf, Act.put, k3]
                  generalize vs 0 = y0
                  generalize vs 1 = y1
                  generalize vs 2 = y2
                  generalize vs 3 = y3
                  generalize vs 4 = y4
                  generalize vs 5 = y5
                  generalize vs 6 = y6
                  generalize vs 7 = y7
                  generalize vs 8 = y8
                  generalize vs 9 = y9
                  clear k1 k3
                  simp only [Exit.inBlock, Exit.then]
                  go_upto_region 29 with (go_at_call 38; refine (lcan_any (HS.out.given HL9.out)).mono ?_; rw [HCl.out]; rintro e wz ⟨rfl, hb⟩; have HS := Lib.hid (HS.out.next hb); obtain ⟨c0, c1, c2⟩ := HS.out.cells; have HT := Lib.hid ((HT.out.below hb).mono hb.size); have T1 := Lib.hid ((hb.block _ (lt_of_block T1.out)).trans T1.out); have D0 := Lib.hid ((hb.cell (cell_lt D0.out)).trans D0.out); clear hb HL9)
                  have Hxlt : Hid (w.heap.size + 1 < wz.heap.size) := Lib.hid (lt_of_block T1.out)
                  go_upto_region 30 with (fail)
                  obtain ⟨V, hV, r30, z30, b30⟩ := box_any wz #[.slice Ah s.hours.length ch, .slice Ap s.parts.length cp, .slice Ao s.orders.length co] 26
                  rw [← hV]
                  have HSz := Lib.hid HS.out
                  have HTz := Lib.hid HT.out
                  have HS := Lib.hid (HS.out.next b30)
                  obtain ⟨c0, c1, c2⟩ := HS.out.cells
                  obtain ⟨_, _, _, hv, _, _, hro⟩ := id HS.out.shop
                  cases hv
                  have hro := hro.mono HS.out.hB
                  obtain ⟨A10, c10, w', hrun, hown, hb10, hgr⟩ := append_ords (own_empty V 60 (α := OrdR)) (hro.below ((Below.refl _ _).alloc (Nat.le_refl _) (.cells #[] 60))) (by have := Hno.out; simp; omega) (by simp)
                  rw [List.length_nil, Nat.zero_add, List.nil_append] at hown
                  rw [List.length_nil, Nat.zero_add] at hrun
                  have hlV : wz.heap.size < V.heap.size := lt_of_block r30
                  have hbV : Below V.heap.size V w' := ((Below.refl _ _).alloc (Nat.le_refl _) _).trans hb10
                  have r30' := (hbV.block _ hlV).trans r30
                  have u2 := cellOf r30' 2 (v := .slice Ao s.orders.length co) rfl
                  have uf : w'.frozen? ⟨wz.heap.size, 2, none⟩ = false := by simp [World.frozen?, r30']
                  obtain ⟨U, hU⟩ : ∃ U, U = w'.setCell ⟨wz.heap.size, 2, none⟩ (.slice A10 s.orders.length c10) := ⟨_, rfl⟩
                  have hbU : Below wz.heap.size wz U := by rw [hU]; exact (b30.trans (hbV.mono (Nat.le_of_lt hlV))).setCell (Nat.le_refl _) _
                  have r31 := heap_setCell_same w' _ 2 _ _ (.slice A10 s.orders.length c10) r30'
                  rw [← hU] at r31
                  have hown2 : Own V.heap.size 60 U (.slice A10 s.orders.length c10) s.orders := by rw [hU]; exact hown.other hlV _
                  have HU := Lib.hid hU
                  have HbU := Lib.hid hbU
                  have R31 := Lib.hid r31
                  have HO := Lib.hid hown2
                  have HlV := Lib.hid hlV
                  clear hV z30 hro hown hb10 hgr hlV hbV r30' hU hbU r31 hown2 r30
                  have B30 := Lib.hid b30
                  clear b30
                  have c2 := ((Below.refl V.heap.size V).alloc (Nat.le_refl _) (.cells #[] 60) |>.cell (cell_lt c2)).trans c2
                  go_upto_region 31 with (at_builtin; refine wpList_append_run rfl _ _ _ rfl rfl rfl hrun ?_)
                  rw [← HU.out]
                  clear hrun u2 uf c0 c1 c2 HU
                  have HS := Lib.hid (HSz.out.next HbU.out)
                  have HT := Lib.hid ((HT.out.below HbU.out).mono HbU.out.size)
                  have T1 := Lib.hid ((HbU.out.block _ (lt_of_block T1.out)).trans T1.out)
                  have D0 := Lib.hid ((HbU.out.cell (cell_lt D0.out)).trans D0.out)
                  obtain ⟨ao, rfl, _, o0, o1, o2, o3⟩ := HO.out.rd.ord Hql.out
                  obtain ⟨o, ho⟩ : ∃ o, s.orders[q]?.getD default = o := ⟨_, rfl⟩
                  rw [ho] at o0 o1 o2 o3
                  have Ho := Lib.hid ho
                  have O0 := Lib.hid o0
                  have O1 := Lib.hid o1
                  have O2 := Lib.hid o2
                  have O3 := Lib.hid o3
                  have M2 := Lib.hid (cellOf R31.out 2 (v := .slice (some ao) s.orders.length c10) rfl)
                  have hqn : (q : Int) < (s.orders.length : Int) := by have := Hql.out; omega
                  have hjn : (j : Int) < (t.length : Int) := by have := Hjl.out; omega
                  clear ho o0 o1 o2 o3
                  refine wp_region_ghost (FlI U (fun k => ([.pointer (some ⟨wz.heap.size, 2, none⟩), .slice (some ao) s.orders.length c10, .slice (some at_) t.length n1, .int .i64 j, .pointer (some (at_.add j)), .int .i64 q, .pointer (some (ao.add (q * 4))), .agg #[.int .i64 o.part, .int .i64 o.many, .int .i64 o.due, .int .i64 o.worth], undef, undef] : List Value).getD k undef) #[.int .i64 o.part, .int .i64 o.many, .int .i64 o.due, .int .i64 o.worth]) (by kernel_rfl) (by kernel_rfl) ?_ ?_ ?_
                  · exact ⟨(Below.refl _ _).drew, fun _ _ h => (by cases h), fun h => (by cases h), fun h => (by cases h)⟩
                  · refine ⟨?_, ?_, ?_, ?_, ?_, ?_, ?_, ?_, ?_, ?_, trivial⟩
                    all_goals
                      intro L vs X b hL hw hcl hI hf
                      have hb := hI.bel
                    · have e26 := hf.old 26 (by kernel_rfl)
                      refine wp_of_run (v := .pointer (some ⟨wz.heap.size, 2, none⟩)) (w' := X) (by unfold execOp; go_simp) ?_
                      exact ⟨hb, rd_step hI.rd (fun _ => rfl), hI.f8, hI.f9⟩
                    · have h0 : L 0 = true := done_of hw 0 (by kernel_rfl)
                      have e190 : b.tmps[190]?.getD undef = .pointer (some ⟨wz.heap.size, 2, none⟩) := (hf.new 0 190 rfl h0 (by simp)).trans (hI.rd 0 (by decide) h0)
                      have a0 := (hb.cell (cell_lt M2.out)).trans M2.out
                      refine wp_of_run (v := .slice (some ao) s.orders.length c10) (w' := X) (by unfold execOp; go_simp) ?_
                      exact ⟨hb, rd_step hI.rd (fun _ => rfl), hI.f8, hI.f9⟩
                    · have e7 := hf.old 7 (by kernel_rfl)
                      refine wp_of_run (v := .slice (some at_) t.length n1) (w' := X) (by unfold execOp; go_simp) ?_
                      exact ⟨hb, rd_step hI.rd (fun _ => rfl), hI.f8, hI.f9⟩
                    · have e22 := hf.old 22 (by kernel_rfl)
                      refine wp_of_run (v := .int .i64 j) (w' := X) (by unfold execOp; go_simp) ?_
                      exact ⟨hb, rd_step hI.rd (fun _ => rfl), hI.f8, hI.f9⟩
                    · have h2 : L 2 = true := done_of hw 2 (by kernel_rfl)
                      have e192 : b.tmps[192]?.getD undef = .slice (some at_) t.length n1 := (hf.new 2 192 rfl h2 (by simp)).trans (hI.rd 2 (by decide) h2)
                      have h3 : L 3 = true := done_of hw 3 (by kernel_rfl)
                      have e193 : b.tmps[193]?.getD undef = .int .i64 j := (hf.new 3 193 rfl h3 (by simp)).trans (hI.rd 3 (by decide) h3)
                      refine wp_of_run (v := .pointer (some (at_.add j))) (w' := X) (by unfold execOp; go_simp) ?_
                      exact ⟨hb, rd_step hI.rd (fun _ => rfl), hI.f8, hI.f9⟩
                    · have h4 : L 4 = true := done_of hw 4 (by kernel_rfl)
                      have e194 : b.tmps[194]?.getD undef = .pointer (some (at_.add j)) := (hf.new 4 194 rfl h4 (by simp)).trans (hI.rd 4 (by decide) h4)
                      have a0 := (hb.cell (cell_lt D0.out)).trans D0.out
                      refine wp_of_run (v := .int .i64 q) (w' := X) (by unfold execOp; go_simp) ?_
                      exact ⟨hb, rd_step hI.rd (fun _ => rfl), hI.f8, hI.f9⟩
                    · have h1 : L 1 = true := done_of hw 1 (by kernel_rfl)
                      have e191 : b.tmps[191]?.getD undef = .slice (some ao) s.orders.length c10 := (hf.new 1 191 rfl h1 (by simp)).trans (hI.rd 1 (by decide) h1)
                      have h5 : L 5 = true := done_of hw 5 (by kernel_rfl)
                      have e195 : b.tmps[195]?.getD undef = .int .i64 q := (hf.new 5 195 rfl h5 (by simp)).trans (hI.rd 5 (by decide) h5)
                      refine wp_of_run (v := .pointer (some (ao.add (q * 4)))) (w' := X) (by unfold execOp; go_simp) ?_
                      exact ⟨hb, rd_step hI.rd (fun _ => rfl), hI.f8, hI.f9⟩
                    · have h6 : L 6 = true := done_of hw 6 (by kernel_rfl)
                      have e196 : b.tmps[196]?.getD undef = .pointer (some (ao.add (q * 4))) := (hf.new 6 196 rfl h6 (by simp)).trans (hI.rd 6 (by decide) h6)
                      have a0 := (hb.cell (cell_lt O0.out)).trans O0.out
                      have a1 := (hb.cell (cell_lt O1.out)).trans O1.out
                      have a2 := (hb.cell (cell_lt O2.out)).trans O2.out
                      have a3 := (hb.cell (cell_lt O3.out)).trans O3.out
                      refine wp_of_run (v := .agg #[.int .i64 o.part, .int .i64 o.many, .int .i64 o.due, .int .i64 o.worth]) (w' := X) (by unfold execOp; go_simp) ?_
                      exact ⟨hb, rd_step hI.rd (fun _ => rfl), hI.f8, hI.f9⟩
                    · have n9 : L 9 = false := not_yet hcl 9 hL rfl (by kernel_rfl)
                      refine wp_of_run (v := .pointer (some ⟨X.heap.size, 0, none⟩)) (w' := X.alloc (.cells #[.int .i64 0, .int .i64 0, .int .i64 0, .int .i64 0] 60)) (by unfold execOp; go_simp) ?_
                      exact ⟨hb.alloc hb.size _, rd_step hI.rd (fun h => absurd rfl h.1), fun _ _ => ⟨_, hb.size, rfl, heap_alloc_new _ _⟩, fun h => absurd (n9.symm.trans h) (by simp)⟩
                    · have h8 : L 8 = true := done_of hw 8 (by kernel_rfl)
                      have h7 : L 7 = true := done_of hw 7 (by kernel_rfl)
                      have e197 : b.tmps[197]?.getD undef = .agg #[.int .i64 o.part, .int .i64 o.many, .int .i64 o.due, .int .i64 o.worth] := (hf.new 7 197 rfl h7 (by simp)).trans (hI.rd 7 (by decide) h7)
                      obtain ⟨g, hg1, hg2, hg3⟩ := hI.f8 h8 hL
                      have e27 := (hf.new 8 27 rfl h8 (by simp)).trans hg2
                      have a0 := cellOf hg3 0 (v := .int .i64 0) rfl
                      have a1 := cellOf hg3 1 (v := .int .i64 0) rfl
                      have a2 := cellOf hg3 2 (v := .int .i64 0) rfl
                      have a3 := cellOf hg3 3 (v := .int .i64 0) rfl
                      have z0 : X.frozen? ⟨g, 0, none⟩ = false := by simp [World.frozen?, hg3]
                      have z1 : X.frozen? ⟨g, 1, none⟩ = false := by simp [World.frozen?, hg3]
                      have z2 : X.frozen? ⟨g, 2, none⟩ = false := by simp [World.frozen?, hg3]
                      have z3 : X.frozen? ⟨g, 3, none⟩ = false := by simp [World.frozen?, hg3]
                      refine wp_of_skip (w' := (((X.setCell ⟨g, 0, none⟩ (.int .i64 o.part)).setCell ⟨g, 1, none⟩ (.int .i64 o.many)).setCell ⟨g, 2, none⟩ (.int .i64 o.due)).setCell ⟨g, 3, none⟩ (.int .i64 o.worth)) (by unfold execOp; go_simp) ?_
                      have k1 := heap_setCell_same _ _ 3 _ _ (.int .i64 o.worth) (heap_setCell_same _ _ 2 _ _ (.int .i64 o.due) (heap_setCell_same _ _ 1 _ _ (.int .i64 o.many) (heap_setCell_same X _ 0 _ _ (.int .i64 o.part) hg3)))
                      exact ⟨(((hb.setCell hg1 _).setCell hg1 _).setCell hg1 _).setCell hg1 _, rd_step hI.rd (fun h => absurd rfl h.2), fun _ h => (by cases h), fun _ => ⟨g, hg1, hg2, k1⟩⟩
                  · intro vs X hI
                    obtain ⟨og, hog1, k1, hXo⟩ := hI.f9 rfl
                    have hbX := hI.bel
                    have HSU := Lib.hid HS.out
                    have HS := Lib.hid (HS.out.next hbX)
                    have T1 := Lib.hid ((hbX.block _ (lt_of_block T1.out)).trans T1.out)
                    have HbX := Lib.hid hbX
                    have Hog1 := Lib.hid hog1
                    clear hI hbX hog1 O0 O1 O2 O3 M2
                    simp [fill, slotOf, Act.put, k1]
                    generalize vs 0 = y0
                    generalize vs 1 = y1
                    generalize vs 2 = y2
                    generalize vs 3 = y3
                    generalize vs 4 = y4
                    generalize vs 5 = y5
                    generalize vs 6 = y6
                    generalize vs 7 = y7
                    clear k1
                    simp only [Exit.inBlock, Exit.then]
                    obtain ⟨c0, c1, c2⟩ := HS.out.cells
                    have hoo : OrdOK s.parts.length s.hours.length o := by have := Hg.out.ord Hql.out; rw [List.getD_eq_getElem?_getD, Ho.out] at this; exact this
                    have hom := hoo.many
                    have hod := hoo.due
                    have hhl := Hg.out.hlen
                    have m1 := cellOf hXo 1 (v := .int .i64 o.many) rfl
                    have m2 := cellOf hXo 2 (v := .int .i64 o.due) rfl
                    have mf1 : X.frozen? ⟨og, 1, none⟩ = false := by simp [World.frozen?, hXo]
                    have mf2 : X.frozen? ⟨og, 2, none⟩ = false := by simp [World.frozen?, hXo]
                    have x1 := cellOf T1.out 1 (v := .int .u8 b) (by rw [Hxv.out]; rfl)
                    have x2 := cellOf T1.out 2 (v := .int .u8 c) (by rw [Hxv.out]; rfl)
                    have hw1 : IntKind.i64.wrap (b : Int) = b := IntWalk.i64_in _ (by have := Hbd.out; omega)
                    have hw2 : IntKind.i64.wrap (c : Int) = c := IntWalk.i64_in _ (by have := Hbd.out; omega)
                    have hq4 : wrap64 (o.due + (b : Int) % 5) = o.due + (b : Int) % 5 := IntWalk.wrap64_in _ ⟨by omega, by omega⟩
                    have hq5 : wrap64 (o.many - (c : Int) % 5) = o.many - (c : Int) % 5 := IntWalk.wrap64_in _ ⟨by omega, by omega⟩
                    have hq6 : wrap64 ((s.hours.length : Int) - 1) = (s.hours.length : Int) - 1 := IntWalk.wrap64_in _ ⟨by omega, by omega⟩
                    have HXo := Lib.hid hXo
                    have hne : w.heap.size + 1 ≠ og := by
                      have h1 := lt_of_block T1.out
                      have h2 := HS.out.below.size
                      have h3 := Hxlt.out
                      have h4 := HbU.out.size
                      have h5 := Hog1.out
                      omega
                    have hne2 : og ≠ w.heap.size + 1 := Ne.symm hne
                    clear hXo hoo hom hod hhl
                    go_upto_region 33 with (fail)
                    obtain ⟨nd, hnd⟩ : ∃ nd : Int, (if o.due + (b : Int) % 5 < (s.hours.length : Int) - 1 then o.due + (b : Int) % 5 else (s.hours.length : Int) - 1) = nd := ⟨_, rfl⟩
                    rw [hnd]
                    obtain ⟨X2, hX2⟩ : ∃ X2, X2 = X.setCell ⟨og, 2, none⟩ (.int .i64 nd) := ⟨_, rfl⟩
                    have rX2 := heap_setCell_same X _ 2 _ _ (.int .i64 nd) HXo.out
                    have tX2 : X2.heap[w.heap.size + 1]? = some (.cells xv 71) := by rw [hX2, Below.heap_setCell _ _ _ _ (by simpa using hne)]; exact T1.out
                    have bX2 : Below U.heap.size U X2 := by rw [hX2]; exact HbX.out.setCell Hog1.out _
                    rw [← hX2] at rX2 ⊢
                    have m1 := cellOf rX2 1 (v := .int .i64 o.many) rfl
                    have mf1 : X2.frozen? ⟨og, 1, none⟩ = false := by simp [World.frozen?, rX2]
                    have x2 := cellOf tX2 2 (v := .int .u8 c) (by rw [Hxv.out]; rfl)
                    have RX2 := Lib.hid rX2
                    have BX2 := Lib.hid bX2
                    have Hnd := Lib.hid hnd
                    clear hX2 rX2 tX2 bX2 hnd m2 mf2 x1 c0 c1 c2 HXo HbX hq4 hq6 hw1
                    go_upto_region 34 with (fail)
                    obtain ⟨nm, hnm⟩ : ∃ nm : Int, (if 1 < o.many - (c : Int) % 5 then o.many - (c : Int) % 5 else 1) = nm := ⟨_, rfl⟩
                    rw [hnm]
                    obtain ⟨Y, hY⟩ : ∃ Y, Y = X2.setCell ⟨og, 1, none⟩ (.int .i64 nm) := ⟨_, rfl⟩
                    have rY := heap_setCell_same X2 _ 1 _ _ (.int .i64 nm) RX2.out
                    have bY : Below U.heap.size U Y := by rw [hY]; exact BX2.out.setCell Hog1.out _
                    rw [← hY] at rY ⊢
                    have HSY := Lib.hid (HSU.out.next bY)
                    have HT := Lib.hid ((HT.out.below bY).mono bY.size)
                    have d0 := (bY.cell (cell_lt D0.out)).trans D0.out
                    have rL := (bY.block _ (lt_of_block R31.out)).trans R31.out
                    have l2 := cellOf rL 2 (v := .slice (some ao) s.orders.length c10) rfl
                    have hO := HO.out.below bY
                    have m0 := cellOf rY 0 (v := .int .i64 o.part) rfl
                    have m1 := cellOf rY 1 (v := .int .i64 nm) rfl
                    have m2 := cellOf rY 2 (v := .int .i64 nd) rfl
                    have m3 := cellOf rY 3 (v := .int .i64 o.worth) rfl
                    have RL := Lib.hid rL
                    have BY := Lib.hid bY
                    have Hnm := Lib.hid hnm
                    clear hY rY bY rL hnm mf1 x2 hq5 hw2 RX2 BX2 HS T1 HSU R31 HO D0
                    obtain ⟨gb, hgb, hgb1, hgb2, hcl4, hfr, hown⟩ := hO.putOrd Hql.out ⟨o.part, nm, nd, o.worth⟩
                    obtain rfl := Option.some.inj hgb
                    obtain ⟨u0, hu0⟩ := hcl4 0 (by omega)
                    obtain ⟨u1, hu1⟩ := hcl4 1 (by omega)
                    obtain ⟨u2, hu2⟩ := hcl4 2 (by omega)
                    obtain ⟨u3, hu3⟩ := hcl4 3 (by omega)
                    rw [Nat.add_zero] at hu0
                    have fr0 := hfr (q * 4)
                    have fr1 := hfr (q * 4 + 1)
                    have fr2 := hfr (q * 4 + 2)
                    have fr3 := hfr (q * 4 + 3)
                    have HOY := Lib.hid hO
                    clear hO hcl4 hfr hown
                    refine region_quiet_tail (C := fun w' => ∃ n, w' = Y.drewN n) 8 (by kernel_rfl) (by kernel_rfl) ⟨1, rfl⟩ ?_
                    simp only [List.take_succ_cons, List.take_zero, List.drop_succ_cons, List.drop_zero]
                    repeat (first | go_big_quiet_step (fail) | quiet_step (fail))
                    refine wpQuiet_nil ?_
                    rintro _ ⟨n9, rfl⟩
                    go_upto_region 35 with (fail)
                    obtain ⟨gb', hgb', hgb3, hgb4, _, _, hown⟩ := (HOY.out.qt ⟨n9, rfl⟩).putOrd Hql.out ⟨o.part, nm, nd, o.worth⟩
                    have hgg : gb' = gb := by have := Option.some.inj hgb'; injection this with h1 _ _; exact h1.symm
                    subst hgg
                    have hgw : wz.heap.size ≤ gb' := Nat.le_trans (Nat.le_of_lt HlV.out) hgb1
                    have hgn : gb' ≠ wz.heap.size := by have := HlV.out; omega
                    have bZ : Below wz.heap.size wz (((((Y.drewN n9).setCell ⟨gb', q * 4, none⟩ (.int .i64 o.part)).setCell ⟨gb', q * 4 + 1, none⟩ (.int .i64 nm)).setCell ⟨gb', q * 4 + 2, none⟩ (.int .i64 nd)).setCell ⟨gb', q * 4 + 3, none⟩ (.int .i64 o.worth)) :=
                      ((((below_drewN (HbU.out.trans (BY.out.mono HbU.out.size)) n9).setCell hgw _).setCell hgw _).setCell hgw _).setCell hgw _
                    have rZ : (((((Y.drewN n9).setCell ⟨gb', q * 4, none⟩ (.int .i64 o.part)).setCell ⟨gb', q * 4 + 1, none⟩ (.int .i64 nm)).setCell ⟨gb', q * 4 + 2, none⟩ (.int .i64 nd)).setCell ⟨gb', q * 4 + 3, none⟩ (.int .i64 o.worth)).heap[wz.heap.size]? = some (.cells #[.slice Ah s.hours.length ch, .slice Ap s.parts.length cp, .slice (some ⟨gb', 0, none⟩) s.orders.length c10] 26) := by
                      rw [Below.heap_setCell _ _ _ _ (Ne.symm hgn), Below.heap_setCell _ _ _ _ (Ne.symm hgn), Below.heap_setCell _ _ _ _ (Ne.symm hgn), Below.heap_setCell _ _ _ _ (Ne.symm hgn)]
                      exact RL.out
                    obtain ⟨Z, hZ⟩ : ∃ Z, Z = ((((Y.drewN n9).setCell ⟨gb', q * 4, none⟩ (.int .i64 o.part)).setCell ⟨gb', q * 4 + 1, none⟩ (.int .i64 nm)).setCell ⟨gb', q * 4 + 2, none⟩ (.int .i64 nd)).setCell ⟨gb', q * 4 + 3, none⟩ (.int .i64 o.worth) := ⟨_, rfl⟩
                    rw [← hZ] at bZ rZ hown ⊢
                    have HSZ := Lib.hid (HSz.out.next bZ)
                    have HTZ := Lib.hid ((HTz.out.below bZ).mono bZ.size)
                    have HLS : Hid (ShS w Z.heap.size wz.heap.size (.slice Ah s.hours.length ch) (.slice Ap s.parts.length cp) (.slice (some ⟨gb', 0, none⟩) s.orders.length c10) (laterS s q ((b : Int) % 5) ((c : Int) % 5)) Z) := Lib.hid (by
                      obtain ⟨_, _, _, hv, k1, k2, _⟩ := id HSZ.out.shop
                      cases hv
                      have hlo : (laterS s q ((b : Int) % 5) ((c : Int) % 5)).orders = s.orders.set q ⟨o.part, nm, nd, o.worth⟩ := by
                        show s.orders.set q (laterO s.hours.length ((b : Int) % 5) ((c : Int) % 5) (s.orders.getD q default)) = _
                        rw [List.getD_eq_getElem?_getD, Ho.out]
                        have e1 : min ((s.hours.length : Int) - 1) (o.due + (b : Int) % 5) = nd := by rw [← Hnd.out]; omega
                        have e2 : max 1 (o.many - (c : Int) % 5) = nm := by rw [← Hnm.out]; omega
                        unfold laterO
                        rw [e1, e2]
                      have hR := hown.rd
                      rw [← hlo] at hR
                      exact ⟨⟨_, _, _, rfl, k1.mono HSZ.out.hB, k2.mono HSZ.out.hB, hR⟩, HSZ.out.nm, Nat.le_refl _, rZ, HSZ.out.below⟩)
                    obtain ⟨u0, u1, u2⟩ := HLS.out.cells
                    clear hZ bZ rZ hown hgw hgn hgb' hgb1 hgb2 hgb3 hgb4 hu0 hu1 hu2 hu3 fr0 fr1 fr2 fr3 l2 d0 m0 m1 m2 m3 HSY HOY RL BY
                    go_upto_region 36 with (go_at_call 38; refine (lcan_any (HLS.out.given HTZ.out)).mono ?_; rw [HCr.out]; rintro e wy ⟨rfl, hb⟩; have HSZ := Lib.hid (HSZ.out.next hb); clear hb u0 u1 u2)
                    go_wp2_with (go_at_call 23; refine (awake_any _).mono ?_; rintro e w9 ⟨rfl, hb⟩; have HSZ := Lib.hid (HSZ.out.next hb); clear hb)
                    go_ret
                    exact ⟨rfl, HSZ.out.below⟩
  · have heb : (errOf s == 0) = false := beq_false_of_ne he
    clear he
    go_wp2_with (first | (go_at_call 36; refine (valid_any HS.out.shop HS.out.nm HS.out.hB).mono ?_; rintro e w1 ⟨rfl, hb⟩; have HS := Lib.hid (HS.out.next hb); clear hb c0 c1 c2) | (go_at_call 23; refine (awake_any _).mono ?_; rintro e w4 ⟨rfl, hb⟩; have HS := Lib.hid (HS.out.next hb); clear hb))
    go_ret
    exact ⟨rfl, HS.out.below⟩
end Go.Proofs.Ytkmaapkbonkjfaa
