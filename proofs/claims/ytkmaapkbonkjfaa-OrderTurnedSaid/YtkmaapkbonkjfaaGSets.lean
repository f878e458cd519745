/- Walks of the layer order: the sets that can be kept, one by one. Walks of the layer order: sets; a range over the sets of a shop. -/
import Derived.Test.YtkmaapkbonkjfaaGBits
import Derived.Test.YtkmaapkbonkjfaaGPlan
import Derived.Test.YtkmaapkbonkjfaaGPromise
import Derived.WalkMore
import Derived.Laws.EntriesVeiled
set_option linter.unusedSimpArgs false
set_option linter.unusedVariables false
namespace Go.Proofs.Ytkmaapkbonkjfaa
open Go.RowKit Go.Shelf
attribute [local go_sem] Oper.semAt_some

/-- what the iterator does between two rounds: castings that are known -/
structure SetS (s : ShopR) (bm : Nat) (H : Nat) (w w' : World) : Prop where
  keep : KeepM bm w w'
  m0 : MapAt (castP s) w bm
  m1 : MapAt (castP s) w' bm
structure SetN (s : ShopR) (B sb wb ub p bm a b : Nat) (w : World) : Prop where
  cs : w.cell? ⟨sb, 0, none⟩ = some (.pointer (some ⟨p, 0, none⟩))
  cw : w.cell? ⟨wb, 0, none⟩ = some (.int .i64 a)
  cu : w.cell? ⟨ub, 0, none⟩ = some (.int .i64 b)
  shop : ShopAt B w p bm s
  hB : B ≤ w.heap.size
def setEl (s : ShopR) (a b k : Nat) : Array Value := #[.int .i64 (((setNs s a b).getD k 0 : Nat) : Int), .int .i64 (worthOf s (bitsOf s.orders.length ((setNs s a b).getD k 0)))]

theorem wrap_pow (n : Nat) (hn : n ≤ 8) : wrap64 (2 ^ n) = ((2 ^ n : Nat) : Int) := by
  have h : n = 0 ∨ n = 1 ∨ n = 2 ∨ n = 3 ∨ n = 4 ∨ n = 5 ∨ n = 6 ∨ n = 7 ∨ n = 8 := by omega
  rcases h with h | h | h | h | h | h | h | h | h <;> (subst h; rw [IntWalk.wrap64_in _ ⟨by decide, by decide⟩]; rfl)

set_option maxRecDepth 100000 in
theorem sets_iter {s : ShopR} (hg : Good s) (a b : Nat) (ha : a < 256) (hb : b < 256) (B sb wb ub p bm : Nat) :
    Iter Try.prog 88 #[.pointer (some ⟨sb, 0, none⟩), .pointer (some ⟨wb, 0, none⟩), .pointer (some ⟨ub, 0, none⟩)] (setNs s a b).length (setEl s a b) (fun _ _ _ => True) (SetS s bm) (SetN s B sb wb ub p bm a b) := by
  intro L Y Z W hS hN hR h0
  refine callsIn_wide.2 ?_
  have hn0 := hN _ _ h0
  show Calls Try.prog 88 #[.func (.yield L) #[] #[], .pointer (some ⟨sb, 0, none⟩), .pointer (some ⟨wb, 0, none⟩), .pointer (some ⟨ub, 0, none⟩)] W _
  obtain ⟨⟨vh, vp, vo, vu, hp, _, _, ho, _⟩, _⟩ := id hn0.shop
  obtain ⟨Ao, co, rfl, _⟩ := id ho
  have cs := hn0.cs
  have m2 := cellOf hp 2 (v := .slice Ao s.orders.length co) rfl
  have holen := hg.olen
  have hsh := wrap_pow s.orders.length holen
  have hpow : 2 ^ s.orders.length ≤ 256 := by
    have := Nat.pow_le_pow_right (n := 2) (by omega) holen
    simpa using this
  obtain ⟨M, hM⟩ : ∃ M : Nat, M = 2 ^ s.orders.length := ⟨_, rfl⟩
  rw [← hM] at hpow
  have HY := Lib.hid h0
  have HM := Lib.hid hM
  have HS := Lib.hid hS
  have HN := Lib.hid hN
  have HR := Lib.hid hR
  clear hM h0 hS hN hR hn0 hp ho
  go_enter Try.func88, Try.ntmps88
  go_wp2
  go_step3
  go_wp2
  go_step3
  rw [← HM.out] at hsh
  go_wp2
  rw [hsh]
  clear cs m2 hsh
  go_loopw [17] (fun i wr => ∃ x : Nat, x ≤ M ∧ i = .int .i64 x ∧ Y (cntS s a b x) wr) (fun i _ => M - (intOf i).toNat)
  case atStart => exact ⟨0, Nat.zero_le _, rfl, HY.out⟩
  case round =>
    clear HY
    obtain ⟨x, hk, rfl, hY⟩ := hrel
    by_cases hlt : x < M
    · have hx8 : x < 256 := by omega
      have hx2 : x < 2 ^ s.orders.length := by rw [← HM.out]; exact hlt
      have hn := HN.out _ _ hY
      have cs := hn.cs
      have cw := hn.cw
      have cu := hn.cu
      have ba := bits_and_i64 x a hx8 ha
      have bb := bits_and_i64 x b hx8 hb
      have hya : x &&& a < 256 := Nat.lt_of_le_of_lt Nat.and_le_left hx8
      have hyb : x &&& b < 256 := Nat.lt_of_le_of_lt Nat.and_le_left hx8
      obtain ⟨ya, hya2⟩ : ∃ y, y = x &&& a := ⟨_, rfl⟩
      obtain ⟨yb, hyb2⟩ : ∃ y, y = x &&& b := ⟨_, rfl⟩
      rw [← hya2] at ba hya
      rw [← hyb2] at bb hyb
      have HYA := Lib.hid hya2
      have HYB := Lib.hid hyb2
      have HY := Lib.hid hY
      clear hya2 hyb2 hY hn
      by_cases ca : ya = a
      · by_cases cb : yb = 0
        · have t1 : ((ya : Int) != (a : Int)) = false := by simp [ca]
          have t2 : ((yb : Int) != 0) = false := by simp [cb]
          have htp : takeP s a b x = canB s (ordsOf s (bitsOf s.orders.length x)) := by
            unfold takeP
            rw [← HYA.out, ← HYB.out, show (ya == a) = true by simpa using ca, show (yb == 0) = true by simpa using cb]
            simp
          have hXm : ∀ i ∈ bitsOf s.orders.length x, i < s.orders.length := fun i hi => (bits_mem hi).1
          have hXl := bits_len s.orders.length x
          have hfit := fit_ords hg x
          have hat := fun h => setNs_at (s := s) (a := a) (b := b) (x := x) hx2 h
          have hel : takeP s a b x = true → setEl s a b (cntS s a b x) = #[.int .i64 x, .int .i64 (worthOf s (bitsOf s.orders.length x))] := fun h => by unfold setEl; rw [(hat h).2]
          have Hli := Lib.hid (list_any x s.orders.length hx8 (lenB_lt hx2))
          have Htp := Lib.hid htp
          have Hat := Lib.hid hat
          have Hel := Lib.hid hel
          have HXm := Lib.hid hXm
          have Hfit := Lib.hid hfit
          have hn := HN.out _ _ HY.out
          have hwb := worth_bd hg hXm
          clear ca cb htp hat hel hfit HYA HYB
          generalize bitsOf s.orders.length x = X at *
          go_wp2_with (go_at_call 70; refine (Hli.out _).mono ?_; rintro e w1 ⟨A1, c1, rfl, hown1, hb1⟩; have Hown1 := Lib.hid hown1; have Hb1 := Lib.hid hb1; clear hown1 hb1)
          clear cw cu t1 t2 ba bb
          have cs := (Hb1.out.cell (cell_lt cs)).trans cs
          have hsh1 := Lib.hid (hn.shop.below Hb1.out)
          have hB1 : B ≤ w1.heap.size := Nat.le_trans hn.hB Hb1.out.size
          have Hn := Lib.hid hn
          clear hn
          go_loopw [6, 7, 34] (fun wv lv i wi => ∃ (j : Nat) (A9 : Option Addr) (c9 : Nat), j ≤ X.length ∧ i = .int .i64 j ∧ wv = .int .i64 (worthOf s (X.take j)) ∧ lv = .slice A9 j c9 ∧ Own w1.heap.size 60 wi (.slice A9 j c9) (ordsOf s (X.take j)) ∧ Below w1.heap.size w1 wi) (fun _ _ i _ => X.length - (intOf i).toNat)
          case atStart => exact ⟨0, none, 0, Nat.zero_le _, rfl, rfl, rfl, Own.nil _ _ _, Below.refl _ _⟩
          case round =>
            obtain ⟨j, A9, c9, hj, rfl, rfl, rfl, hown, hb⟩ := hrel
            have hsz9 := hb.size
            by_cases hlt2 : j < X.length
            · have hshi := hsh1.out.below hb
              obtain ⟨⟨vh, vp, vo, vu, hp, _, _, ho, _⟩, _⟩ := id hshi
              obtain ⟨Ao, co, rfl, _⟩ := id ho
              have m2 := cellOf hp 2 (v := .slice Ao s.orders.length co) rfl
              have cs := (hb.cell (cell_lt cs)).trans cs
              obtain ⟨al, rfl, _, l0⟩ := (Hown1.out.rd.below hb).int (i := j) (by simpa using hlt2)
              obtain ⟨q, hq⟩ : ∃ q, q = X[j] := ⟨_, rfl⟩
              rw [show ((X.map Int.ofNat)[j]?.getD 0) = (q : Int) by rw [hq]; simp [hlt2]] at l0
              have hqo : q < s.orders.length := HXm.out q (by rw [hq]; exact List.getElem_mem hlt2)
              obtain ⟨ao, rfl, _, o0, o1, o2, o3⟩ := ho.ord hqo
              have htk : X.take (j + 1) = X.take j ++ [q] := by rw [hq, List.take_succ_eq_append_getElem hlt2]
              have hws := worth_snoc s (X.take j) q
              have hos : ordsOf s (X.take j ++ [q]) = ordsOf s (X.take j) ++ [s.orders[q]?.getD default] := by simp [ordsOf, List.getD_eq_getElem?_getD]
              rw [← htk] at hws hos
              rw [List.getD_eq_getElem?_getD] at hws
              have hob := (hg.ord hqo).worth
              rw [List.getD_eq_getElem?_getD] at hob
              have hwb2 := worth_bd hg (X := X.take j) (fun i hi => HXm.out i (List.mem_of_mem_take hi))
              have hll : (ordsOf s (X.take j)).length = j := by rw [ords_len, List.length_take]; omega
              have hjl : (X.take j).length = j := by rw [List.length_take]; omega
              rw [hjl] at hwb2
              generalize s.orders[q]?.getD default = o at *
              obtain ⟨A2, c2, w2, hrun, hown2, hb2, _⟩ := append_ord hown o (by omega) hsz9
              rw [hll] at hrun hown2
              have Hown2 := Lib.hid hown2
              have Hb2 := Lib.hid (hb.trans hb2)
              have Hws := Lib.hid hws
              have Hos := Lib.hid hos
              have hq8 : (q : Int) < s.orders.length := by omega
              clear hq htk hws hos hll hjl hown hb hown2 hb2 hshi hp ho
              go_wp2_with (at_builtin; refine wpList_append_run rfl _ _ _ rfl rfl rfl hrun ?_)
              go_roundw
              case rel => exact ⟨j + 1, A2, c2, by omega, by go_num, by rw [Hws.out], rfl, by rw [Hos.out]; exact Hown2.out, Hb2.out⟩
              case measure => simp [intOf]; omega
            · have hjX : j = X.length := by omega
              subst hjX
              rw [List.take_of_length_le (Nat.le_refl _)] at hown ⊢
              have hshi := hsh1.out.below hb
              have hlen : (ordsOf s X).length = X.length := ords_len s X
              have hcan := Lib.hid (pcan_any (hshi.mono (show B ≤ wr.heap.size from Nat.le_trans hB1 hsz9)) hown.rd hg Hfit.out (Nat.le_refl _))
              have cs := (hb.cell (cell_lt cs)).trans cs
              have HbA := Lib.hid (Hb1.out.trans (hb.mono Hb1.out.size))
              clear hown hb hshi hlen
              obtain ⟨wi, rfl⟩ : ∃ wi : World, wi = wr := ⟨_, rfl⟩
              cases hc : canB s (ordsOf s X) with
              | false =>
                rw [hc] at hcan
                have Hno := Lib.hid (cntS_no (Htp.out.trans hc))
                clear hc
                go_wp2_with (go_at_call 60; refine hcan.out.mono ?_; rintro e wz ⟨rfl, hk, hm⟩; have HK := Lib.hid hk; have HMz := Lib.hid hm; clear hk hm)
                go_roundw
                case rel =>
                  refine ⟨x + 1, by omega, by go_num, ?_⟩
                  rw [Hno.out]
                  exact HS.out _ _ _ HY.out ⟨(KeepM.of_below HbA.out).trans HK.out, Hn.out.shop.map, HMz.out⟩
                case measure => simp [intOf]; omega
              | true =>
                rw [hc] at hcan
                have Hyes := Lib.hid (cntS_yes (Htp.out.trans hc))
                have Hlt := Lib.hid (Hat.out (Htp.out.trans hc)).1
                have Hel2 := Lib.hid (Hel.out (Htp.out.trans hc))
                clear hc
                go_upto_region 13 with (go_at_call 60; refine hcan.out.mono ?_; rintro e wz ⟨rfl, hk, hm⟩; have HK := Lib.hid hk; have HMz := Lib.hid hm; clear hk hm)
                obtain ⟨fn, tmps, assign, body, hy, hRR⟩ := HR.out _ wz Hlt.out (HS.out _ _ _ HY.out ⟨(KeepM.of_below HbA.out).trans HK.out, Hn.out.shop.map, HMz.out⟩)
                rw [Hel2.out] at hy
                refine (wpIn_wide (n := 0)).1 ?_
                gi_wp2
                refine ⟨rfl, hRR.mono ?_⟩
                rintro e W' (⟨rfl, hY', _⟩ | ⟨rfl, hZ⟩)
                · gi_wp2
                  go_wp2
                  go_roundw
                  case rel => exact ⟨x + 1, by omega, by go_num, by rw [Hyes.out]; exact hY'⟩
                  case measure => simp [intOf]; omega
                · gi_wp2
                  go_wp2
                  rw [Exit.noGoto_ret]
                  refine bodyPost_ret (results_none rfl _ _ _) rfl ?_
                  exact ⟨⟨_, rfl⟩, .inr hZ⟩
        · have t1 : ((ya : Int) != (a : Int)) = false := by simp [ca]
          have t2 : ((yb : Int) != 0) = true := by simp [cb]
          have hno : takeP s a b x = false := by
            unfold takeP
            rw [← HYB.out, show (yb == 0) = false by simpa using cb]
            simp
          have Hno := Lib.hid (cntS_no hno)
          clear ca cb hno
          go_wp2
          go_roundw
          case rel => exact ⟨x + 1, by omega, by go_num, by rw [Hno.out]; exact HY.out⟩
          case measure => simp [intOf]; omega
      · have t1 : ((ya : Int) != (a : Int)) = true := by simp; omega
        have hno : takeP s a b x = false := by
          unfold takeP
          rw [← HYA.out, show (ya == a) = false by simpa using ca]
          simp
        have Hno := Lib.hid (cntS_no hno)
        clear ca hno
        go_wp2
        go_roundw
        case rel => exact ⟨x + 1, by omega, by go_num, by rw [Hno.out]; exact HY.out⟩
        case measure => simp [intOf]; omega
    · have hxm : x = M := by omega
      have HY := Lib.hid hY
      have hx2 : x = 2 ^ s.orders.length := hxm.trans HM.out
      subst hxm
      have HX := Lib.hid hx2
      clear hY hx2
      go_wp2
      rw [Exit.noGoto_normal]
      go_end0
      refine ⟨⟨_, rfl⟩, .inl ?_⟩
      rw [← cntS_end, ← HX.out]
      exact HY.out
end Go.Proofs.Ytkmaapkbonkjfaa
namespace Go.Proofs.Ytkmaapkbonkjfaa
open Go.RowKit Go.Shelf
attribute [local go_sem] Oper.semAt_some

theorem sets_any (w : World) (p : Nat) (a b : Int) :
    Calls Try.prog 69 #[.pointer (some ⟨p, 0, none⟩), .int .i64 a, .int .i64 b] w fun e w' => e = .returned (.func (.func 88) #[] #[.pointer (some ⟨w.heap.size, 0, none⟩), .pointer (some ⟨w.heap.size + 1, 0, none⟩), .pointer (some ⟨w.heap.size + 2, 0, none⟩)]) ∧
      w' = ((w.alloc (.cells #[.pointer (some ⟨p, 0, none⟩)] 84)).alloc (.cells #[.int .i64 a] 3)).alloc (.cells #[.int .i64 b] 3) := by
  go_enter Try.func69, Try.ntmps69
  go_wp2
  go_ret
  simp

/-- blocks of cells stay, and so do all blocks below H -/
structure Stay (s : ShopR) (bm H T : Nat) (A B : World) : Prop where
  below : Below H A B
  cells : ∀ (b : Nat) (c : Array Value) (t : TypeId) (f : Nat × Nat), A.heap[b]? = some (.cells c t f) → B.heap[b]? = some (.cells c t f)
  map : MapAt (castP s) A bm → MapAt (castP s) B bm
  mark : ∀ (b : Nat) (o : Obj), b < T → A.heap[b]? = some o → isData o = false → B.heap[b]? = some o
theorem Stay.of_book {s : ShopR} {bm H S T : Nat} {A B : World} (h : Book S A B) (hS : H ≤ S) (hT : T ≤ S) : Stay s bm H T A B :=
  ⟨h.below.mono hS, fun _ _ _ _ hc => h.data _ _ hc rfl, fun hm => hm.book h, fun b o hb ho _ => (h.below.block b (by omega)).trans ho⟩
theorem Stay.of_set {s : ShopR} {bm H H' T : Nat} {A B : World} (h : SetS s bm H' A B) (hA : H ≤ A.heap.size) (hb : H ≤ bm) : Stay s bm H T A B :=
  ⟨h.keep.below hA hb, fun _ _ _ _ hc => by obtain ⟨es, clk, hm, _⟩ := h.m0; exact h.keep.stay hm hc, fun _ => h.m1, fun b o _ ho hd => by obtain ⟨es, clk, hm, _⟩ := h.m0; exact h.keep.nc hm b o ho hd⟩
theorem ShopAt.stay {B H T : Nat} {A W : World} {p bm : Nat} {s : ShopR} (h : ShopAt B A p bm s) (k : Stay s bm H T A W) : ShopAt B W p bm s := by
  obtain ⟨⟨vh, vp, vo, vu, hp, h1, h2, h3, h4⟩, hm⟩ := h
  exact ⟨⟨vh, vp, vo, vu, k.cells _ _ _ _ hp, h1.stay fun b c e f _ hc => k.cells _ _ _ _ hc, h2.stay fun b c e f _ hc => k.cells _ _ _ _ hc, h3.stay fun b c e f _ hc => k.cells _ _ _ _ hc, h4.stay fun b c e f _ hc => k.cells _ _ _ _ hc⟩, k.map hm⟩

theorem sets_law {B H p bm : Nat} {s : ShopR} {w : World} (hg : Good s) (x y : Nat) (hx : x < 256) (hy : y < 256) (hHw : H ≤ w.heap.size) (hHb : H ≤ bm)
    {g : Operand} {ps : Array Tmp} {assign body : Code} {Q : Exit → Act → World → Prop} {a : Act}
    (he : a.eval g = .func (.func 88) #[] #[.pointer (some ⟨w.heap.size, 0, none⟩), .pointer (some ⟨w.heap.size + 1, 0, none⟩), .pointer (some ⟨w.heap.size + 2, 0, none⟩)]) (hps : 2 = ps.size)
    (E : Nat → World → Prop) (X : Code → World → Prop) (hE : ∀ k A B, E k A → Stay s bm H (w.heap.size + 3) A B → E k B) (hX : ∀ c A B, X c A → Stay s bm H (w.heap.size + 3) A B → X c B) (hN : ∀ k A, E k A → ShopAt B A p bm s ∧ B ≤ A.heap.size)
    {W0 : World} (hW0 : W0 = ((w.alloc (.cells #[.pointer (some ⟨p, 0, none⟩)] 84)).alloc (.cells #[.int .i64 x] 3)).alloc (.cells #[.int .i64 y] 3)) (h0 : E 0 W0)
    (hround : ∀ (r k : Nat) (W : World), k < (setNs s x y).length → E k W → w.heap.size + 3 ≤ W.heap.size → W0.heap.size < r → r < W.heap.size →
      assign.wpIn (Fence.wide.inRound r) 0 Try.prog (Exit.then (fun a₁ W₁ => NC W W₁ ∧ ∀ W₂, Book (w.heap.size + 3) W₁ W₂ → W₂.heap.size = W₁.heap.size →
        body.wpIn (Fence.wide.inRound r) 0 Try.prog (rEnd (fun W' => ((W'.heap[w.heap.size]? = W.heap[w.heap.size]? ∧ W'.heap[w.heap.size + 1]? = W.heap[w.heap.size + 1]? ∧ W'.heap[w.heap.size + 2]? = W.heap[w.heap.size + 2]?) ∧ E (k + 1) W') ∧ True)
          X W₂) a₁ W₂) (fun _ _ _ => False))
        { tmps := (ps.zip (setEl s x y k)).foldl (fun t (p, v) => t.setIfInBounds p v) a.tmps, defers := [] } W)
    (hdone : ∀ (d : Nat) (W : World), w.heap.size + 3 ≤ d → E (setNs s x y).length W → W.heap[d]? = some (.deferred (some [])) → Q .normal { a with defers := { target := .collected d, args := #[] } :: a.defers } W)
    (hstop : ∀ (d : Nat) (c : Code) (W : World), w.heap.size + 3 ≤ d → X c W → W.heap[d]? = some (.deferred (some [])) → c.wp Try.prog Q { a with defers := { target := .collected d, args := #[] } :: a.defers } W) :
    (Code.rangeFunc g ps assign body).wp Try.prog Q a W0 := by
  have hz0 : W0.heap.size = w.heap.size + 3 := by rw [hW0]; simp
  have r0 : W0.heap[w.heap.size]? = some (.cells #[.pointer (some ⟨p, 0, none⟩)] 84) := by rw [hW0]; exact (Below.heap_alloc _ _ _ (by simp; omega)).trans ((Below.heap_alloc _ _ _ (by simp)).trans (heap_alloc_new w _))
  have r1 : W0.heap[w.heap.size + 1]? = some (.cells #[.int .i64 x] 3) := by
    rw [hW0]
    have := heap_alloc_new (w.alloc (.cells #[.pointer (some ⟨p, 0, none⟩)] 84)) (.cells #[.int .i64 x] 3)
    rw [World.size_alloc] at this
    exact (Below.heap_alloc _ _ _ (by simp)).trans this
  have r2 : W0.heap[w.heap.size + 2]? = some (.cells #[.int .i64 y] 3) := by
    rw [hW0]
    have := heap_alloc_new ((w.alloc (.cells #[.pointer (some ⟨p, 0, none⟩)] 84)).alloc (.cells #[.int .i64 x] 3)) (.cells #[.int .i64 y] 3)
    rwa [World.size_alloc, World.size_alloc] at this
  refine range_law (gf := 88) (lb := #[.pointer (some ⟨w.heap.size, 0, none⟩), .pointer (some ⟨w.heap.size + 1, 0, none⟩), .pointer (some ⟨w.heap.size + 2, 0, none⟩)]) he (enters_of Try.func88 (by kernel_rfl) rfl)
    (fun _ => by rw [← hps]; rfl) (sets_iter hg x y hx hy B w.heap.size (w.heap.size + 1) (w.heap.size + 2) p bm) ?hKp ?hSN
    (fun k W => (W.heap[w.heap.size]? = some (.cells #[.pointer (some ⟨p, 0, none⟩)] 84) ∧ W.heap[w.heap.size + 1]? = some (.cells #[.int .i64 x] 3) ∧ W.heap[w.heap.size + 2]? = some (.cells #[.int .i64 y] 3)) ∧ E k W)
    X ?hJb ?hXb ?hJS ?hJN ⟨⟨r0, r1, r2⟩, h0⟩ ?hround ?hdone ?hstop
  case hKp => exact fun _ _ _ _ _ _ => trivial
  case hSN =>
    intro _ A B h
    obtain ⟨es, clk, hm, _⟩ := h.m0
    exact h.keep.nc hm
  case hJb => exact fun k A B ⟨h3, h4⟩ hb => ⟨⟨hb.data _ _ h3.1 rfl, hb.data _ _ h3.2.1 rfl, hb.data _ _ h3.2.2 rfl⟩, hE _ _ _ h4 (.of_book hb (by omega) (by omega))⟩
  case hXb => exact fun c A B h hb => hX _ _ _ h (.of_book hb (by omega) (by omega))
  case hJS =>
    intro k A B ⟨h3, h4⟩ hb
    have hA : H ≤ A.heap.size := by have := lt_of_block h3.1; omega
    have hst := Stay.of_set (T := w.heap.size + 3) hb hA hHb
    exact ⟨⟨hst.cells _ _ _ _ h3.1, hst.cells _ _ _ _ h3.2.1, hst.cells _ _ _ _ h3.2.2⟩, hE _ _ _ h4 hst⟩
  case hJN =>
    rintro k A ⟨h3, h4⟩
    obtain ⟨h1, h2⟩ := hN _ _ h4
    exact ⟨cellOf h3.1 0 rfl, cellOf h3.2.1 0 rfl, cellOf h3.2.2 0 rfl, h1, h2⟩
  case hround =>
    rintro r k W hk ⟨h3, h4⟩ hr1 hr2
    refine wpIn_mono (hround r k W hk h4 (by have := lt_of_block h3.2.2; omega) hr1 hr2) ?_
    rintro e a₁ W₁ hp
    cases e with
    | normal =>
      obtain ⟨hnc, hb⟩ := hp
      refine ⟨hnc, fun W₂ hbk hsz => ?_⟩
      rw [hz0] at hbk
      refine wpIn_mono (hb W₂ hbk hsz) ?_
      rintro e a₂ W' hp
      cases e with
      | normal =>
        obtain ⟨k1, ⟨k4, k5⟩, k6⟩ := hp
        exact ⟨k1, ⟨⟨k4.1.trans h3.1, k4.2.1.trans h3.2.1, k4.2.2.trans h3.2.2⟩, k5⟩, trivial⟩
      | ret => exact hp
      | exit id => exact hp
      | goto t => exact hp
      | panic ch => exact hp
      | outgrown => exact hp
    | ret => exact hp
    | exit id => exact hp
    | goto t => exact hp
    | panic ch => exact hp
    | outgrown => exact hp
  case hdone => exact fun d W hd ⟨_, h4⟩ hk => hdone d W (by omega) h4 hk
  case hstop => exact fun d c W hd h hk => hstop d c W (by omega) h hk
end Go.Proofs.Ytkmaapkbonkjfaa
