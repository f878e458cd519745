/- Walks of the layer order: Most of the reference: a recursion over beginnings. Walks of the layer order: Best and Without of the reference. Walks of the layer order: Without of the reference. Walks of the layer order: With of the reference: a recursion over orders. Walks of the layer order: Costs of the reference. Walks of the layer order: OrderBest. -/
import Derived.Test.YtkmaapkbonkjfaaGRefA
import Derived.Test.YtkmaapkbonkjfaaGWorth
import Derived.Test.YtkmaapkbonkjfaaLawK
set_option linter.unusedSimpArgs false
set_option linter.unusedVariables false
namespace Go.Proofs.Ytkmaapkbonkjfaa
open Go.RowKit

theorem Rd.keepBlk {α : Type} {At : World → Addr → α → Prop} [AtKeep At] {sz B : Nat} {w w' : World} {v : Value} {xs : List α} (h : Rd At sz B w v xs) (hk : ∀ ad n c, v = .slice (some ad) n c → w'.heap[ad.block]? = w.heap[ad.block]?) : Rd At sz B w' v xs := by
  obtain ⟨A, cap, e, h1, h2, h3⟩ := h
  refine ⟨A, cap, e, h1, h2, fun i x hx => ?_⟩
  obtain ⟨ad, e2, hb, ha⟩ := h3 i x hx
  subst e e2
  refine ⟨ad, rfl, hb, AtKeep.keep w w' _ x (fun p hp => ?_) ha⟩
  rw [block_add] at hp
  exact World.cell?_of_block (by rw [hp]; exact hk ad _ _ rfl)
/-- the slice is the one that came in, or lies from n on -/
def EqOr (n : Nat) (vb v : Value) : Prop := v = vb ∨ SlFrom n v
def MostR (w : World) (vb : Value) (m : List Nat × Int) (e : Ending) (w' : World) : Prop :=
  ∃ A c, e = .returned (.agg #[.slice A m.1.length c, .int .i64 m.2]) ∧ EqOr w.heap.size vb (.slice A m.1.length c) ∧ Rd IntAt 1 w'.heap.size w' (.slice A m.1.length c) (m.1.map Int.ofNat) ∧ Below w.heap.size w w'
/-- the best one so far -/
def mostU (s : ShopR) (f : Nat) (b : List Nat) (k c : Nat) : List Nat × Int :=
  (List.range' k c).foldl (fun best i => if canB s (ordsOf s (b ++ [i])) then (if best.2 < (mostF s f (b ++ [i]) (i + 1)).2 then mostF s f (b ++ [i]) (i + 1) else best) else best) (b, worthOf s b)
theorem mostU_zero (s : ShopR) (f : Nat) (b : List Nat) (k : Nat) : mostU s f b k 0 = (b, worthOf s b) := rfl
theorem mostU_succ (s : ShopR) (f : Nat) (b : List Nat) (k c : Nat) : mostU s f b k (c + 1) =
    if canB s (ordsOf s (b ++ [k + c])) then (if (mostU s f b k c).2 < (mostF s f (b ++ [k + c]) (k + c + 1)).2 then mostF s f (b ++ [k + c]) (k + c + 1) else mostU s f b k c) else mostU s f b k c := by
  unfold mostU
  rw [List.range'_concat, List.foldl_append]
  simp only [List.foldl_cons, List.foldl_nil, Nat.one_mul]
theorem mostU_end (s : ShopR) (f : Nat) (b : List Nat) (k : Nat) : mostU s f b k (s.orders.length - k) = mostF s (f + 1) b k := rfl
theorem rise_snoc {n : Nat} {b : List Nat} {i : Nat} (h : Rise i b) (hi : i < n) : Rise n (b ++ [i]) := by
  refine ⟨?_, fun j hj => ?_⟩
  · rw [List.pairwise_append]
    refine ⟨h.1, by simp, fun a ha c hc => ?_⟩
    rw [List.mem_singleton.1 hc]
    exact h.2 a ha
  · rcases List.mem_append.1 hj with hj | hj
    · have := h.2 j hj; omega
    · rw [List.mem_singleton.1 hj]; exact hi
theorem Rise.mono {n m : Nat} {b : List Nat} (h : Rise n b) (hm : n ≤ m) : Rise m b := ⟨h.1, fun j hj => Nat.lt_of_lt_of_le (h.2 j hj) hm⟩
theorem mostF_bd {s : ShopR} (hg : Good s) : ∀ (f : Nat) (b : List Nat) (k : Nat), k ≤ s.orders.length → Rise k b → Rise s.orders.length (mostF s f b k).1 ∧ 0 ≤ (mostF s f b k).2 ∧ (mostF s f b k).2 ≤ 80000 := by
  have hw : ∀ x, Rise s.orders.length x → 0 ≤ worthOf s x ∧ worthOf s x ≤ 80000 := fun x hx => by
    have h1 := worth_bd hg (X := x) hx.2
    have h2 := (rise_sub hx).length_le
    have := hg.olen
    rw [List.length_range] at h2
    omega
  intro f
  induction f with
  | zero => intro b k hk hb; exact ⟨hb.mono hk, hw b (hb.mono hk)⟩
  | succ f ih =>
    intro b k hk hb
    rw [← mostU_end]
    have key : ∀ c, k + c ≤ s.orders.length → Rise s.orders.length (mostU s f b k c).1 ∧ 0 ≤ (mostU s f b k c).2 ∧ (mostU s f b k c).2 ≤ 80000 := by
      intro c
      induction c with
      | zero => intro _; exact ⟨hb.mono hk, hw b (hb.mono hk)⟩
      | succ c ihc =>
        intro hc
        rw [mostU_succ]
        split
        · split
          · exact ih _ _ (by omega) (rise_snoc (hb.mono (by omega)) (by omega))
          · exact ihc (by omega)
        · exact ihc (by omega)
    exact key _ (by omega)
theorem mostU_bd {s : ShopR} (hg : Good s) (f : Nat) {b : List Nat} {k c : Nat} (hk : k + c ≤ s.orders.length) (hb : Rise k b) : Rise s.orders.length (mostU s f b k c).1 ∧ 0 ≤ (mostU s f b k c).2 ∧ (mostU s f b k c).2 ≤ 80000 := by
  have hw : ∀ x, Rise s.orders.length x → 0 ≤ worthOf s x ∧ worthOf s x ≤ 80000 := fun x hx => by
    have h1 := worth_bd hg (X := x) hx.2
    have h2 := (rise_sub hx).length_le
    have := hg.olen
    rw [List.length_range] at h2
    omega
  induction c with
  | zero => exact ⟨hb.mono hk, hw b (hb.mono hk)⟩
  | succ c ihc =>
    rw [mostU_succ]
    split
    · split
      · exact mostF_bd hg f _ _ (by omega) (rise_snoc (hb.mono (by omega)) (by omega))
      · exact ihc (by omega)
    · exact ihc (by omega)

theorem rd_eqor {w X X' : World} {B C m n : Nat} {vb v : Value} {ys xs : List Int} (hvb : Rd IntAt 1 B w vb ys) (hB : B ≤ m) (h : EqOr n vb v) (hr : Rd IntAt 1 C X v xs) (hlo : ∀ g, g < m → X'.heap[g]? = X.heap[g]?) (hhi : ∀ g, n ≤ g → X'.heap[g]? = X.heap[g]?) : Rd IntAt 1 C X' v xs := by
  obtain ⟨A, cap, e, h1, h2, h3⟩ := hr
  refine ⟨A, cap, e, h1, h2, fun i x hx => ?_⟩
  obtain ⟨ad, e2, hb, ha⟩ := h3 i x hx
  subst e2
  refine ⟨ad, rfl, hb, AtKeep.keep X X' _ x (fun p hp => ?_) ha⟩
  rw [block_add] at hp
  refine World.cell?_of_block ?_
  rw [hp]
  rcases h with h | h
  · obtain ⟨A', cap', e', k1, k2, k3⟩ := hvb
    rw [← h, e] at e'
    injection e' with q1 q2 q3
    have hi : i < ys.length := by have := (List.getElem?_eq_some_iff.1 hx).1; omega
    obtain ⟨ad', e3, hb', _⟩ := k3 i ys[i] (List.getElem?_eq_getElem hi)
    rw [← q1] at e3
    injection e3 with e3
    exact hlo _ (by rw [e3]; omega)
  · exact hhi _ (h ad _ _ e)
/-- what Most keeps: the result's block, and the best one so far -/
structure MoS (w w1 : World) (vb : Value) (x : List Nat) (A : Option Addr) (c : Nat) (n : Int) (X : World) : Prop where
  bel : Below (w.heap.size + 1) w1 X
  res : X.heap[w.heap.size + 1]? = some (.cells #[.slice none 0 0, .int .i64 0] 115)
  best : X.heap[w.heap.size + 1 + 1]? = some (.cells #[.slice A x.length c, .int .i64 n] 115)
  from_ : EqOr (w.heap.size + 3) vb (.slice A x.length c)
  rd : Rd IntAt 1 X.heap.size X (.slice A x.length c) (x.map Int.ofNat)
  size : w.heap.size + 3 ≤ X.heap.size
theorem MoS.next {w w1 : World} {vb : Value} {x : List Nat} {A : Option Addr} {c : Nat} {n : Int} {X X' : World} (h : MoS w w1 vb x A c n X) (hb : Below X.heap.size X X') : MoS w w1 vb x A c n X' :=
  ⟨h.bel.trans (hb.mono (by have := h.size; omega)), (hb.block _ (by have := h.size; omega)).trans h.res, (hb.block _ (by have := h.size; omega)).trans h.best, h.from_, (h.rd.below hb).mono hb.size, Nat.le_trans h.size hb.size⟩
/-- the best one is written anew -/
theorem MoS.put {w w1 : World} {B : Nat} {vb : Value} {ys : List Int} (hvb : Rd IntAt 1 B w vb ys) (hB : B ≤ w.heap.size) {x y : List Nat} {A A' : Option Addr} {c c' : Nat} {n m : Int} {X X' : World} (h : MoS w w1 vb x A c n X) (hk : ∀ g, g ≠ w.heap.size + 1 + 1 → X'.heap[g]? = X.heap[g]?) (hbel : Below (w.heap.size + 1) X X') (hz : X'.heap.size = X.heap.size)
    (hbest : X'.heap[w.heap.size + 1 + 1]? = some (.cells #[.slice A' y.length c', .int .i64 m] 115)) (hf : EqOr (w.heap.size + 3) vb (.slice A' y.length c')) (hr : Rd IntAt 1 X.heap.size X (.slice A' y.length c') (y.map Int.ofNat)) : MoS w w1 vb y A' c' m X' :=
  ⟨h.bel.trans hbel, (hk _ (by omega)).trans h.res, hbest, hf, by rw [hz]; exact rd_eqor hvb hB hf hr (fun g hg => hk g (by omega)) (fun g hg => hk g (by omega)), by rw [hz]; exact h.size⟩

set_option maxRecDepth 100000 in
set_option maxHeartbeats 4000000 in
theorem most_walk {B : Nat} {w : World} {v : Value} {s : ShopR} (hs : RdShop B w v s) (hg : Good s) (he : errOf s = 0) (hnm : ∀ p ∈ s.parts, p.name.size ≤ 9223372036854775807) (hB : B ≤ w.heap.size) (F : Nat) (b : List Nat) (k : Nat) (hk : k ≤ s.orders.length) (hb : Rise k b) {vb : Value} (hvb : Rd IntAt 1 B w vb (b.map Int.ofNat))
    (IH : ∀ (i : Nat) (w1 : World) (B1 : Nat) (vb1 : Value), k ≤ i → i < s.orders.length → RdShop B1 w1 v s → B1 ≤ w1.heap.size → Rd IntAt 1 B1 w1 vb1 ((b ++ [i]).map Int.ofNat) → Calls Try.prog 72 #[v, vb1, .int .i64 ((i + 1 : Nat) : Int)] w1 (MostR w1 vb1 (mostF s F (b ++ [i]) (i + 1)))) :
    Calls Try.prog 72 #[v, vb, .int .i64 k] w (MostR w vb (mostF s (F + 1) b k)) := by
  obtain ⟨vh, vp, vo, rfl, ⟨Ah, ch, rfl, _⟩, ⟨Ap, cp, rfl, _⟩, ⟨Ao, co, rfl, _⟩⟩ := id hs
  obtain ⟨Ab, cb, rfl, _⟩ := id hvb
  rw [List.length_map] at hvb ⊢
  have hwb : ∀ x, Rise s.orders.length x → 0 ≤ worthOf s x ∧ worthOf s x ≤ 80000 := fun x hx => by
    have h1 := worth_bd hg (X := x) hx.2
    have h2 := (rise_sub hx).length_le
    have := hg.olen
    rw [List.length_range] at h2
    omega
  obtain ⟨w1, hw1, _, hz1, hb1⟩ := box_any w #[.slice Ah s.hours.length ch, .slice Ap s.parts.length cp, .slice Ao s.orders.length co] 26
  have HS1 : Hid (ShS w B w.heap.size (.slice Ah s.hours.length ch) (.slice Ap s.parts.length cp) (.slice Ao s.orders.length co) s w1) := Lib.hid (by rw [hw1]; exact ShS.start hs hnm hB)
  go_enter Try.func72, Try.ntmps72
  go_upto_region 2 with (fail)
  rw [← hw1]
  obtain ⟨W2, hW2⟩ : ∃ W2, W2 = (w1.alloc (.cells #[.slice none 0 0, .int .i64 0] 115)).alloc (.cells #[.slice Ab b.length cb, .int .i64 0] 115) := ⟨_, rfl⟩
  have hr1 : W2.heap[w.heap.size + 1]? = some (.cells #[.slice none 0 0, .int .i64 0] 115) := by
    rw [hW2, ← hz1]; exact row_old w1 _ _
  have hr2 : W2.heap[w.heap.size + 1 + 1]? = some (.cells #[.slice Ab b.length cb, .int .i64 0] 115) := by
    rw [hW2, ← hz1]; exact row_new2 w1 _ _
  have hbW : Below (w.heap.size + 1) w1 W2 := by rw [hW2]; exact ((Below.refl _ _).alloc (by omega) _).alloc (by simp; omega) _
  have hzW : w.heap.size + 3 ≤ W2.heap.size := by rw [hW2]; simp; omega
  have HM : Hid (MoS w w1 (.slice Ab b.length cb) b Ab cb 0 W2) := Lib.hid ⟨hbW, hr1, hr2, .inl rfl, (hvb.below (hb1.trans (hbW.mono (by omega)) |>.mono hB)).mono (by omega), hzW⟩
  rw [← hW2]
  have Hz1 := Lib.hid hz1
  have Hb1 := Lib.hid hb1
  have Hvb := Lib.hid hvb
  have Hg := Lib.hid hg
  have He := Lib.hid he
  have Hrb := Lib.hid hb
  have hol := hg.olen
  have hbl : b.length ≤ 8 := by have := (rise_sub hb).length_le; rw [List.length_range] at this; omega
  clear hW2 hw1 hz1 hb1 hr1 hr2 hbW hs hvb hg he hb
  go_wp2
  go_loopw [8] (fun jv wr => ∃ j : Nat, j ≤ b.length ∧ jv = .int .i64 j ∧ MoS w w1 (.slice Ab b.length cb) b Ab cb (worthOf s (b.take j)) wr) (fun jv _ => b.length - (intOf jv).toNat)
  case atStart => exact ⟨0, Nat.zero_le _, rfl, HM.out⟩
  case round =>
    obtain ⟨j, hj, rfl, hm⟩ := hrel
    have HM := Lib.hid hm
    have HR := Lib.hid (HS1.out.next (hm.bel.mono (Nat.le_of_eq Hz1.out)))
    clear hm
    by_cases hjl : j < b.length
    · obtain ⟨_, _, c2⟩ := HR.out.cells
      have m1 := cellOf HM.out.best 1 (v := .int .i64 (worthOf s (b.take j))) rfl
      have mf : wr.frozen? ⟨w.heap.size + 1 + 1, 1, none⟩ = false := by have := HM.out.best; simp [World.frozen?, this]
      have HVr := Lib.hid ((Hvb.out.below ((Hb1.out.trans (HM.out.bel.mono (by omega))).mono hB)))
      obtain ⟨ad, rfl, _, d0⟩ := HVr.out.int (i := j) (by rw [List.length_map]; exact hjl)
      obtain ⟨q, hq⟩ : ∃ q, b[j]? = some q := ⟨_, List.getElem?_eq_getElem hjl⟩
      have hql : q < s.orders.length := by
        have := Hrb.out.2 q (List.mem_of_getElem? hq)
        omega
      have hd0 : (b.map Int.ofNat)[j]?.getD 0 = (q : Int) := by rw [List.getElem?_map, hq]; rfl
      rw [hd0] at d0
      obtain ⟨vh', vp', vo', hv, _, _, ho⟩ := id HR.out.shop
      cases hv
      obtain ⟨ao, rfl, _, o0, o1, o2, o3⟩ := ho.ord hql
      have hsn : worthOf s (b.take (j + 1)) = worthOf s (b.take j) + (s.orders[q]?.getD default).worth := by
        rw [List.take_add_one, hq, Option.toList_some, worth_snoc, List.getD_eq_getElem?_getD]
      have hw0 := hwb (b.take j) ((Hrb.out.mono hk).sub (List.take_sublist _ _))
      have hw1 := hwb (b.take (j + 1)) ((Hrb.out.mono hk).sub (List.take_sublist _ _))
      rw [hsn] at hw1
      have Hsn := Lib.hid hsn
      clear hq hd0 ho o0 o1 o2 hsn
      generalize (s.orders[q]?.getD default).worth = ow at *
      generalize worthOf s (b.take j) = wj at *
      go_upto_region 5 with (fail)
      refine region_quiet_tail (C := fun w' => ∃ n, w' = wr.drewN n) 13 (by kernel_rfl) (by kernel_rfl) ⟨1, rfl⟩ ?_
      simp only [List.take_succ_cons, List.take_zero, List.drop_succ_cons, List.drop_zero]
      repeat (first | go_big_quiet_step (fail) | quiet_step (fail))
      refine wpQuiet_nil ?_
      rintro _ ⟨n1, rfl⟩
      go_wp2
      have hput : MoS w w1 (.slice (some ad) b.length cb) b (some ad) cb (wj + ow) ((wr.drewN n1).setCell ⟨w.heap.size + 1 + 1, 1, none⟩ (.int .i64 (wj + ow))) :=
        HM.out.put Hvb.out hB (fun g hg => (Below.heap_setCell _ _ _ _ (by simpa using hg)).trans rfl) ((below_drewN (Below.refl _ _) n1).setCell (by show w.heap.size + 1 ≤ w.heap.size + 1 + 1; omega) _) (World.size_setCell _ _ _) (heap_setCell_same (wr.drewN n1) _ 1 _ _ _ HM.out.best) (.inl rfl) HM.out.rd
      have Hput := Lib.hid hput
      clear hput
      go_wp2
      go_roundw
      case rel => exact ⟨j + 1, by omega, by go_num, by rw [Hsn.out]; exact Hput.out⟩
      case measure => simp [intOf]; omega
    · have hje : j = b.length := by omega
      subst hje
      rw [List.take_of_length_le (Nat.le_refl _)] at HM
      clear HR
      go_wp2
      go_loopw [9] (fun iv wq => ∃ (i : Nat) (A : Option Addr) (c : Nat), k ≤ i ∧ i ≤ s.orders.length ∧ iv = .int .i64 i ∧ MoS w w1 (.slice Ab b.length cb) (mostU s F b k (i - k)).1 A c (mostU s F b k (i - k)).2 wq) (fun iv _ => s.orders.length - (intOf iv).toNat)
      case atStart => exact ⟨k, Ab, cb, Nat.le_refl _, hk, rfl, by rw [Nat.sub_self, mostU_zero]; exact HM.out⟩
      case round =>
        obtain ⟨i, A, c, hki, hi, rfl, hm⟩ := hrel
        have HM := Lib.hid hm
        have HR := Lib.hid (HS1.out.next (hm.bel.mono (Nat.le_of_eq Hz1.out)))
        clear hm
        obtain ⟨c0, c1, c2⟩ := HR.out.cells
        by_cases hil : i < s.orders.length
        · have hrs := rise_snoc (Hrb.out.mono hki) hil
          have hte := taken_rise He.out hrs
          have hof := ofL_ords s (b ++ [i])
          have hmb := mostU_bd Hg.out F (b := b) (k := k) (c := i - k) (by omega) Hrb.out
          have hfb := mostF_bd Hg.out F (b ++ [i]) (i + 1) (by omega) (rise_snoc (Hrb.out.mono hki) (by omega))
          have hsu := mostU_succ s F b k (i - k)
          rw [show k + (i - k) = i by omega] at hsu
          have hlen : ((b ++ [i]).map Int.ofNat).length = b.length + 1 := by simp
          have HVr := Lib.hid ((Hvb.out.below ((Hb1.out.trans (HM.out.bel.mono (by omega))).mono hB)))
          have hvr : Rd IntAt 1 B wr (.slice Ab (b.map Int.ofNat).length cb) (b.map Int.ofNat) := by rw [List.length_map]; exact HVr.out
          have hszr := HM.out.size
          obtain ⟨A3, c3, w3, hrun1, hown3, hb3, _⟩ := append_ints (own_empty wr 3) (hvr.alloc (by omega) _) (by simp; omega) (by simp)
          simp only [List.length_nil, Nat.zero_add, List.nil_append, List.length_map] at hrun1 hown3
          have hown3' : Own wr.heap.size 3 w3 (.slice A3 b.length c3) (b.map Int.ofNat) := hown3
          have hbr3 : Below wr.heap.size wr w3 := ((Below.refl _ _).alloc (Nat.le_refl _) _).trans hb3
          obtain ⟨A4, c4, w4, hrun2, hown4, hb4, _⟩ := append_int hown3' (i : Int) (by simp; omega) hbr3.size
          simp only [List.length_map] at hrun2 hown4
          have hb4' : Below wr.heap.size wr w4 := hbr3.trans hb4
          have HO4 : Hid (Own wr.heap.size 3 w4 (.slice A4 (b.length + 1) c4) ((b ++ [i]).map Int.ofNat)) := Lib.hid (by rw [List.map_append]; exact hown4)
          have Hb4 := Lib.hid hb4'
          have HM4 := Lib.hid (HM.out.next hb4')
          have HR4 := Lib.hid (HR.out.next hb4')
          have Hte := Lib.hid hte
          have Hof := Lib.hid hof
          have Hsu := Lib.hid hsu
          have Hlen := Lib.hid hlen
          have Hrs := Lib.hid hrs
          clear hrs hte hof hsu hlen hown3 hown3' hbr3 hown4 hb3 hb4 hb4' hvr
          go_upto_region 10 with (first | (revert hrun1; intro hrun1; at_builtin; refine wpList_append_run rfl _ _ _ rfl rfl rfl hrun1 ?_; clear hrun1) | (at_builtin; refine wpList_append_run rfl _ _ _ rfl rfl rfl hrun2 ?_; clear hrun2))
          clear c0 c1 c2
          obtain ⟨c0, c1, c2⟩ := HR4.out.cells
          have hGd : Given w4.heap.size w4.drew (.agg #[.slice Ah s.hours.length ch, .slice Ap s.parts.length cp, .slice Ao s.orders.length co]) (.slice A4 (b.length + 1) c4) s ((b ++ [i]).map Int.ofNat) :=
            (HR4.out.given HO4.out.rd).below (Below.refl _ _).drew
          have HGd := Lib.hid hGd
          clear hGd
          have Hof4 : Hid (Calls Try.prog 55 #[.agg #[.slice Ah s.hours.length ch, .slice Ap s.parts.length cp, .slice Ao s.orders.length co], .slice A4 (b.length + 1) c4] w4.drew fun e w' => ∃ A c, e = .returned (.slice A (b.length + 1) c) ∧ OfR w4.drew A (b.length + 1) c (ofL s ((b ++ [i]).map Int.ofNat)) w') := Lib.hid (by have := rof_at HGd.out Hte.out; rw [Hlen.out] at this; exact this)
          cases hcb : canB s (ordsOf s (b ++ [i])) with
          | false =>
            rw [hcb] at Hsu
            have Hc : Hid (canB s (ofL s ((b ++ [i]).map Int.ofNat)) = false) := Lib.hid (by rw [Hof.out]; exact hcb)
            clear hcb
            go_region_held3 (fun w' => w'.cell? ⟨w.heap.size, 0, none⟩ = some (.slice Ah s.hours.length ch) ∧ w'.cell? ⟨w.heap.size, 1, none⟩ = some (.slice Ap s.parts.length cp) ∧ w'.cell? ⟨w.heap.size, 2, none⟩ = some (.slice Ao s.orders.length co))
              (first | go_keep | exact ⟨c0, c1, c2⟩)
              ((first
                | (go_at_call 55; refine Hof4.out.mono ?_; rintro e w5 ⟨A5, c5, rfl, hr⟩; have c0 := (hr.bel.cell (cell_lt (w := w4.drew) c0)).trans c0; have c1 := (hr.bel.cell (cell_lt (w := w4.drew) c1)).trans c1; have c2 := (hr.bel.cell (cell_lt (w := w4.drew) c2)).trans c2; have HR5 := Lib.hid hr; clear hr)
                | (go_at_call 62; refine (rcan_at HGd.out Hte.out HR5.out).mono ?_; rw [Hc.out]; rintro e w6 ⟨rfl, hb3⟩; have c0 := (hb3.cell (cell_lt c0)).trans c0; have c1 := (hb3.cell (cell_lt c1)).trans c1; have c2 := (hb3.cell (cell_lt c2)).trans c2; have HR5 := Lib.hid (HR5.out.next hb3); clear hb3)))
            have Hm6 := Lib.hid (HM4.out.next (((Below.refl w4.heap.size w4).drew).trans HR5.out.bel))
            try simp only [Exit.inBlock, Exit.then]
            go_wp2
            go_roundw
            case rel => exact ⟨i + 1, A, c, by omega, by omega, by go_num, by rw [show i + 1 - k = i - k + 1 by omega, Hsu.out]; exact Hm6.out⟩
            case measure => simp [intOf]; omega
          | true =>
            rw [hcb] at Hsu
            have Hc : Hid (canB s (ofL s ((b ++ [i]).map Int.ofNat)) = true) := Lib.hid (by rw [Hof.out]; exact hcb)
            clear hcb
            go_region_held3 (fun w' => w'.cell? ⟨w.heap.size, 0, none⟩ = some (.slice Ah s.hours.length ch) ∧ w'.cell? ⟨w.heap.size, 1, none⟩ = some (.slice Ap s.parts.length cp) ∧ w'.cell? ⟨w.heap.size, 2, none⟩ = some (.slice Ao s.orders.length co))
              (first | go_keep | exact ⟨c0, c1, c2⟩)
              ((first
                | (go_at_call 55; refine Hof4.out.mono ?_; rintro e w5 ⟨A5, c5, rfl, hr⟩; have c0 := (hr.bel.cell (cell_lt (w := w4.drew) c0)).trans c0; have c1 := (hr.bel.cell (cell_lt (w := w4.drew) c1)).trans c1; have c2 := (hr.bel.cell (cell_lt (w := w4.drew) c2)).trans c2; have HR5 := Lib.hid hr; clear hr)
                | (go_at_call 62; refine (rcan_at HGd.out Hte.out HR5.out).mono ?_; rw [Hc.out]; rintro e w6 ⟨rfl, hb3⟩; have c0 := (hb3.cell (cell_lt c0)).trans c0; have c1 := (hb3.cell (cell_lt c1)).trans c1; have c2 := (hb3.cell (cell_lt c2)).trans c2; have HR5 := Lib.hid (HR5.out.next hb3); clear hb3)))
            have Hb46 : Hid (Below w4.heap.size w4 w6) := Lib.hid (((Below.refl w4.heap.size w4).drew).trans HR5.out.bel)
            have Hm6 := Lib.hid (HM4.out.next Hb46.out)
            have Hr6 := Lib.hid (HR4.out.next Hb46.out)
            have HO6 := Lib.hid (HO4.out.below Hb46.out)
            try simp only [Exit.inBlock, Exit.then]
            have hIH := IH i w6 w6.heap.size (.slice A4 (b.length + 1) c4) hki hil (Hr6.out.shop.mono Hr6.out.hB) (Nat.le_refl _) HO6.out.rd
            have HIH := Lib.hid hIH
            clear hIH
            unfold MostR at HIH
            have hmu2 := hmb.2
            have hmf2 := hfb.2
            clear hmb hfb
            obtain ⟨mf, hmfe⟩ : ∃ mf, mf = mostF s F (b ++ [i]) (i + 1) := ⟨_, rfl⟩
            obtain ⟨mu, hmue⟩ : ∃ mu, mu = mostU s F b k (i - k) := ⟨_, rfl⟩
            rw [← hmfe] at HIH Hsu hmf2
            rw [← hmue] at Hsu hmu2 Hm6
            clear hmfe hmue HM HM4
            obtain ⟨f1, f2⟩ := mf
            obtain ⟨u1, u2⟩ := mu
            simp only at HIH hmf2 hmu2 Hm6
            go_upto_region 12 with (go_at_call 72; refine HIH.out.mono ?_; rintro e w7 ⟨A7, c7, rfl, hf7, hr7, hb7⟩; have HM7 := Lib.hid (Hm6.out.next hb7); have HF7 := Lib.hid hf7; have HR7 := Lib.hid hr7; clear hf7 hr7 hb7 c0 c1 c2)
            have hz46 : w.heap.size + 3 ≤ w6.heap.size := Hm6.out.size
            have hsl : SlFrom (w.heap.size + 3) (.slice A7 f1.length c7) := by
              rcases HF7.out with h | h
              · rw [h]; exact HO4.out.from.mono hszr
              · exact h.mono hz46
            obtain ⟨w8, hw8, r8, z8, b8⟩ := box_any w7 #[.slice A7 f1.length c7, .int .i64 f2] 115
            rw [← hw8]
            have HM8 := Lib.hid (HM7.out.next b8)
            have HR8 := Lib.hid ((HR7.out.below b8).mono b8.size)
            have HR8' : Hid (Rd IntAt 1 w8.heap.size w8 (.slice A7 f1.length c7) (f1.map Int.ofNat)) := HR8
            have HSl := Lib.hid hsl
            have y0 := cellOf r8 0 (v := .slice A7 f1.length c7) rfl
            have y1 := cellOf r8 1 (v := .int .i64 f2) rfl
            have m0 := cellOf HM8.out.best 0 (v := .slice A u1.length c) rfl
            have m1 := cellOf HM8.out.best 1 (v := .int .i64 u2) rfl
            have mf0 : w8.frozen? ⟨w.heap.size + 1 + 1, 0, none⟩ = false := by have := HM8.out.best; simp [World.frozen?, this]
            have mf1 : w8.frozen? ⟨w.heap.size + 1 + 1, 1, none⟩ = false := by have := HM8.out.best; simp [World.frozen?, this]
            clear hw8 r8 z8 b8 hsl hszr
            by_cases hgt : u2 < f2
            · have hgb : decide (f2 > u2) = true := decide_eq_true hgt
              have hsu3 : mostU s F b k (i - k + 1) = (f1, f2) := by rw [Hsu.out]; simp [hgt]
              have Hsu3 := Lib.hid hsu3
              clear hgt hsu3
              go_wp2
              have hput : MoS w w1 (.slice Ab b.length cb) f1 A7 c7 f2 ((w8.setCell ⟨w.heap.size + 1 + 1, 0, none⟩ (.slice A7 f1.length c7)).setCell ⟨w.heap.size + 1 + 1, 1, none⟩ (.int .i64 f2)) :=
                HM8.out.put Hvb.out hB (fun g hg => (Below.heap_setCell _ _ _ _ (by simpa using hg)).trans (Below.heap_setCell _ _ _ _ (by simpa using hg))) (((Below.refl _ _).setCell (p := ⟨w.heap.size + 1 + 1, 0, none⟩) (by show w.heap.size + 1 ≤ w.heap.size + 1 + 1; omega) _).setCell (p := ⟨w.heap.size + 1 + 1, 1, none⟩) (by show w.heap.size + 1 ≤ w.heap.size + 1 + 1; omega) _) (by rw [World.size_setCell, World.size_setCell])
                  (heap_setCell_same _ _ 1 _ _ _ (heap_setCell_same _ _ 0 _ _ _ HM8.out.best)) (.inr HSl.out) HR8.out
              have Hput := Lib.hid hput
              clear hput
              go_roundw
              case rel => exact ⟨i + 1, A7, c7, by omega, by omega, by go_num, by rw [show i + 1 - k = i - k + 1 by omega, Hsu3.out]; exact Hput.out⟩
              case measure => simp [intOf]; omega
            · have hgb : decide (f2 > u2) = false := decide_eq_false hgt
              have hsu3 : mostU s F b k (i - k + 1) = (u1, u2) := by rw [Hsu.out]; simp [hgt]
              have Hsu3 := Lib.hid hsu3
              clear hgt hsu3
              go_wp2
              go_roundw
              case rel => exact ⟨i + 1, A, c, by omega, by omega, by go_num, by rw [show i + 1 - k = i - k + 1 by omega, Hsu3.out]; exact HM8.out⟩
              case measure => simp [intOf]; omega
        · have hie : i = s.orders.length := by omega
          subst hie
          rw [mostU_end] at HM
          have r0 := cellOf HM.out.res 0 (v := .slice none 0 0) rfl
          have r1 := cellOf HM.out.res 1 (v := .int .i64 0) rfl
          have rf0 : wr.frozen? ⟨w.heap.size + 1, 0, none⟩ = false := by have := HM.out.res; simp [World.frozen?, this]
          have rf1 : wr.frozen? ⟨w.heap.size + 1, 1, none⟩ = false := by have := HM.out.res; simp [World.frozen?, this]
          have m0 := cellOf HM.out.best 0 (v := .slice A (mostF s (F + 1) b k).1.length c) rfl
          have m1 := cellOf HM.out.best 1 (v := .int .i64 (mostF s (F + 1) b k).2) rfl
          generalize mostF s (F + 1) b k = mf at *
          obtain ⟨f1, f2⟩ := mf
          simp only at m0 m1
          go_wp2
          have hrb : ((wr.setCell ⟨w.heap.size + 1, 0, none⟩ (.slice A f1.length c)).setCell ⟨w.heap.size + 1, 1, none⟩ (.int .i64 f2)).heap[w.heap.size + 1]? = some (.cells #[.slice A f1.length c, .int .i64 f2] 115) :=
            heap_setCell_same _ _ 1 _ _ _ (heap_setCell_same _ _ 0 _ _ _ HM.out.res)
          have hk2 : ∀ g, g ≠ w.heap.size + 1 → ((wr.setCell ⟨w.heap.size + 1, 0, none⟩ (.slice A f1.length c)).setCell ⟨w.heap.size + 1, 1, none⟩ (.int .i64 f2)).heap[g]? = wr.heap[g]? := fun g hg =>
            (Below.heap_setCell _ _ _ _ (by simpa using hg)).trans (Below.heap_setCell _ _ _ _ (by simpa using hg))
          have hz : ((wr.setCell ⟨w.heap.size + 1, 0, none⟩ (.slice A f1.length c)).setCell ⟨w.heap.size + 1, 1, none⟩ (.int .i64 f2)).heap.size = wr.heap.size := by rw [World.size_setCell, World.size_setCell]
          have hbel : Below w.heap.size w ((wr.setCell ⟨w.heap.size + 1, 0, none⟩ (.slice A f1.length c)).setCell ⟨w.heap.size + 1, 1, none⟩ (.int .i64 f2)) :=
            ((Hb1.out.trans (HM.out.bel.mono (by omega))).setCell (p := ⟨w.heap.size + 1, 0, none⟩) (by show w.heap.size ≤ w.heap.size + 1; omega) _).setCell (p := ⟨w.heap.size + 1, 1, none⟩) (by show w.heap.size ≤ w.heap.size + 1; omega) _
          generalize (wr.setCell ⟨w.heap.size + 1, 0, none⟩ (.slice A f1.length c)).setCell ⟨w.heap.size + 1, 1, none⟩ (.int .i64 f2) = WX at *
          have q0 := cellOf hrb 0 (v := .slice A f1.length c) rfl
          have q1 := cellOf hrb 1 (v := .int .i64 f2) rfl
          have hfrom : EqOr (w.heap.size + 3) (.slice Ab b.length cb) (.slice A f1.length c) := HM.out.from_
          refine bodyPost_ret (v := .agg #[.slice A f1.length c, .int .i64 f2]) (by simp [results, Try.results72, go_sem, q0, q1]) rfl ?_
          refine ⟨A, c, rfl, ?_, ?_, hbel⟩
          · rcases hfrom with h | h
            · exact .inl h
            · exact .inr (h.mono (by omega))
          · have hrd : Rd IntAt 1 wr.heap.size wr (.slice A f1.length c) (f1.map Int.ofNat) := HM.out.rd
            show Rd IntAt 1 WX.heap.size WX (.slice A f1.length c) (f1.map Int.ofNat)
            rw [hz]
            exact rd_eqor Hvb.out hB hfrom hrd (fun g hg => hk2 g (by omega)) (fun g hg => hk2 g (by omega))

/-- Most of the reference -/
theorem most_any {s : ShopR} (hg : Good s) (he : errOf s = 0) (hnm : ∀ p ∈ s.parts, p.name.size ≤ 9223372036854775807) : ∀ (F : Nat) {B : Nat} {w : World} {v : Value} (b : List Nat) (k : Nat) {vb : Value}, RdShop B w v s → B ≤ w.heap.size → s.orders.length - k ≤ F → k ≤ s.orders.length → Rise k b → Rd IntAt 1 B w vb (b.map Int.ofNat) →
    Calls Try.prog 72 #[v, vb, .int .i64 k] w (MostR w vb (mostF s (F + 1) b k)) := by
  intro F
  induction F with
  | zero =>
    intro B w v b k vb hs hB hF hk hb hvb
    exact most_walk hs hg he hnm hB 0 b k hk hb hvb fun i w1 B1 vb1 h1 h2 _ _ _ => by omega
  | succ F ih =>
    intro B w v b k vb hs hB hF hk hb hvb
    refine most_walk hs hg he hnm hB (F + 1) b k hk hb hvb fun i w1 B1 vb1 h1 h2 hs1 hB1 hvb1 => ?_
    exact ih (b ++ [i]) (i + 1) hs1 hB1 (by omega) (by omega) (rise_snoc (hb.mono h1) (by omega)) hvb1
end Go.Proofs.Ytkmaapkbonkjfaa
namespace Go.Proofs.Ytkmaapkbonkjfaa
open Go.RowKit

set_option maxRecDepth 100000 in
set_option maxHeartbeats 1000000 in
theorem rbest_any {B : Nat} {w : World} {v : Value} {s : ShopR} (hs : RdShop B w v s) (hnm : ∀ p ∈ s.parts, p.name.size ≤ 9223372036854775807) (hB : B ≤ w.heap.size) :
    Calls Try.prog 32 #[v] w (BestR w s) := by
  obtain ⟨vh, vp, vo, rfl, ⟨Ah, ch, rfl, _⟩, ⟨Ap, cp, rfl, _⟩, ⟨Ao, co, rfl, _⟩⟩ := id hs
  obtain ⟨W, hW⟩ : ∃ W, W = w.alloc (.cells #[.slice Ah s.hours.length ch, .slice Ap s.parts.length cp, .slice Ao s.orders.length co] 26) := ⟨_, rfl⟩
  have HS := Lib.hid (ShS.start hs hnm hB)
  rw [← hW] at HS
  clear hs hB
  go_enter Try.func32, Try.ntmps32
  go_upto_region 1 with (fail)
  rw [← hW]
  clear hW
  obtain ⟨c0, c1, c2⟩ := HS.out.cells
  have hq := Lib.hid (rcheck_any HS.out.shop HS.out.nm HS.out.hB)
  unfold checkV at hq
  rw [show (check s).2.2 = errOf s from rfl] at hq
  by_cases he : errOf s = 0
  · rw [he] at hq
    have hg := good_of_valid he
    have e := Lib.hid (bestF_ok he)
    have hmb := most_best hg (Nat.le_succ s.orders.length)
    have HM := Lib.hid (fun (w1 : World) (hs1 : RdShop w1.heap.size w1 (.agg #[.slice Ah s.hours.length ch, .slice Ap s.parts.length cp, .slice Ao s.orders.length co]) s) =>
      (by have := most_any hg he hnm s.orders.length (w := w1) (B := w1.heap.size) (vb := .slice none 0 0) [] 0 hs1 (Nat.le_refl _) (by omega) (by omega) ⟨List.Pairwise.nil, by simp⟩ (Rd.nil _ _)
          rw [hmb] at this; exact this : Calls Try.prog 72 #[.agg #[.slice Ah s.hours.length ch, .slice Ap s.parts.length cp, .slice Ao s.orders.length co], .slice none 0 0, .int .i64 0] w1 (MostR w1 (.slice none 0 0) (bestL s))))
    unfold MostR at HM
    generalize (check s).1 = k1 at *
    generalize (check s).2.1 = k2 at *
    generalize bestL s = bl at *
    obtain ⟨x, n⟩ := bl
    simp only at HM
    clear he hg hmb
    go_upto_region 4 with (go_at_call 17; refine hq.out.mono ?_; rintro e wx ⟨rfl, hbx⟩; have HS := Lib.hid (HS.out.next hbx); clear hbx c0 c1 c2; obtain ⟨c0, c1, c2⟩ := HS.out.cells)
    go_upto_region 5 with (go_at_call 72; refine (HM.out _ (HS.out.shop.mono HS.out.hB)).mono ?_; rintro e w7 ⟨A7, c7, rfl, hf7, hr7, hb7⟩; have HS := Lib.hid (HS.out.next hb7); have HR7 := Lib.hid hr7; clear hf7 hr7 hb7 c0 c1 c2)
    obtain ⟨w8, hw8, r8, z8, b8⟩ := box_any w7 #[.slice A7 x.length c7, .int .i64 n] 115
    rw [← hw8]
    have HS := Lib.hid (HS.out.next b8)
    have HR8 := Lib.hid ((HR7.out.below b8).mono b8.size)
    have y0 := cellOf r8 0 (v := .slice A7 x.length c7) rfl
    have y1 := cellOf r8 1 (v := .int .i64 n) rfl
    clear hw8 r8 z8 b8
    go_quiet (fail)
    go_wp2
    go_ret3
    exact bestR_eq e.out (A := A7) (c := c7) (by rw [List.length_map]; rfl) ((HR8.out.below (below_drewN (Below.refl _ _) nq)).mono (Nat.le_refl _) |> fun h => by rw [List.length_map]; exact h) (below_drewN HS.out.below nq)
  · have e := Lib.hid (bestF_bad he)
    have hne : (errOf s != 0) = true := by simpa using he
    generalize errOf s = E at *
    generalize (check s).1 = k1 at *
    generalize (check s).2.1 = k2 at *
    clear he
    go_wp2_with (go_at_call 17; refine hq.out.mono ?_; rintro e wx ⟨rfl, hbx⟩; have HS := Lib.hid (HS.out.next hbx); clear hbx)
    go_ret3
    exact bestR_eq e.out rfl (Rd.nil _ _) HS.out.below

theorem addr_add2 (a : Addr) (m n : Nat) : (a.add m).add n = a.add (m + n) := by
  obtain ⟨b, o, e⟩ := a
  unfold Addr.add
  by_cases hm : m = 0 <;> by_cases hn : n = 0 <;> simp [hm, hn, Nat.add_assoc] <;> (try omega)
theorem Rd.takeN {α : Type} {At : World → Addr → α → Prop} {sz B n c o : Nat} {w : World} {A : Option Addr} {xs : List α} (h : Rd At sz B w (.slice A n c) xs) (ho : o ≤ n) : Rd At sz B w (.slice A o c) (xs.take o) := by
  obtain ⟨A', cap, e, h1, h2, h3⟩ := h
  injection e with e1 e2 e3
  subst e1 e2 e3
  refine ⟨A, c, by rw [List.length_take, Nat.min_eq_left ho], by rw [List.length_take]; omega, h2, fun i x hx => ?_⟩
  rw [List.getElem?_take] at hx
  split at hx
  · exact h3 i x hx
  · cases hx
theorem Rd.dropN {α : Type} {At : World → Addr → α → Prop} {sz B n c l : Nat} {w : World} {ad : Addr} {xs : List α} (h : Rd At sz B w (.slice (some ad) n c) xs) (hl : l ≤ n) : Rd At sz B w (.slice (if c = l then some ad else some (ad.add (l * sz))) (n - l) (c - l)) (xs.drop l) := by
  obtain ⟨A', cap, e, h1, h2, h3⟩ := h
  injection e with e1 e2 e3
  subst e1 e2 e3
  refine ⟨_, c - l, by rw [List.length_drop], by rw [List.length_drop]; omega, by omega, fun i x hx => ?_⟩
  rw [List.getElem?_drop] at hx
  have hlt := (List.getElem?_eq_some_iff.1 hx).1
  obtain ⟨ad', e4, hb, ha⟩ := h3 (l + i) x hx
  cases e4
  refine ⟨ad.add (l * sz), by rw [if_neg (by omega)], by rw [block_add]; exact hb, ?_⟩
  rw [addr_add2, ← Nat.add_mul]
  exact ha
theorem range_take {α : Type} (l : List α) (d : α) {o : Nat} (h : o ≤ l.length) : (List.range o).map (fun i => l.getD i d) = l.take o := by
  refine List.ext_getElem (by simp; omega) fun i h1 h2 => ?_
  simp at h1
  rw [List.getElem_map, List.getElem_range, List.getElem_take, getD_at (by omega)]
theorem range_drop {α : Type} (l : List α) (d : α) {o m : Nat} (h : o + m = l.length) : (List.range m).map (fun i => l.getD (o + i) d) = l.drop o := by
  refine List.ext_getElem (by simp; omega) fun i h1 h2 => ?_
  simp at h1
  rw [List.getElem_map, List.getElem_range, List.getElem_drop, getD_at (by omega)]
theorem range_but {n o : Nat} (h : o < n) : (List.range n).filter (fun i => decide (i ≠ o)) = List.range o ++ (List.range (n - (o + 1))).map (o + 1 + ·) := by
  obtain ⟨m, rfl⟩ : ∃ m, n = o + 1 + m := ⟨n - (o + 1), by omega⟩
  rw [List.range_add, List.filter_append, List.range_succ, List.filter_append, show o + 1 + m - (o + 1) = m by omega]
  have e1 : (List.range o).filter (fun i => decide (i ≠ o)) = List.range o := List.filter_eq_self.2 fun i hi => by have := List.mem_range.1 hi; simp; omega
  have e2 : ((List.range m).map (o + 1 + ·)).filter (fun i => decide (i ≠ o)) = (List.range m).map (o + 1 + ·) := List.filter_eq_self.2 fun i hi => by
    obtain ⟨j, _, rfl⟩ := List.mem_map.1 hi
    simp; omega
  rw [e1, e2]
  simp
theorem others_eq {s : ShopR} {o : Nat} (h : o < s.orders.length) : othersOf s o = s.orders.take o ++ s.orders.drop (o + 1) := by
  unfold othersOf ordsOf
  rw [range_but h, List.map_append, range_take _ _ (by omega), List.map_map]
  congr 1
  exact range_drop s.orders default (o := o + 1) (m := s.orders.length - (o + 1)) (by omega)
end Go.Proofs.Ytkmaapkbonkjfaa
namespace Go.Proofs.Ytkmaapkbonkjfaa
open Go.RowKit

theorem ask5 {X : World} {base B g n co : Nat} {Ao : Option Addr} {ys : List OrdR} (hro : Rd OrdAt 4 B X (.slice Ao n co) ys) (hn : n = ys.length) (hB : base ≤ X.heap.size) (hg : X.heap[g]? = some (.cells #[] 60)) (hge : base ≤ g) (hl : ys.length ≤ 100) :
    ∃ v' w', (Builtin.append_ #[24, 24] 24 #[.slice (some ⟨g, 0, none⟩) 0 0, .slice Ao n co]).run Try.prog X = .ok v' w' ∧ ∃ A c, v' = .slice A n c ∧ Own base 60 w' (.slice A n c) ys ∧ Below base X w' := by
  subst hn
  obtain ⟨A, c, w', h1, h2, h3, _⟩ := append_ords (own_empty_at (base := base) hg hge) hro (by simp; omega) hB
  simp only [List.length_nil, Nat.zero_add, List.nil_append] at h1 h2
  exact ⟨_, w', h1, A, c, rfl, h2, h3⟩
theorem ask6 {X : World} {base B n m c0 c1 : Nat} {A0 A1 : Option Addr} {xs ys : List OrdR} (hown : Own base 60 X (.slice A0 n c0) xs) (hn : n = xs.length) (hro : Rd OrdAt 4 B X (.slice A1 m c1) ys) (hm : m = ys.length) (hB : base ≤ X.heap.size) (hl : xs.length + ys.length ≤ 100) :
    ∃ v' w', (Builtin.append_ #[24, 24] 24 #[.slice A0 n c0, .slice A1 m c1]).run Try.prog X = .ok v' w' ∧ ∃ A c, v' = .slice A (n + m) c ∧ Own base 60 w' (.slice A (n + m) c) (xs ++ ys) ∧ Below base X w' := by
  subst hn hm
  obtain ⟨A, c, w', h1, h2, h3, _⟩ := append_ords hown hro (by omega) hB
  exact ⟨_, w', h1, A, c, rfl, h2, h3⟩

/-- what holds within Without's statement -/
structure WoI (W : World) (tb o : Nat) (vo v9 v15 : Value) (n1 n2 : Nat) (xs ys : List OrdR) (L : Nat → Bool) (vs : Nat → Value) (X : World) : Prop where
  bel : L 13 = false → Below W.heap.size W X
  f0 : L 0 = true → L 5 = false → ∃ g, W.heap.size ≤ g ∧ vs 0 = .slice (some ⟨g, 0, none⟩) 0 0 ∧ X.heap[g]? = some (.cells #[] 60)
  f1 : L 1 = true → vs 1 = .pointer (some ⟨tb, 2, none⟩)
  f2 : L 2 = true → vs 2 = vo
  f3 : L 3 = true → vs 3 = .int .i64 o
  f4 : L 4 = true → vs 4 = v9
  f5 : L 5 = true → L 11 = false → ∃ A c, vs 5 = .slice A n1 c ∧ Own W.heap.size 60 X (.slice A n1 c) xs
  f6 : L 6 = true → vs 6 = .pointer (some ⟨tb, 2, none⟩)
  f7 : L 7 = true → vs 7 = vo
  f8 : L 8 = true → vs 8 = .int .i64 o
  f9 : L 9 = true → vs 9 = .int .i64 ((o : Int) + 1)
  f10 : L 10 = true → vs 10 = v15
  f11 : L 11 = true → L 13 = false → ∃ A c, vs 11 = .slice A (n1 + n2) c ∧ Own W.heap.size 60 X (.slice A (n1 + n2) c) (xs ++ ys)
  f12 : L 12 = true → vs 12 = .pointer (some ⟨tb, 2, none⟩)
  f13 : L 13 = true → ∃ A c X0, Own W.heap.size 60 X0 (.slice A (n1 + n2) c) (xs ++ ys) ∧ Below W.heap.size W X0 ∧ X = X0.setCell ⟨tb, 2, none⟩ (.slice A (n1 + n2) c)

set_option maxRecDepth 100000 in
set_option maxHeartbeats 2000000 in
theorem without_any {B : Nat} {w : World} {v : Value} {s : ShopR} (hs : RdShop B w v s) (hB : B ≤ w.heap.size) (h8 : s.orders.length ≤ 100) (o : Nat) (ho : o < s.orders.length) :
    Calls Try.prog 73 #[v, .int .i64 o] w fun e w' => ∃ vh vp vo A n c, v = .agg #[vh, vp, vo] ∧ n = (othersOf s o).length ∧ e = .returned (.agg #[vh, vp, .slice A n c]) ∧ Own w.heap.size 60 w' (.slice A n c) (othersOf s o) ∧ Below w.heap.size w w' := by
  obtain ⟨vh, vp, vo, rfl, ⟨Ah, ch, rfl, _⟩, ⟨Ap, cp, rfl, _⟩, hro⟩ := id hs
  obtain ⟨Ao, co, rfl, hol, hoc, _⟩ := id hro
  obtain ⟨ao, rfl, _⟩ := hro.ord ho
  obtain ⟨W, hW⟩ : ∃ W, W = (w.alloc (.cells #[.slice Ah s.hours.length ch, .slice Ap s.parts.length cp, .slice (some ao) s.orders.length co] 26)).alloc (.cells #[.slice none 0 0, .slice none 0 0, .slice none 0 0] 26) := ⟨_, rfl⟩
  have T0 : W.heap[w.heap.size]? = some (.cells #[.slice Ah s.hours.length ch, .slice Ap s.parts.length cp, .slice (some ao) s.orders.length co] 26) := by rw [hW]; exact row_old w _ _
  have T1 : W.heap[w.heap.size + 1]? = some (.cells #[.slice none 0 0, .slice none 0 0, .slice none 0 0] 26) := by rw [hW]; exact row_new2 w _ _
  have hb : Below w.heap.size w W := by rw [hW]; exact ((Below.refl _ _).alloc (Nat.le_refl _) _).alloc (by simp) _
  have hr := hro.below (hb.mono hB)
  have HR1 := Lib.hid (hr.takeN (o := o) (by omega))
  have HR2 := Lib.hid (hr.dropN (l := o + 1) (by omega))
  have hl1 : o = (s.orders.take o).length := by rw [List.length_take]; omega
  have hl2 : s.orders.length - (o + 1) = (s.orders.drop (o + 1)).length := by rw [List.length_drop]
  have hoe := others_eq ho
  have hl3 : o + (s.orders.length - (o + 1)) = (othersOf s o).length := by rw [hoe, List.length_append, ← hl1, ← hl2]
  have hBW := Nat.le_trans hB hb.size
  have HT0 := Lib.hid T0
  have HT1 := Lib.hid T1
  have Hb := Lib.hid hb
  have Hoe := Lib.hid hoe
  have Hl3 := Lib.hid hl3
  have C2 := Lib.hid (cellOf HT0.out 2 (v := .slice (some ao) s.orders.length co) rfl)
  have F2 : Hid (W.frozen? ⟨w.heap.size, 2, none⟩ = false) := Lib.hid (by have := HT0.out; simp [World.frozen?, this])
  clear hs hro hr T0 T1 hb hoe hl3
  have Hl1 := Lib.hid hl1
  have Hl2 := Lib.hid hl2
  clear hl1 hl2
  have hoc1 : o ≤ co := by omega
  have hoi1 : (0 : Int) ≤ (o : Int) + 1 := by omega
  have hoi2 : (o : Int) + 1 ≤ (s.orders.length : Int) := by omega
  go_enter Try.func73, Try.ntmps73
  go_upto_region 1 with (fail)
  rw [← hW]
  clear hW
  have hn : w.heap.size + 1 < W.heap.size := lt_of_block HT1.out
  refine wp_region_ghost (WoI W w.heap.size o (.slice (some ao) s.orders.length co) (.slice (some ao) o co) (.slice (if co = o + 1 then some ao else some (ao.add ((o + 1) * 4))) (s.orders.length - (o + 1)) (co - (o + 1))) o (s.orders.length - (o + 1)) (s.orders.take o) (s.orders.drop (o + 1))) (by kernel_rfl) (by kernel_rfl) ?_ ?_ ?_
  · exact ⟨fun _ => (Below.refl _ _).drew, fun h => (by cases h), fun h => (by cases h), fun h => (by cases h), fun h => (by cases h), fun h => (by cases h), fun h => (by cases h), fun h => (by cases h), fun h => (by cases h), fun h => (by cases h), fun h => (by cases h), fun h => (by cases h), fun h => (by cases h), fun h => (by cases h), fun h => (by cases h)⟩
  · refine ⟨?_, ?_, ?_, ?_, ?_, ?_, ?_, ?_, ?_, ?_, ?_, ?_, ?_, ?_, trivial⟩
    all_goals
      intro L vs X b hL hw hcl hI hf
    · -- 0: no orders
      have n5 : L 5 = false := not_yet hcl 5 hL rfl (by kernel_rfl)
      have n11 : L 11 = false := not_yet hcl 11 n5 rfl (by kernel_rfl)
      have n13 : L 13 = false := not_yet hcl 13 n11 rfl (by kernel_rfl)
      have hb := hI.bel n13
      refine wp_of_run (v := .slice (some ⟨X.heap.size, 0, none⟩) 0 0) (w' := X.alloc (.cells #[] 60)) (by unfold execOp; go_simp) ?_
      exact ⟨fun _ => hb.alloc hb.size _, fun _ _ => ⟨_, hb.size, rfl, heap_alloc_new _ _⟩, hI.f1, hI.f2, hI.f3, hI.f4, fun h => absurd (n5.symm.trans h) (by simp), hI.f6, hI.f7, hI.f8, hI.f9, hI.f10, fun h => absurd (n11.symm.trans h) (by simp), hI.f12, fun h => absurd (n13.symm.trans h) (by simp)⟩
    · have e2 := hf.old 2 (by kernel_rfl)
      refine wp_of_run (v := .pointer (some ⟨w.heap.size, 2, none⟩)) (w' := X) (by unfold execOp; go_simp) ?_
      exact ⟨hI.bel, hI.f0, fun _ => rfl, hI.f2, hI.f3, hI.f4, hI.f5, hI.f6, hI.f7, hI.f8, hI.f9, hI.f10, hI.f11, hI.f12, hI.f13⟩
    · have n4 : L 4 = false := not_yet hcl 4 hL rfl (by kernel_rfl)
      have n5 : L 5 = false := not_yet hcl 5 n4 rfl (by kernel_rfl)
      have n11 : L 11 = false := not_yet hcl 11 n5 rfl (by kernel_rfl)
      have n13 : L 13 = false := not_yet hcl 13 n11 rfl (by kernel_rfl)
      have h1 : L 1 = true := done_of hw 1 (by kernel_rfl)
      have e6 := (hf.new 1 6 rfl h1 (by simp)).trans (hI.f1 h1)
      have c2 := ((hI.bel n13).cell (cell_lt C2.out)).trans C2.out
      refine wp_of_run (v := .slice (some ao) s.orders.length co) (w' := X) (by unfold execOp; go_simp) ?_
      exact ⟨hI.bel, hI.f0, hI.f1, fun _ => rfl, hI.f3, hI.f4, hI.f5, hI.f6, hI.f7, hI.f8, hI.f9, hI.f10, hI.f11, hI.f12, hI.f13⟩
    · have e1 := hf.old 1 (by kernel_rfl)
      refine wp_of_run (v := .int .i64 o) (w' := X) (by unfold execOp; go_simp) ?_
      exact ⟨hI.bel, hI.f0, hI.f1, hI.f2, fun _ => rfl, hI.f4, hI.f5, hI.f6, hI.f7, hI.f8, hI.f9, hI.f10, hI.f11, hI.f12, hI.f13⟩
    · have h2 : L 2 = true := done_of hw 2 (by kernel_rfl)
      have h3 : L 3 = true := done_of hw 3 (by kernel_rfl)
      have e7 := (hf.new 2 7 rfl h2 (by simp)).trans (hI.f2 h2)
      have e8 := (hf.new 3 8 rfl h3 (by simp)).trans (hI.f3 h3)
      refine wp_of_run (v := .slice (some ao) o co) (w' := X) (by unfold execOp; go_simp) ?_
      exact ⟨hI.bel, hI.f0, hI.f1, hI.f2, hI.f3, fun _ => rfl, hI.f5, hI.f6, hI.f7, hI.f8, hI.f9, hI.f10, hI.f11, hI.f12, hI.f13⟩
    · -- 5: the first append
      have n11 : L 11 = false := not_yet hcl 11 hL rfl (by kernel_rfl)
      have n13 : L 13 = false := not_yet hcl 13 n11 rfl (by kernel_rfl)
      have h0 : L 0 = true := done_of hw 0 (by kernel_rfl)
      have h4 : L 4 = true := done_of hw 4 (by kernel_rfl)
      have hb := hI.bel n13
      obtain ⟨g, hg1, hg2, hg3⟩ := hI.f0 h0 hL
      have e5 := (hf.new 0 5 rfl h0 (by simp)).trans hg2
      have e9 := (hf.new 4 9 rfl h4 (by simp)).trans (hI.f4 h4)
      obtain ⟨v', w', hrun, A, c, rfl, hown, hb'⟩ := ask5 (HR1.out.below (hb.mono hBW)) Hl1.out hb.size hg3 hg1 (by rw [List.length_take]; omega)
      refine wp_append_run (.tmp 5) (.tmp 9) 24 rfl (by unfold Act.eval; simpa using e5) (by unfold Act.eval; simpa using e9) hrun ⟨_, rfl, ?_⟩
      exact ⟨fun _ => hb.trans hb', fun _ h => (by cases h), hI.f1, hI.f2, hI.f3, hI.f4, fun _ _ => ⟨A, c, rfl, hown⟩, hI.f6, hI.f7, hI.f8, hI.f9, hI.f10, fun h => absurd (n11.symm.trans h) (by simp), hI.f12, fun h => absurd (n13.symm.trans h) (by simp)⟩
    · have e2 := hf.old 2 (by kernel_rfl)
      refine wp_of_run (v := .pointer (some ⟨w.heap.size, 2, none⟩)) (w' := X) (by unfold execOp; go_simp) ?_
      exact ⟨hI.bel, hI.f0, hI.f1, hI.f2, hI.f3, hI.f4, hI.f5, fun _ => rfl, hI.f7, hI.f8, hI.f9, hI.f10, hI.f11, hI.f12, hI.f13⟩
    · have n10 : L 10 = false := not_yet hcl 10 hL rfl (by kernel_rfl)
      have n11 : L 11 = false := not_yet hcl 11 n10 rfl (by kernel_rfl)
      have n13 : L 13 = false := not_yet hcl 13 n11 rfl (by kernel_rfl)
      have h6 : L 6 = true := done_of hw 6 (by kernel_rfl)
      have e11 := (hf.new 6 11 rfl h6 (by simp)).trans (hI.f6 h6)
      have c2 := ((hI.bel n13).cell (cell_lt C2.out)).trans C2.out
      refine wp_of_run (v := .slice (some ao) s.orders.length co) (w' := X) (by unfold execOp; go_simp) ?_
      exact ⟨hI.bel, hI.f0, hI.f1, hI.f2, hI.f3, hI.f4, hI.f5, hI.f6, fun _ => rfl, hI.f8, hI.f9, hI.f10, hI.f11, hI.f12, hI.f13⟩
    · have e1 := hf.old 1 (by kernel_rfl)
      refine wp_of_run (v := .int .i64 o) (w' := X) (by unfold execOp; go_simp) ?_
      exact ⟨hI.bel, hI.f0, hI.f1, hI.f2, hI.f3, hI.f4, hI.f5, hI.f6, hI.f7, fun _ => rfl, hI.f9, hI.f10, hI.f11, hI.f12, hI.f13⟩
    · have h8 : L 8 = true := done_of hw 8 (by kernel_rfl)
      have e13 := (hf.new 8 13 rfl h8 (by simp)).trans (hI.f8 h8)
      have hwr : IntKind.i64.wrap ((o : Int) + 1) = (o : Int) + 1 := IntWalk.i64_in _ (by omega)
      refine wp_of_run (v := .int .i64 ((o : Int) + 1)) (w' := X) (by unfold execOp; go_simp) ?_
      exact ⟨hI.bel, hI.f0, hI.f1, hI.f2, hI.f3, hI.f4, hI.f5, hI.f6, hI.f7, hI.f8, fun _ => rfl, hI.f10, hI.f11, hI.f12, hI.f13⟩
    · have h7 : L 7 = true := done_of hw 7 (by kernel_rfl)
      have h9 : L 9 = true := done_of hw 9 (by kernel_rfl)
      have e12 := (hf.new 7 12 rfl h7 (by simp)).trans (hI.f7 h7)
      have e14 := (hf.new 9 14 rfl h9 (by simp)).trans (hI.f9 h9)
      refine wp_of_run (v := .slice (if co = o + 1 then some ao else some (ao.add ((o + 1) * 4))) (s.orders.length - (o + 1)) (co - (o + 1))) (w' := X) (by unfold execOp; go_simp) ?_
      exact ⟨hI.bel, hI.f0, hI.f1, hI.f2, hI.f3, hI.f4, hI.f5, hI.f6, hI.f7, hI.f8, hI.f9, fun _ => rfl, hI.f11, hI.f12, hI.f13⟩
    · -- 11: the second append
      have n13 : L 13 = false := not_yet hcl 13 hL rfl (by kernel_rfl)
      have h5 : L 5 = true := done_of hw 5 (by kernel_rfl)
      have h10 : L 10 = true := done_of hw 10 (by kernel_rfl)
      have hb := hI.bel n13
      obtain ⟨A, n, k1, k2⟩ := hI.f5 h5 hL
      have e10 := (hf.new 5 10 rfl h5 (by simp)).trans k1
      have e15 := (hf.new 10 15 rfl h10 (by simp)).trans (hI.f10 h10)
      obtain ⟨v', w', hrun, A2, c2, rfl, hown, hb'⟩ := ask6 k2 Hl1.out (HR2.out.below (hb.mono hBW)) Hl2.out hb.size (by rw [List.length_take, List.length_drop]; omega)
      refine wp_append_run (.tmp 10) (.tmp 15) 24 rfl (by unfold Act.eval; simpa using e10) (by unfold Act.eval; simpa using e15) hrun ⟨_, rfl, ?_⟩
      exact ⟨fun _ => hb.trans hb', fun _ h => absurd (h5.symm.trans h) (by simp), hI.f1, hI.f2, hI.f3, hI.f4, fun _ h => (by cases h), hI.f6, hI.f7, hI.f8, hI.f9, hI.f10, fun _ _ => ⟨A2, c2, rfl, hown⟩, hI.f12, fun h => absurd (n13.symm.trans h) (by simp)⟩
    · have e2 := hf.old 2 (by kernel_rfl)
      refine wp_of_run (v := .pointer (some ⟨w.heap.size, 2, none⟩)) (w' := X) (by unfold execOp; go_simp) ?_
      exact ⟨hI.bel, hI.f0, hI.f1, hI.f2, hI.f3, hI.f4, hI.f5, hI.f6, hI.f7, hI.f8, hI.f9, hI.f10, hI.f11, fun _ => rfl, hI.f13⟩
    · have h11 : L 11 = true := done_of hw 11 (by kernel_rfl)
      have h12 : L 12 = true := done_of hw 12 (by kernel_rfl)
      have h5 : L 5 = true := hcl 11 _ rfl h11 5 (by simp [waits, Region.binds])
      have hb := hI.bel hL
      obtain ⟨A, c, k1, k2⟩ := hI.f11 h11 hL
      have e16 := (hf.new 11 16 rfl h11 (by simp)).trans k1
      have e17 := (hf.new 12 17 rfl h12 (by simp)).trans (hI.f12 h12)
      have c2 := (hb.cell (cell_lt C2.out)).trans C2.out
      have f2 := (hb.frozen (p := ⟨w.heap.size, 2, none⟩) (by show w.heap.size < W.heap.size; omega)).trans F2.out
      refine wp_of_skip (w' := X.setCell ⟨w.heap.size, 2, none⟩ (.slice A (o + (s.orders.length - (o + 1))) c)) (by unfold execOp; go_simp) ?_
      exact ⟨fun h => (by cases h), fun _ h => absurd (h5.symm.trans h) (by simp), hI.f1, hI.f2, hI.f3, hI.f4, fun _ h => absurd (h11.symm.trans h) (by simp), hI.f6, hI.f7, hI.f8, hI.f9, hI.f10, fun _ h => (by cases h), hI.f12, fun _ => ⟨A, c, X, k2, hb, rfl⟩⟩
  · intro vs X hI
    obtain ⟨A, c, X0, k2, k3, rfl⟩ := hI.f13 rfl
    have hX1 : (X0.setCell ⟨w.heap.size, 2, none⟩ (.slice A (o + (s.orders.length - (o + 1))) c)).heap[w.heap.size]? = some (.cells #[.slice Ah s.hours.length ch, .slice Ap s.parts.length cp, .slice A (o + (s.orders.length - (o + 1))) c] 26) := heap_setCell_same _ _ 2 _ _ _ ((k3.block _ (by omega)).trans HT0.out)
    have hX2 : (X0.setCell ⟨w.heap.size, 2, none⟩ (.slice A (o + (s.orders.length - (o + 1))) c)).heap[w.heap.size + 1]? = some (.cells #[.slice none 0 0, .slice none 0 0, .slice none 0 0] 26) := by
      rw [Below.heap_setCell _ _ _ _ (by simp)]
      exact (k3.block _ hn).trans HT1.out
    have hown : Own W.heap.size 60 (X0.setCell ⟨w.heap.size, 2, none⟩ (.slice A (o + (s.orders.length - (o + 1))) c)) (.slice A (o + (s.orders.length - (o + 1))) c) (othersOf s o) := by rw [Hoe.out]; exact k2.other (by show w.heap.size < W.heap.size; omega) _
    have hbX : Below w.heap.size w (X0.setCell ⟨w.heap.size, 2, none⟩ (.slice A (o + (s.orders.length - (o + 1))) c)) := (Hb.out.trans (k3.mono Hb.out.size)).setCell (Nat.le_refl _) _
    clear hI k2 k3
    generalize X0.setCell ⟨w.heap.size, 2, none⟩ (.slice A (o + (s.orders.length - (o + 1))) c) = X at *
    rw [Hl3.out] at hX1 hown
    have hfz : ∀ j, X.frozen? ⟨w.heap.size + 1, j, none⟩ = false := fun j => by simp [World.frozen?, hX2]
    have z0 := hfz 0
    have z1 := hfz 1
    have z2 := hfz 2
    have x0 := cellOf hX1 0 (v := .slice Ah s.hours.length ch) rfl
    have x1 := cellOf hX1 1 (v := .slice Ap s.parts.length cp) rfl
    have x2 := cellOf hX1 2 (v := .slice A (othersOf s o).length c) rfl
    have y0 := cellOf hX2 0 (v := .slice none 0 0) rfl
    have y1 := cellOf hX2 1 (v := .slice none 0 0) rfl
    have y2 := cellOf hX2 2 (v := .slice none 0 0) rfl
    have HX2 := Lib.hid hX2
    have HO := Lib.hid hown
    have HbX := Lib.hid hbX
    clear hX1 hX2 hown hbX hfz
    generalize vs 0 = u0
    generalize vs 1 = u1
    generalize vs 2 = u2
    generalize vs 3 = u3
    generalize vs 4 = u4
    generalize vs 5 = u5
    generalize vs 6 = u6
    generalize vs 7 = u7
    generalize vs 8 = u8
    generalize vs 9 = u9
    generalize vs 10 = u10
    generalize vs 11 = u11
    generalize vs 12 = u12
    simp [fill, slotOf, Act.put]
    simp only [Exit.inBlock, Exit.then]
    go_wp2
    have hres := heap_setCell_same _ _ 2 _ _ (.slice A (othersOf s o).length c) (heap_setCell_same _ _ 1 _ _ (.slice Ap s.parts.length cp) (heap_setCell_same _ _ 0 _ _ (.slice Ah s.hours.length ch) HX2.out))
    have q0 := cellOf hres 0 (v := .slice Ah s.hours.length ch) rfl
    have q1 := cellOf hres 1 (v := .slice Ap s.parts.length cp) rfl
    have q2 := cellOf hres 2 (v := .slice A (othersOf s o).length c) rfl
    refine bodyPost_ret (v := .agg #[.slice Ah s.hours.length ch, .slice Ap s.parts.length cp, .slice A (othersOf s o).length c]) (by simp [results, Try.results73, go_sem, q0, q1, q2]) rfl ?_
    refine ⟨_, _, _, A, _, c, rfl, rfl, rfl, ?_, set3_below HbX.out (by omega) _ _ _⟩
    exact (HO.out.same fun g hg hge => set3_heap X (by omega) _ _ _).mono Hb.out.size
end Go.Proofs.Ytkmaapkbonkjfaa
namespace Go.Proofs.Ytkmaapkbonkjfaa
open Go.RowKit

theorem withFrom_bd {s : ShopR} (hg : Good s) {t r : List OrdR} (hf : Fit s (t ++ r)) {best : Int} (hb : 0 ≤ best ∧ best ≤ 90000) : 0 ≤ withFrom s best t r ∧ withFrom s best t r ≤ 90000 := by
  obtain ⟨h1, h2, h3⟩ := withFrom_reach hg r best t (fun o ho => by have := (hf.all o ho).many; omega)
  refine ⟨by omega, ?_⟩
  rcases h3 with h3 | ⟨z, hz, _, _, h4⟩
  · omega
  · have h5 := wsum_bd (l := z) fun o ho => (hf.all o (by simp [hz.subset ho])).worth
    have h6 := hz.length_le
    have h7 := hf.len
    rw [List.length_append] at h7
    omega
theorem withFrom_len {s : ShopR} (hg : Good s) {t r : List OrdR} (hf : Fit s (t ++ r)) : withFrom s 0 t r ≤ 10000 * r.length := by
  obtain ⟨h1, h2, h3⟩ := withFrom_reach hg r 0 t (fun o ho => by have := (hf.all o ho).many; omega)
  rcases h3 with h3 | ⟨z, hz, _, _, h4⟩
  · omega
  · have h5 := wsum_bd (l := z) fun o ho => (hf.all o (by simp [hz.subset ho])).worth
    have h6 := hz.length_le
    omega
theorem withFrom_cons (s : ShopR) (best : Int) (t : List OrdR) (o : OrdR) (r : List OrdR) : withFrom s best t (o :: r) = withFrom s (if canB s (t ++ [o]) then max best (o.worth + withFrom s 0 (t ++ [o]) r) else best) t r := by
  conv => lhs; unfold withFrom
theorem withFrom_nil (s : ShopR) (best : Int) (t : List OrdR) : withFrom s best t [] = best := by unfold withFrom; rfl
theorem Fit.front {s : ShopR} {t r : List OrdR} {o : OrdR} (h : Fit s (t ++ o :: r)) : Fit s (t ++ [o]) ∧ Fit s ((t ++ [o]) ++ r) := by
  have h1 := h.len
  simp at h1
  refine ⟨⟨by simp; omega, fun x hx => h.all x (by rcases List.mem_append.1 hx with hx | hx <;> simp_all)⟩, ⟨by simp; omega, fun x hx => h.all x (by simpa using hx)⟩⟩

/-- what holds within With's statement -/
structure WiI (W : World) (vs0 vm vr : Value) (i : Nat) (a3 a4 : Addr) (bst ow wr_ : Int) (vd : Value) (L : Nat → Bool) (vs : Nat → Value) (X : World) : Prop where
  bel : Below W.heap.size W X
  f0 : L 0 = true → vs 0 = .int .i64 bst
  f1 : L 1 = true → vs 1 = vr
  f2 : L 2 = true → vs 2 = .int .i64 i
  f3 : L 3 = true → vs 3 = .pointer (some a3)
  f4 : L 4 = true → vs 4 = .pointer (some a4)
  f5 : L 5 = true → vs 5 = .int .i64 ow
  f6 : L 6 = true → vs 6 = vs0
  f7 : L 7 = true → vs 7 = vm
  f8 : L 8 = true → vs 8 = vr
  f9 : L 9 = true → vs 9 = .int .i64 i
  f10 : L 10 = true → vs 10 = .int .i64 ((i : Int) + 1)
  f11 : L 11 = true → vs 11 = vd
  f12 : L 12 = true → vs 12 = .int .i64 wr_
  f13 : L 13 = true → vs 13 = .int .i64 (ow + wr_)
  f14 : L 14 = true → vs 14 = .int .i64 (max bst (ow + wr_))
  f15 : L 15 = true → vs 15 = .int .i64 (max bst (ow + wr_))

set_option maxRecDepth 100000 in
set_option maxHeartbeats 4000000 in
theorem with_walk {B : Nat} {w : World} {v vt vr : Value} {s : ShopR} {t r : List OrdR} (hs : RdShop B w v s) (hg : Good s) (hnm : ∀ p ∈ s.parts, p.name.size ≤ 9223372036854775807) (hB : B ≤ w.heap.size) (ht : Rd OrdAt 4 B w vt t) (hr : Rd OrdAt 4 B w vr r) (hf : Fit s (t ++ r))
    (IH : ∀ (o : OrdR) (r' : List OrdR) (w1 : World) (B1 : Nat) (vt1 vr1 : Value), r'.length < r.length → RdShop B1 w1 v s → B1 ≤ w1.heap.size → Rd OrdAt 4 B1 w1 vt1 (t ++ [o]) → Rd OrdAt 4 B1 w1 vr1 r' → Fit s ((t ++ [o]) ++ r') →
      Calls Try.prog 74 #[v, vt1, vr1] w1 fun e w' => e = .returned (.int .i64 (withFrom s 0 (t ++ [o]) r')) ∧ Below w1.heap.size w1 w') :
    Calls Try.prog 74 #[v, vt, vr] w fun e w' => e = .returned (.int .i64 (withFrom s 0 t r)) ∧ Below w.heap.size w w' := by
  obtain ⟨vh, vp, vo, rfl, ⟨Ah, ch, rfl, _⟩, ⟨Ap, cp, rfl, _⟩, ⟨Ao, co, rfl, _⟩⟩ := id hs
  obtain ⟨At_, ct, rfl, _⟩ := id ht
  obtain ⟨Ar, cr, rfl, hrl, hrc, _⟩ := id hr
  obtain ⟨W, hW⟩ : ∃ W, W = w.alloc (.cells #[.slice Ah s.hours.length ch, .slice Ap s.parts.length cp, .slice Ao s.orders.length co] 26) := ⟨_, rfl⟩
  have HS := Lib.hid (ShS.start hs hnm hB)
  rw [← hW] at HS
  have HT := Lib.hid ((ht.below (HS.out.below.mono hB)).mono (Nat.le_trans hB HS.out.below.size))
  have HRd := Lib.hid ((hr.below (HS.out.below.mono hB)).mono (Nat.le_trans hB HS.out.below.size))
  have hfl := hf.len
  rw [List.length_append] at hfl
  have Hf := Lib.hid hf
  have Hg := Lib.hid hg
  clear hs ht hr hB hf hg
  go_enter Try.func74, Try.ntmps74
  go_upto_region 1 with (fail)
  rw [← hW]
  clear hW
  go_wp2
  go_loopw [7, 8] (fun bv iv wr => ∃ (i : Nat) (bst : Int), i ≤ r.length ∧ iv = .int .i64 i ∧ bv = .int .i64 bst ∧ 0 ≤ bst ∧ bst ≤ 90000 ∧ Hid (withFrom s bst t (r.drop i) = withFrom s 0 t r) ∧ Below W.heap.size W wr) (fun _ iv _ => r.length - (intOf iv).toNat)
  case atStart => exact ⟨0, 0, Nat.zero_le _, rfl, rfl, by omega, by omega, Lib.hid (by rw [List.drop_zero]), Below.refl _ _⟩
  case round =>
    obtain ⟨i, bst, hi, rfl, rfl, hb0, hb1, Hwf, hbr⟩ := hrel
    have HR := Lib.hid (HS.out.next hbr)
    have HTr := Lib.hid ((HT.out.below hbr).mono hbr.size)
    have HRr := Lib.hid ((HRd.out.below hbr).mono hbr.size)
    have Hbr := Lib.hid hbr
    clear hbr
    by_cases hil : i < r.length
    · obtain ⟨ar, rfl, _, o0, o1, o2, o3⟩ := HRr.out.ord hil
      have hdr : r.drop i = (r[i]?.getD default) :: r.drop (i + 1) := by rw [List.getElem?_eq_getElem hil, Option.getD_some]; exact List.drop_eq_getElem_cons hil
      have hff := Hf.out
      have hsub : Fit s (t ++ (r[i]?.getD default) :: r.drop (i + 1)) := by
        rw [← hdr]
        refine ⟨by rw [List.length_append, List.length_drop]; omega, fun x hx => hff.all x ?_⟩
        rcases List.mem_append.1 hx with hx | hx
        · simp [hx]
        · simp [List.mem_of_mem_drop hx]
      have hwc := withFrom_cons s bst t (r[i]?.getD default) (r.drop (i + 1))
      rw [← hdr, Hwf.out] at hwc
      obtain ⟨hf1, hf2⟩ := hsub.front
      have hwb := withFrom_bd Hg.out hf2 (best := 0) (by omega)
      have hwl := withFrom_len Hg.out hf2
      rw [List.length_drop] at hwl
      have how := (hf1.all (r[i]?.getD default) (by simp)).worth
      have Hwc := Lib.hid hwc
      have Hf1 := Lib.hid hf1
      have Hf2 := Lib.hid hf2
      clear hdr hff hsub hwc hf1 hf2
      generalize r[i]?.getD default = o at *
      have Hmo := Lib.hid (more_any HTr.out (Nat.le_refl _) (by omega) o)
      obtain ⟨_, _, c2⟩ := HR.out.cells
      clear c2
      go_upto_region 6 with (go_at_call 67; refine Hmo.out.mono ?_; rintro e w2 ⟨A2, n2, rfl, hown, hb⟩; have HM := Lib.hid hown.rd; have HR := Lib.hid (HR.out.next hb); have HRr := Lib.hid ((HRr.out.below hb).mono hb.size); have Hbr := Lib.hid (Hbr.out.trans (hb.mono Hbr.out.size)); have o3 := (hb.cell (cell_lt o3)).trans o3; clear hb hown o0 o1 o2)
      obtain ⟨c0, c1, c2⟩ := HR.out.cells
      have Hcn := Lib.hid (can_any (HR.out.shop.mono HR.out.hB) (by simpa using HM.out) Hg.out Hf1.out (Nat.le_refl _))
      cases hcb : canB s (t ++ [o]) with
      | false =>
        rw [hcb] at Hcn Hwc
        clear hcb
        go_wp2_with (go_at_call 62; refine Hcn.out.mono ?_; rintro e w3 ⟨rfl, hb⟩; have Hbr := Lib.hid (Hbr.out.trans (hb.mono Hbr.out.size)); clear hb o3 c0 c1 c2)
        go_roundw
        case rel => exact ⟨i + 1, bst, by omega, by go_num, rfl, hb0, hb1, Lib.hid (by rw [Hwc.out]; rfl), Hbr.out⟩
        case measure => simp [intOf]; omega
      | true =>
        rw [hcb] at Hcn Hwc
        clear hcb
        go_upto_region 7 with (go_at_call 62; refine Hcn.out.mono ?_; rintro e w3 ⟨rfl, hb⟩; have HM := Lib.hid ((HM.out.below hb).mono hb.size); have HR := Lib.hid (HR.out.next hb); have HRr := Lib.hid ((HRr.out.below hb).mono hb.size); have Hbr := Lib.hid (Hbr.out.trans (hb.mono Hbr.out.size)); have o3 := (hb.cell (cell_lt o3)).trans o3; clear hb c0 c1 c2; obtain ⟨c0, c1, c2⟩ := HR.out.cells)
        have O3 := Lib.hid o3
        have C0 := Lib.hid c0
        have C1 := Lib.hid c1
        have C2 := Lib.hid c2
        have hdl : r.length - (i + 1) < r.length := by omega
        clear o3 c0 c1 c2
        refine wp_region_ghost (WiI w3 (.agg #[.slice Ah s.hours.length ch, .slice Ap s.parts.length cp, .slice Ao s.orders.length co]) (.slice A2 (t.length + 1) n2) (.slice (some ar) r.length cr) i (ar.add (i * 4)) ⟨(ar.add (i * 4)).block, (ar.add (i * 4)).off + 3, none⟩ bst o.worth (withFrom s 0 (t ++ [o]) (r.drop (i + 1))) (.slice (if cr = i + 1 then some ar else some (ar.add ((i + 1) * 4))) (r.length - (i + 1)) (cr - (i + 1)))) (by kernel_rfl) (by kernel_rfl) ?_ ?_ ?_
        · exact ⟨(Below.refl _ _).drew, fun h => (by cases h), fun h => (by cases h), fun h => (by cases h), fun h => (by cases h), fun h => (by cases h), fun h => (by cases h), fun h => (by cases h), fun h => (by cases h), fun h => (by cases h), fun h => (by cases h), fun h => (by cases h), fun h => (by cases h), fun h => (by cases h), fun h => (by cases h), fun h => (by cases h), fun h => (by cases h)⟩
        · refine ⟨?_, ?_, ?_, ?_, ?_, ?_, ?_, ?_, ?_, ?_, ?_, ?_, ?_, ?_, ?_, ?_, trivial⟩
          all_goals
            intro L vs X b hL hw hcl hI hf
            have hb := hI.bel
          · have n14 : L 14 = false := not_yet hcl 14 hL rfl (by kernel_rfl)
            have n15 : L 15 = false := not_yet hcl 15 n14 rfl (by kernel_rfl)
            have e := hf.yet 7 15 (by kernel_rfl) n15
            refine wp_of_run (v := .int .i64 bst) (w' := X) (by unfold execOp; go_simp) ?_
            exact ⟨hb, fun _ => rfl, hI.f1, hI.f2, hI.f3, hI.f4, hI.f5, hI.f6, hI.f7, hI.f8, hI.f9, hI.f10, hI.f11, hI.f12, hI.f13, hI.f14, hI.f15⟩
          · have e := hf.old 2 (by kernel_rfl)
            refine wp_of_run (v := .slice (some ar) r.length cr) (w' := X) (by unfold execOp; go_simp) ?_
            exact ⟨hb, hI.f0, fun _ => rfl, hI.f2, hI.f3, hI.f4, hI.f5, hI.f6, hI.f7, hI.f8, hI.f9, hI.f10, hI.f11, hI.f12, hI.f13, hI.f14, hI.f15⟩
          · have e := hf.old 8 (by kernel_rfl)
            refine wp_of_run (v := .int .i64 i) (w' := X) (by unfold execOp; go_simp) ?_
            exact ⟨hb, hI.f0, hI.f1, fun _ => rfl, hI.f3, hI.f4, hI.f5, hI.f6, hI.f7, hI.f8, hI.f9, hI.f10, hI.f11, hI.f12, hI.f13, hI.f14, hI.f15⟩
          · have h1 : L 1 = true := done_of hw 1 (by kernel_rfl)
            have h2 : L 2 = true := done_of hw 2 (by kernel_rfl)
            have e26 := (hf.new 1 26 rfl h1 (by simp)).trans (hI.f1 h1)
            have e27 := (hf.new 2 27 rfl h2 (by simp)).trans (hI.f2 h2)
            refine wp_of_run (v := .pointer (some (ar.add (i * 4)))) (w' := X) (by unfold execOp; go_simp) ?_
            exact ⟨hb, hI.f0, hI.f1, hI.f2, fun _ => rfl, hI.f4, hI.f5, hI.f6, hI.f7, hI.f8, hI.f9, hI.f10, hI.f11, hI.f12, hI.f13, hI.f14, hI.f15⟩
          · have h3 : L 3 = true := done_of hw 3 (by kernel_rfl)
            have e28 := (hf.new 3 28 rfl h3 (by simp)).trans (hI.f3 h3)
            refine wp_of_run (v := .pointer (some ⟨(ar.add (i * 4)).block, (ar.add (i * 4)).off + 3, none⟩)) (w' := X) (by unfold execOp; go_simp) ?_
            exact ⟨hb, hI.f0, hI.f1, hI.f2, hI.f3, fun _ => rfl, hI.f5, hI.f6, hI.f7, hI.f8, hI.f9, hI.f10, hI.f11, hI.f12, hI.f13, hI.f14, hI.f15⟩
          · have h4 : L 4 = true := done_of hw 4 (by kernel_rfl)
            have e29 := (hf.new 4 29 rfl h4 (by simp)).trans (hI.f4 h4)
            have x3 := (hb.cell (cell_lt O3.out)).trans O3.out
            refine wp_of_run (v := .int .i64 o.worth) (w' := X) (by unfold execOp; go_simp) ?_
            exact ⟨hb, hI.f0, hI.f1, hI.f2, hI.f3, hI.f4, fun _ => rfl, hI.f6, hI.f7, hI.f8, hI.f9, hI.f10, hI.f11, hI.f12, hI.f13, hI.f14, hI.f15⟩
          · have e := hf.old 3 (by kernel_rfl)
            have x0 := (hb.cell (cell_lt C0.out)).trans C0.out
            have x1 := (hb.cell (cell_lt C1.out)).trans C1.out
            have x2 := (hb.cell (cell_lt C2.out)).trans C2.out
            refine wp_of_run (v := .agg #[.slice Ah s.hours.length ch, .slice Ap s.parts.length cp, .slice Ao s.orders.length co]) (w' := X) (by unfold execOp; go_simp) ?_
            exact ⟨hb, hI.f0, hI.f1, hI.f2, hI.f3, hI.f4, hI.f5, fun _ => rfl, hI.f7, hI.f8, hI.f9, hI.f10, hI.f11, hI.f12, hI.f13, hI.f14, hI.f15⟩
          · have e := hf.old 9 (by kernel_rfl)
            refine wp_of_run (v := .slice A2 (t.length + 1) n2) (w' := X) (by unfold execOp; go_simp) ?_
            exact ⟨hb, hI.f0, hI.f1, hI.f2, hI.f3, hI.f4, hI.f5, hI.f6, fun _ => rfl, hI.f8, hI.f9, hI.f10, hI.f11, hI.f12, hI.f13, hI.f14, hI.f15⟩
          · have e := hf.old 2 (by kernel_rfl)
            refine wp_of_run (v := .slice (some ar) r.length cr) (w' := X) (by unfold execOp; go_simp) ?_
            exact ⟨hb, hI.f0, hI.f1, hI.f2, hI.f3, hI.f4, hI.f5, hI.f6, hI.f7, fun _ => rfl, hI.f9, hI.f10, hI.f11, hI.f12, hI.f13, hI.f14, hI.f15⟩
          · have e := hf.old 8 (by kernel_rfl)
            refine wp_of_run (v := .int .i64 i) (w' := X) (by unfold execOp; go_simp) ?_
            exact ⟨hb, hI.f0, hI.f1, hI.f2, hI.f3, hI.f4, hI.f5, hI.f6, hI.f7, hI.f8, fun _ => rfl, hI.f10, hI.f11, hI.f12, hI.f13, hI.f14, hI.f15⟩
          · have h9 : L 9 = true := done_of hw 9 (by kernel_rfl)
            have e34 := (hf.new 9 34 rfl h9 (by simp)).trans (hI.f9 h9)
            have hwr : IntKind.i64.wrap ((i : Int) + 1) = (i : Int) + 1 := IntWalk.i64_in _ (by omega)
            refine wp_of_run (v := .int .i64 ((i : Int) + 1)) (w' := X) (by unfold execOp; go_simp) ?_
            exact ⟨hb, hI.f0, hI.f1, hI.f2, hI.f3, hI.f4, hI.f5, hI.f6, hI.f7, hI.f8, hI.f9, fun _ => rfl, hI.f11, hI.f12, hI.f13, hI.f14, hI.f15⟩
          · have h8 : L 8 = true := done_of hw 8 (by kernel_rfl)
            have h10 : L 10 = true := done_of hw 10 (by kernel_rfl)
            have e33 := (hf.new 8 33 rfl h8 (by simp)).trans (hI.f8 h8)
            have e35 := (hf.new 10 35 rfl h10 (by simp)).trans (hI.f10 h10)
            have q1 : (0 : Int) ≤ (i : Int) + 1 := by omega
            have q2 : (i : Int) + 1 ≤ (r.length : Int) := by omega
            refine wp_of_run (v := .slice (if cr = i + 1 then some ar else some (ar.add ((i + 1) * 4))) (r.length - (i + 1)) (cr - (i + 1))) (w' := X) (by unfold execOp; go_simp) ?_
            exact ⟨hb, hI.f0, hI.f1, hI.f2, hI.f3, hI.f4, hI.f5, hI.f6, hI.f7, hI.f8, hI.f9, hI.f10, fun _ => rfl, hI.f12, hI.f13, hI.f14, hI.f15⟩
          · have h6 : L 6 = true := done_of hw 6 (by kernel_rfl)
            have h7 : L 7 = true := done_of hw 7 (by kernel_rfl)
            have h11 : L 11 = true := done_of hw 11 (by kernel_rfl)
            have e31 := (hf.new 6 31 rfl h6 (by simp)).trans (hI.f6 h6)
            have e32 := (hf.new 7 32 rfl h7 (by simp)).trans (hI.f7 h7)
            have e36 := (hf.new 11 36 rfl h11 (by simp)).trans (hI.f11 h11)
            have HX := HR.out.next hb
            refine wp_of_call (f := 74) (args := #[.agg #[.slice Ah s.hours.length ch, .slice Ap s.parts.length cp, .slice Ao s.orders.length co], .slice A2 (t.length + 1) n2, .slice (if cr = i + 1 then some ar else some (ar.add ((i + 1) * 4))) (r.length - (i + 1)) (cr - (i + 1))]) (by unfold execOp; go_simp) ?_
            refine (IH o (r.drop (i + 1)) X X.heap.size _ _ (by rw [List.length_drop]; exact hdl) (HX.shop.mono HX.hB) (Nat.le_refl _) (by have := (HM.out.below hb).mono hb.size; simpa using this) (((HRr.out.below hb).mono hb.size).dropN (l := i + 1) (by omega)) Hf2.out).mono ?_
            rintro e wz ⟨rfl, hbz⟩
            exact ⟨_, rfl, hb.trans (hbz.mono hb.size), hI.f0, hI.f1, hI.f2, hI.f3, hI.f4, hI.f5, hI.f6, hI.f7, hI.f8, hI.f9, hI.f10, hI.f11, fun _ => rfl, hI.f13, hI.f14, hI.f15⟩
          · have h5 : L 5 = true := done_of hw 5 (by kernel_rfl)
            have h12 : L 12 = true := done_of hw 12 (by kernel_rfl)
            have e30 := (hf.new 5 30 rfl h5 (by simp)).trans (hI.f5 h5)
            have e37 := (hf.new 12 37 rfl h12 (by simp)).trans (hI.f12 h12)
            have hwr : IntKind.i64.wrap (o.worth + withFrom s 0 (t ++ [o]) (r.drop (i + 1))) = o.worth + withFrom s 0 (t ++ [o]) (r.drop (i + 1)) := IntWalk.i64_in _ (by omega)
            refine wp_of_run (v := .int .i64 (o.worth + withFrom s 0 (t ++ [o]) (r.drop (i + 1)))) (w' := X) (by unfold execOp; go_simp) ?_
            exact ⟨hb, hI.f0, hI.f1, hI.f2, hI.f3, hI.f4, hI.f5, hI.f6, hI.f7, hI.f8, hI.f9, hI.f10, hI.f11, hI.f12, fun _ => rfl, hI.f14, hI.f15⟩
          · have h0 : L 0 = true := done_of hw 0 (by kernel_rfl)
            have h13 : L 13 = true := done_of hw 13 (by kernel_rfl)
            have e25 := (hf.new 0 25 rfl h0 (by simp)).trans (hI.f0 h0)
            have e38 := (hf.new 13 38 rfl h13 (by simp)).trans (hI.f13 h13)
            have hmx : (if bst < o.worth + withFrom s 0 (t ++ [o]) (r.drop (i + 1)) then o.worth + withFrom s 0 (t ++ [o]) (r.drop (i + 1)) else bst) = max bst (o.worth + withFrom s 0 (t ++ [o]) (r.drop (i + 1))) := by split <;> omega
            refine wp_of_run (v := .int .i64 (max bst (o.worth + withFrom s 0 (t ++ [o]) (r.drop (i + 1))))) (w' := X) (by unfold execOp; go_simp) ?_
            exact ⟨hb, hI.f0, hI.f1, hI.f2, hI.f3, hI.f4, hI.f5, hI.f6, hI.f7, hI.f8, hI.f9, hI.f10, hI.f11, hI.f12, hI.f13, fun _ => rfl, hI.f15⟩
          · have h14 : L 14 = true := done_of hw 14 (by kernel_rfl)
            have e39 := (hf.new 14 39 rfl h14 (by simp)).trans (hI.f14 h14)
            refine wp_of_run (v := .int .i64 (max bst (o.worth + withFrom s 0 (t ++ [o]) (r.drop (i + 1))))) (w' := X) (by unfold execOp; go_simp) ?_
            exact ⟨hb, hI.f0, hI.f1, hI.f2, hI.f3, hI.f4, hI.f5, hI.f6, hI.f7, hI.f8, hI.f9, hI.f10, hI.f11, hI.f12, hI.f13, hI.f14, fun _ => rfl⟩
        · intro vs X hI
          have k15 := hI.f15 rfl
          have HbX := Lib.hid (Hbr.out.trans (hI.bel.mono Hbr.out.size))
          clear hI
          simp [fill, slotOf, Act.put, k15]
          simp only [Exit.inBlock, Exit.then]
          clear k15
          go_wp2
          go_roundw
          case rel => exact ⟨i + 1, _, by omega, by go_num, rfl, by omega, by omega, Lib.hid (by rw [Hwc.out]; rfl), HbX.out⟩
          case measure => simp [intOf]; omega
    · have hie : i = r.length := by omega
      subst hie
      have hwf := Hwf.out
      rw [List.drop_length, withFrom_nil] at hwf
      subst hwf
      go_wp2
      go_ret
      exact ⟨rfl, HS.out.below.trans (Hbr.out.mono HS.out.below.size)⟩

/-- With of the reference -/
theorem with_any {s : ShopR} (hg : Good s) (hnm : ∀ p ∈ s.parts, p.name.size ≤ 9223372036854775807) : ∀ (F : Nat) {B : Nat} {w : World} {v vt vr : Value} (t r : List OrdR), r.length ≤ F → RdShop B w v s → B ≤ w.heap.size → Rd OrdAt 4 B w vt t → Rd OrdAt 4 B w vr r → Fit s (t ++ r) →
    Calls Try.prog 74 #[v, vt, vr] w fun e w' => e = .returned (.int .i64 (withFrom s 0 t r)) ∧ Below w.heap.size w w' := by
  intro F
  induction F with
  | zero =>
    intro B w v vt vr t r hF hs hB ht hr hf
    exact with_walk hs hg hnm hB ht hr hf fun o r' w1 B1 vt1 vr1 h => by omega
  | succ F ih =>
    intro B w v vt vr t r hF hs hB ht hr hf
    exact with_walk hs hg hnm hB ht hr hf fun o r' w1 B1 vt1 vr1 h hs1 hB1 ht1 hr1 hf1 => ih (t ++ [o]) r' (by omega) hs1 hB1 ht1 hr1 hf1
end Go.Proofs.Ytkmaapkbonkjfaa
namespace Go.Proofs.Ytkmaapkbonkjfaa
open Go.RowKit

theorem fit_one {s : ShopR} (hg : Good s) {i : Nat} (hi : i < s.orders.length) : Fit s ([s.orders.getD i default]) := ⟨by simp, fun o ho => by rw [List.mem_singleton.1 ho]; exact hg.ord hi⟩
theorem fit_others {s : ShopR} (hg : Good s) (i : Nat) : Fit s ([] ++ othersOf s i) := by
  refine ⟨?_, fun o ho => ?_⟩
  · rw [List.nil_append]
    unfold othersOf ordsOf
    rw [List.length_map]
    have := List.length_filter_le (fun j => decide (j ≠ i)) (List.range s.orders.length)
    have := hg.olen
    rw [List.length_range] at *
    omega
  · rw [List.nil_append] at ho
    unfold othersOf ordsOf at ho
    obtain ⟨j, hj, rfl⟩ := List.mem_map.1 ho
    exact hg.ord (List.mem_range.1 (List.mem_filter.1 hj).1)
theorem others_len {s : ShopR} {i : Nat} (hi : i < s.orders.length) : (othersOf s i).length + 1 = s.orders.length := by
  rw [others_eq hi, List.length_append, List.length_take, List.length_drop]; omega
theorem fit_with {s : ShopR} (hg : Good s) {i : Nat} (hi : i < s.orders.length) : Fit s ([s.orders.getD i default] ++ othersOf s i) := by
  have h1 := fit_others hg i
  have h2 := others_len hi
  have h3 := hg.olen
  refine ⟨by simp; omega, fun o ho => ?_⟩
  rcases List.mem_append.1 ho with ho | ho
  · rw [List.mem_singleton.1 ho]; exact hg.ord hi
  · exact h1.all o (by simpa using ho)

/-- what holds within Costs' last statement -/
structure CoI (W : World) (vs0 vw vo : Value) (a b : Int) (L : Nat → Bool) (vs : Nat → Value) (X : World) : Prop where
  bel : Below W.heap.size W X
  f0 : L 0 = true → vs 0 = vs0
  f1 : L 1 = true → vs 1 = vo
  f2 : L 2 = true → vs 2 = .int .i64 a
  f3 : L 3 = true → vs 3 = vs0
  f4 : L 4 = true → vs 4 = vw
  f5 : L 5 = true → vs 5 = vo
  f6 : L 6 = true → vs 6 = .int .i64 b
  f7 : L 7 = true → vs 7 = .int .i64 (a - b)
  f8 : L 8 = true → vs 8 = .int .i64 (a - b)
  f9 : L 9 = true → vs 9 = .int .i64 0

set_option maxRecDepth 100000 in
set_option maxHeartbeats 2000000 in
theorem rcosts_any {B : Nat} {w : World} {v : Value} {s : ShopR} (hs : RdShop B w v s) (hnm : ∀ p ∈ s.parts, p.name.size ≤ 9223372036854775807) (hB : B ≤ w.heap.size) (o : Int) :
    Calls Try.prog 34 #[v, .int .i64 o] w fun e w' => e = .returned (costsFV s o) ∧ Below w.heap.size w w' := by
  obtain ⟨vh, vp, vo, rfl, ⟨Ah, ch, rfl, _⟩, ⟨Ap, cp, rfl, _⟩, ⟨Ao, co, rfl, _⟩⟩ := id hs
  obtain ⟨W, hW⟩ : ∃ W, W = w.alloc (.cells #[.slice Ah s.hours.length ch, .slice Ap s.parts.length cp, .slice Ao s.orders.length co] 26) := ⟨_, rfl⟩
  have HS := Lib.hid (ShS.start hs hnm hB)
  rw [← hW] at HS
  clear hs hB
  go_enter Try.func34, Try.ntmps34
  go_upto_region 1 with (fail)
  rw [← hW]
  clear hW
  obtain ⟨c0, c1, c2⟩ := HS.out.cells
  have hq := Lib.hid (rcheck_any HS.out.shop HS.out.nm HS.out.hB)
  unfold checkV at hq
  rw [show (check s).2.2 = errOf s from rfl] at hq
  by_cases he : errOf s = 0
  · rw [he] at hq
    have hg := good_of_valid he
    have hol := hg.olen
    generalize (check s).1 = k1 at *
    generalize (check s).2.1 = k2 at *
    cases hin : inB o 0 (s.orders.length - 1) with
    | false =>
      have e := Lib.hid (costsFV_eq (costsF_out o he hin))
      have Hi := Lib.hid hin
      clear he hin hg
      go_wp2_with (first | (go_at_call 17; refine hq.out.mono ?_; rintro e wx ⟨rfl, hbx⟩; have HS := Lib.hid (HS.out.next hbx); clear hbx c0 c1 c2; obtain ⟨c0, c1, c2⟩ := HS.out.cells) | (go_at_call 50; refine (in_any _ _ _ _).mono ?_; rw [Hi.out]; rintro e wy ⟨rfl, h0⟩; have h0 := h0.symm; subst h0))
      go_ret2
      exact ⟨by rw [e.out]; rfl, HS.out.below⟩
    | true =>
      obtain ⟨i, rfl⟩ := Int.eq_ofNat_of_zero_le (inB_iff.1 hin).1
      have hil : i < s.orders.length := by have := (inB_iff.1 hin).2; omega
      have href := costsF_ref hg he hil
      have hf1 := fit_one hg hil
      have hfw := fit_with hg hil
      have hfo := fit_others hg i
      have Hi := Lib.hid hin
      have Hg := Lib.hid hg
      have Href := Lib.hid href
      have Hf1 := Lib.hid hf1
      have Hfw := Lib.hid hfw
      have Hfo := Lib.hid hfo
      clear he hin hg href hf1 hfw hfo
      go_upto_region 6 with (first | (go_at_call 17; refine hq.out.mono ?_; rintro e wx ⟨rfl, hbx⟩; have HS := Lib.hid (HS.out.next hbx); clear hbx c0 c1 c2; obtain ⟨c0, c1, c2⟩ := HS.out.cells) | (go_at_call 50; refine (in_any _ _ _ _).mono ?_; rw [Hi.out]; rintro e wy ⟨rfl, h0⟩; have h0 := h0.symm; subst h0))
      obtain ⟨vh', vp', vo', hv, _, _, hor⟩ := id HS.out.shop
      cases hv
      obtain ⟨ao, rfl, _, o0, o1, o2, o3⟩ := hor.ord hil
      rw [← List.getD_eq_getElem?_getD] at o0 o1 o2 o3
      have hwo := Lib.hid (without_any (o := i) (HS.out.shop.mono HS.out.hB) (Nat.le_refl _) (by omega) hil)
      clear hwo
      obtain ⟨od, hod⟩ : ∃ od, od = s.orders.getD i default := ⟨_, rfl⟩
      rw [← hod] at o0 o1 o2 o3 Href Hf1 Hfw
      clear hor hod
      go_upto_region 7 with (fail)
      obtain ⟨W7, hW7, r7, z7, b7⟩ := box_any wx #[.int .i64 od.part, .int .i64 od.many, .int .i64 od.due, .int .i64 od.worth] 60
      rw [← hW7]
      have HO := Lib.hid (ord_row (o := od) r7)
      have HS := Lib.hid (HS.out.next b7)
      have Z7 := Lib.hid z7
      clear hW7 r7 z7 b7 o0 o1 o2 o3 c0 c1 c2
      obtain ⟨c0, c1, c2⟩ := HS.out.cells
      have Hcn := Lib.hid (can_any (HS.out.shop.mono HS.out.hB) HO.out Hg.out Hf1.out (Nat.le_refl _))
      cases hcb : canB s [od] with
      | false =>
        rw [hcb] at Hcn Href
        have e := Lib.hid (costsFV_eq (s := s) (o := (i : Int)) (a := 0) (b := 9) (by rw [Href.out]; rfl))
        clear hcb
        go_wp2_with (go_at_call 62; refine Hcn.out.mono ?_; rintro e w3 ⟨rfl, hb⟩; have HS := Lib.hid (HS.out.next hb); clear hb c0 c1 c2)
        go_ret2
        exact ⟨by rw [e.out]; rfl, HS.out.below⟩
      | true =>
        rw [hcb] at Hcn Href
        have e := Lib.hid (costsFV_eq (s := s) (o := (i : Int)) (a := withFrom s 0 [] (othersOf s i) - withFrom s 0 [od] (othersOf s i)) (b := 0) (by rw [Href.out]; rfl))
        clear hcb
        go_upto_region 9 with (go_at_call 62; refine Hcn.out.mono ?_; rintro e w3 ⟨rfl, hb⟩; have HS := Lib.hid (HS.out.next hb); have HO := Lib.hid ((HO.out.below hb).mono hb.size); clear hb c0 c1 c2; obtain ⟨c0, c1, c2⟩ := HS.out.cells)
        have hfd : ∀ (A4 : Option Addr) (n4 c4 : Nat) (w : World), (Instr.field 26 (.agg #[.slice Ah s.hours.length ch, .slice Ap s.parts.length cp, .slice A4 n4 c4]) 2).run Try.prog w = .ok (.slice A4 n4 c4) w := fun _ _ _ _ => by kernel_rfl
        go_upto_region 10 with (go_at_call 73; refine (without_any (o := i) (HS.out.shop.mono HS.out.hB) (Nat.le_refl _) (by omega) hil).mono ?_; rintro e w4 ⟨vh', vp', vo', A4, n4, c4, hv, hn4, rfl, hown, hb⟩; cases hv; have HS := Lib.hid (HS.out.next hb); have HO := Lib.hid ((HO.out.below hb).mono hb.size); have HT := Lib.hid hown.rd; have Hn4 := Lib.hid hn4; clear hb hown hn4 c0 c1 c2)
        clear hfd
        have hwa := withFrom_bd Hg.out Hfo.out (best := 0) (by omega)
        have hwb := withFrom_bd Hg.out Hfw.out (best := 0) (by omega)
        have hot : n4 = (othersOf s i).length := Hn4.out
        refine wp_region_ghost (CoI w4 (.agg #[.slice Ah s.hours.length ch, .slice Ap s.parts.length cp, .slice (some ao) s.orders.length co]) (.slice (some ⟨wx.heap.size, 0, none⟩) 1 1) (.slice A4 n4 c4) (withFrom s 0 [] (othersOf s i)) (withFrom s 0 [od] (othersOf s i))) (by kernel_rfl) (by kernel_rfl) ?_ ?_ ?_
        · exact ⟨(Below.refl _ _).drew, fun h => (by cases h), fun h => (by cases h), fun h => (by cases h), fun h => (by cases h), fun h => (by cases h), fun h => (by cases h), fun h => (by cases h), fun h => (by cases h), fun h => (by cases h), fun h => (by cases h)⟩
        · refine ⟨?_, ?_, ?_, ?_, ?_, ?_, ?_, ?_, ?_, ?_, trivial⟩
          all_goals
            intro L vs X b hL hw hcl hI hf
            have hb := hI.bel
            have HX := Lib.hid (HS.out.next hb)
          · have e2 := hf.old 2 (by kernel_rfl)
            obtain ⟨x0, x1, x2⟩ := HX.out.cells
            refine wp_of_run (v := .agg #[.slice Ah s.hours.length ch, .slice Ap s.parts.length cp, .slice (some ao) s.orders.length co]) (w' := X) (by unfold execOp; go_simp) ?_
            exact ⟨hb, fun _ => rfl, hI.f1, hI.f2, hI.f3, hI.f4, hI.f5, hI.f6, hI.f7, hI.f8, hI.f9⟩
          · have e10 := hf.old 10 (by kernel_rfl)
            refine wp_of_run (v := .slice A4 n4 c4) (w' := X) (by unfold execOp; go_simp) ?_
            exact ⟨hb, hI.f0, fun _ => rfl, hI.f2, hI.f3, hI.f4, hI.f5, hI.f6, hI.f7, hI.f8, hI.f9⟩
          · have h0 : L 0 = true := done_of hw 0 (by kernel_rfl)
            have h1 : L 1 = true := done_of hw 1 (by kernel_rfl)
            have e45 := (hf.new 0 45 rfl h0 (by simp)).trans (hI.f0 h0)
            have e46 := (hf.new 1 46 rfl h1 (by simp)).trans (hI.f1 h1)
            refine wp_of_call (f := 74) (args := #[.agg #[.slice Ah s.hours.length ch, .slice Ap s.parts.length cp, .slice (some ao) s.orders.length co], .slice none 0 0, .slice A4 n4 c4]) (by unfold execOp; go_simp) ?_
            refine (with_any Hg.out HX.out.nm (othersOf s i).length [] (othersOf s i) (Nat.le_refl _) (HX.out.shop.mono HX.out.hB) (Nat.le_refl _) (Rd.nil _ _) ((HT.out.below hb).mono hb.size) Hfo.out).mono ?_
            rintro e wz ⟨rfl, hbz⟩
            exact ⟨_, rfl, hb.trans (hbz.mono hb.size), hI.f0, hI.f1, fun _ => rfl, hI.f3, hI.f4, hI.f5, hI.f6, hI.f7, hI.f8, hI.f9⟩
          · have e2 := hf.old 2 (by kernel_rfl)
            obtain ⟨x0, x1, x2⟩ := HX.out.cells
            refine wp_of_run (v := .agg #[.slice Ah s.hours.length ch, .slice Ap s.parts.length cp, .slice (some ao) s.orders.length co]) (w' := X) (by unfold execOp; go_simp) ?_
            exact ⟨hb, hI.f0, hI.f1, hI.f2, fun _ => rfl, hI.f4, hI.f5, hI.f6, hI.f7, hI.f8, hI.f9⟩
          · have e9 := hf.old 9 (by kernel_rfl)
            refine wp_of_run (v := .slice (some ⟨wx.heap.size, 0, none⟩) 1 1) (w' := X) (by unfold execOp; go_simp) ?_
            exact ⟨hb, hI.f0, hI.f1, hI.f2, hI.f3, fun _ => rfl, hI.f5, hI.f6, hI.f7, hI.f8, hI.f9⟩
          · have e10 := hf.old 10 (by kernel_rfl)
            refine wp_of_run (v := .slice A4 n4 c4) (w' := X) (by unfold execOp; go_simp) ?_
            exact ⟨hb, hI.f0, hI.f1, hI.f2, hI.f3, hI.f4, fun _ => rfl, hI.f6, hI.f7, hI.f8, hI.f9⟩
          · have h3 : L 3 = true := done_of hw 3 (by kernel_rfl)
            have h4 : L 4 = true := done_of hw 4 (by kernel_rfl)
            have h5 : L 5 = true := done_of hw 5 (by kernel_rfl)
            have e48 := (hf.new 3 48 rfl h3 (by simp)).trans (hI.f3 h3)
            have e49 := (hf.new 4 49 rfl h4 (by simp)).trans (hI.f4 h4)
            have e50 := (hf.new 5 50 rfl h5 (by simp)).trans (hI.f5 h5)
            refine wp_of_call (f := 74) (args := #[.agg #[.slice Ah s.hours.length ch, .slice Ap s.parts.length cp, .slice (some ao) s.orders.length co], .slice (some ⟨wx.heap.size, 0, none⟩) 1 1, .slice A4 n4 c4]) (by unfold execOp; go_simp) ?_
            refine (with_any Hg.out HX.out.nm (othersOf s i).length [od] (othersOf s i) (Nat.le_refl _) (HX.out.shop.mono HX.out.hB) (Nat.le_refl _) ((HO.out.below hb).mono hb.size) ((HT.out.below hb).mono hb.size) Hfw.out).mono ?_
            rintro e wz ⟨rfl, hbz⟩
            exact ⟨_, rfl, hb.trans (hbz.mono hb.size), hI.f0, hI.f1, hI.f2, hI.f3, hI.f4, hI.f5, fun _ => rfl, hI.f7, hI.f8, hI.f9⟩
          · have h2 : L 2 = true := done_of hw 2 (by kernel_rfl)
            have h6 : L 6 = true := done_of hw 6 (by kernel_rfl)
            have e47 := (hf.new 2 47 rfl h2 (by simp)).trans (hI.f2 h2)
            have e51 := (hf.new 6 51 rfl h6 (by simp)).trans (hI.f6 h6)
            have hwr : IntKind.i64.wrap (withFrom s 0 [] (othersOf s i) - withFrom s 0 [od] (othersOf s i)) = withFrom s 0 [] (othersOf s i) - withFrom s 0 [od] (othersOf s i) := IntWalk.i64_in _ (by omega)
            refine wp_of_run (v := .int .i64 (withFrom s 0 [] (othersOf s i) - withFrom s 0 [od] (othersOf s i))) (w' := X) (by unfold execOp; go_simp) ?_
            exact ⟨hb, hI.f0, hI.f1, hI.f2, hI.f3, hI.f4, hI.f5, hI.f6, fun _ => rfl, hI.f8, hI.f9⟩
          · have h7 : L 7 = true := done_of hw 7 (by kernel_rfl)
            have e52 := (hf.new 7 52 rfl h7 (by simp)).trans (hI.f7 h7)
            refine wp_of_run (v := .int .i64 (withFrom s 0 [] (othersOf s i) - withFrom s 0 [od] (othersOf s i))) (w' := X) (by unfold execOp; go_simp) ?_
            exact ⟨hb, hI.f0, hI.f1, hI.f2, hI.f3, hI.f4, hI.f5, hI.f6, hI.f7, fun _ => rfl, hI.f9⟩
          · refine wp_of_run (v := .int .i64 0) (w' := X) (by unfold execOp; go_simp) ?_
            exact ⟨hb, hI.f0, hI.f1, hI.f2, hI.f3, hI.f4, hI.f5, hI.f6, hI.f7, hI.f8, fun _ => rfl⟩
        · intro vs X hI
          have k8 := hI.f8 rfl
          have k9 := hI.f9 rfl
          have HX := Lib.hid (HS.out.next hI.bel)
          clear hI
          simp [fill, slotOf, Act.put, k8, k9]
          simp only [Exit.inBlock, Exit.then]
          clear k8 k9
          go_wp2
          go_ret2
          exact ⟨by rw [e.out]; rfl, HX.out.below⟩
  · have e := Lib.hid (costsFV_eq (costsF_bad o he))
    have hne : (errOf s != 0) = true := by simpa using he
    have heq : (errOf s == 0) = false := by simpa using he
    generalize errOf s = E at *
    generalize (check s).1 = k1 at *
    generalize (check s).2.1 = k2 at *
    clear he
    go_wp2_with (go_at_call 17; refine hq.out.mono ?_; rintro e wx ⟨rfl, hbx⟩; have HS := Lib.hid (HS.out.next hbx); clear hbx)
    go_ret2
    exact ⟨by rw [e.out]; rfl, HS.out.below⟩
end Go.Proofs.Ytkmaapkbonkjfaa
namespace Go.Proofs.Ytkmaapkbonkjfaa
open Go.RowKit

theorem bestF_len {s : ShopR} : (bestF s).1.length ≤ 1000000 := by
  by_cases h : errOf s = 0
  · rw [bestF_ok h]
    have hg := good_of_valid h
    have := bestL_len hg
    have := hg.olen
    simp only [List.length_map]
    omega
  · rw [bestF_bad h]; simp

set_option maxRecDepth 100000 in
set_option maxHeartbeats 2000000 in
theorem bests_any {B : Nat} {w : World} {v : Value} {s : ShopR} (hs : RdShop B w v s) (hn : ∀ p ∈ s.parts, p.name.size ≤ 9223372036854775807) (hB : B ≤ w.heap.size) (i : Int) :
    Calls Try.prog 5 #[v, .int .i64 i] w fun e w' => e = .returned (.bool true) ∧ Below w.heap.size w w' := by
  obtain ⟨vh, vp, vo, rfl, ⟨Ah, ch, rfl, _⟩, ⟨Ap, cp, rfl, _⟩, ⟨Ao, co, rfl, _⟩⟩ := id hs
  obtain ⟨W, hW⟩ : ∃ W, W = w.alloc (.cells #[.slice Ah s.hours.length ch, .slice Ap s.parts.length cp, .slice Ao s.orders.length co] 26) := ⟨_, rfl⟩
  have HS := Lib.hid (ShS.start hs hn hB)
  rw [← hW] at HS
  clear hs hn hB
  have hbl := bestF_len (s := s)
  have HpB := Lib.hid (fun (W : World) (B : Nat) (hs : RdShop B W (.agg #[.slice Ah s.hours.length ch, .slice Ap s.parts.length cp, .slice Ao s.orders.length co]) s) (hn : ∀ p ∈ s.parts, p.name.size ≤ 9223372036854775807) (hB : B ≤ W.heap.size) => pbest_any hs hn hB)
  have HrB := Lib.hid (fun (W : World) (B : Nat) (hs : RdShop B W (.agg #[.slice Ah s.hours.length ch, .slice Ap s.parts.length cp, .slice Ao s.orders.length co]) s) (hn : ∀ p ∈ s.parts, p.name.size ≤ 9223372036854775807) (hB : B ≤ W.heap.size) => rbest_any hs hn hB)
  have HpC := Lib.hid (fun (W : World) (B : Nat) (hs : RdShop B W (.agg #[.slice Ah s.hours.length ch, .slice Ap s.parts.length cp, .slice Ao s.orders.length co]) s) (hn : ∀ p ∈ s.parts, p.name.size ≤ 9223372036854775807) (hB : B ≤ W.heap.size) => pcosts_any hs hn hB i)
  have HrC := Lib.hid (fun (W : World) (B : Nat) (hs : RdShop B W (.agg #[.slice Ah s.hours.length ch, .slice Ap s.parts.length cp, .slice Ao s.orders.length co]) s) (hn : ∀ p ∈ s.parts, p.name.size ≤ 9223372036854775807) (hB : B ≤ W.heap.size) => rcosts_any hs hn hB i)
  unfold BestR at HpB HrB
  unfold costsFV at HpC HrC
  generalize bestF s = bf at *
  generalize costsF s i = cf at *
  obtain ⟨bl, bm, be⟩ := bf
  obtain ⟨cm, ce⟩ := cf
  simp only at hbl HpB HrB HpC HrC
  go_enter Try.func5, Try.ntmps5
  go_upto_region 1 with (fail)
  rw [← hW]
  clear hW
  obtain ⟨c0, c1, c2⟩ := HS.out.cells
  go_upto_region 2 with (go_at_call 31; refine (HpB.out _ _ HS.out.shop HS.out.nm HS.out.hB).mono ?_; rintro e w1 ⟨A1, n1, rfl, hr, hb⟩; have HS := Lib.hid (HS.out.next hb); obtain ⟨c0, c1, c2⟩ := HS.out.cells; have HN := Lib.hid hr; clear hb hr)
  go_upto_region 3 with (go_at_call 32; refine (HrB.out _ _ HS.out.shop HS.out.nm HS.out.hB).mono ?_; rintro e w2 ⟨A2, n2, rfl, hr, hb⟩; have HS := Lib.hid (HS.out.next hb); obtain ⟨c0, c1, c2⟩ := HS.out.cells; have HN := Lib.hid (HN.out.below hb); have HM := Lib.hid hr; clear hb hr)
  go_upto_region 5 with (go_at_call 22; refine (ints_any HN.out HM.out hbl).mono ?_; rw [beq_self_eq_true]; rintro e w3 ⟨rfl, hq⟩; have HS := Lib.hid (HS.out.next (hq.below _)); obtain ⟨c0, c1, c2⟩ := HS.out.cells; clear hq)
  go_upto_region 6 with (go_at_call 33; refine (HpC.out _ _ HS.out.shop HS.out.nm HS.out.hB).mono ?_; rintro e w4 ⟨rfl, hb⟩; have HS := Lib.hid (HS.out.next hb); obtain ⟨c0, c1, c2⟩ := HS.out.cells; clear hb)
  go_wp2_with (first | (go_at_call 34; refine (HrC.out _ _ HS.out.shop HS.out.nm HS.out.hB).mono ?_; rintro e w5 ⟨rfl, hb⟩; have HS := Lib.hid (HS.out.next hb); clear hb c0 c1 c2) | (go_at_call 23; refine (awake_any _).mono ?_; rintro e w9 ⟨rfl, hb⟩; have HS := Lib.hid (HS.out.next hb); clear hb))
  go_ret
  exact ⟨rfl, HS.out.below⟩
end Go.Proofs.Ytkmaapkbonkjfaa
