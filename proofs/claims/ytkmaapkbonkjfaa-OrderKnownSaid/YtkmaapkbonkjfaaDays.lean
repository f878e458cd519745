/- The days of a shop that is looked at: the iterator. -/
import Derived.Test.YtkmaapkbonkjfaaShop
namespace Go.Proofs.Ytkmaapkbonkjfaa
open Go.RowKit Go.Shelf
attribute [local go_sem] Oper.semAt_some

/-- pieces of a part that are due on a day -/
def due0 (l : List OrdR) (part day : Int) : Int := ((l.filter fun o => o.part == part && o.due == day).map (·.many)).sum
theorem due0_snoc {l : List OrdR} {k : Nat} (h : k < l.length) (part day : Int) (d : OrdR) :
    due0 (l.take (k + 1)) part day = due0 (l.take k) part day + if (l.getD k d).part = part ∧ (l.getD k d).due = day then (l.getD k d).many else 0 := by
  rw [take_succ_getD h d]
  unfold due0
  rw [List.filter_append, List.map_append, List.sum_append]
  congr 1
  generalize l.getD k d = o
  by_cases h1 : o.part = part <;> by_cases h2 : o.due = day <;> simp [h1, h2]
theorem due0_split (l : List OrdR) (part day : Int) : due l part day = due l part (day - 1) + due0 l part day := by
  induction l with
  | nil => simp [due, due0]
  | cons o l ih =>
    rw [due_cons, due_cons, ih]
    have : due0 (o :: l) part day = (if o.part = part ∧ o.due = day then o.many else 0) + due0 l part day := by
      unfold due0
      by_cases h1 : o.part = part <;> by_cases h2 : o.due = day <;> simp [h1, h2]
    rw [this]
    by_cases h1 : o.part = part
    · by_cases h2 : o.due ≤ day - 1
      · rw [if_pos ⟨h1, by omega⟩, if_pos ⟨h1, h2⟩, if_neg (by omega)]; omega
      · by_cases h3 : o.due = day
        · rw [if_pos ⟨h1, by omega⟩, if_neg (by omega), if_pos ⟨h1, h3⟩]; omega
        · rw [if_neg (by omega), if_neg (by omega), if_neg (by omega)]; omega
    · rw [if_neg (by simp [h1]), if_neg (by simp [h1]), if_neg (by simp [h1])]; omega
theorem due0_bd {l : List OrdR} (h : ∀ o ∈ l, 1 ≤ o.many ∧ o.many ≤ 50) (part day : Int) : 0 ≤ due0 l part day ∧ due0 l part day ≤ 50 * l.length := by
  induction l with
  | nil => simp [due0]
  | cons o l ih =>
    have h1 := h o (by simp)
    have h2 := ih fun x hx => h x (by simp [hx])
    have : due0 (o :: l) part day = (if o.part = part ∧ o.due = day then o.many else 0) + due0 l part day := by
      unfold due0
      by_cases h1 : o.part = part <;> by_cases h2 : o.due = day <;> simp [h1, h2]
    rw [this]
    simp only [List.length_cons]
    split <;> omega
theorem due_neg {l : List OrdR} (h : ∀ o ∈ l, 0 ≤ o.due) (part : Int) : due l part (-1) = 0 := by
  induction l with
  | nil => rfl
  | cons o l ih =>
    have h1 := h o (by simp)
    rw [due_cons, ih fun x hx => h x (by simp [hx]), if_neg (by omega)]
    rfl

/-- what the iterator does between two rounds: castings that are known, and its own array of pieces -/
structure DayS (s : ShopR) (bm H : Nat) (w w' : World) : Prop where
  os : w'.os = w.os
  tape : w'.tape = w.tape
  output : w'.output = w.output
  size : w.heap.size ≤ w'.heap.size
  block : ∀ k, k < w.heap.size → k ≠ bm → (k < H ∨ ∀ cs f, w.heap[k]? ≠ some (.cells cs 93 f)) → w'.heap[k]? = w.heap[k]?
  m0 : MapAt (castP s) w bm
  m1 : MapAt (castP s) w' bm
theorem DayS.of_keep {s : ShopR} {bm H : Nat} {w w' : World} (h : KeepM bm w w') (m0 : MapAt (castP s) w bm) (m1 : MapAt (castP s) w' bm) : DayS s bm H w w' :=
  ⟨h.os, h.tape, h.output, h.size, fun k hk hn _ => h.block k hk hn, m0, m1⟩
theorem DayS.of_below {s : ShopR} {bm H : Nat} {w w' : World} (h : Below w.heap.size w w') (m0 : MapAt (castP s) w bm) : DayS s bm H w w' := .of_keep (.of_below h) m0 (m0.below h)
theorem DayS.trans {s : ShopR} {bm H : Nat} {a b c : World} (h : DayS s bm H a b) (k : DayS s bm H b c) : DayS s bm H a c :=
  ⟨k.os.trans h.os, k.tape.trans h.tape, k.output.trans h.output, Nat.le_trans h.size k.size, fun i hi hn hc => by
    have e := h.block i hi hn hc
    refine (k.block i (Nat.lt_of_lt_of_le hi h.size) hn ?_).trans e
    rcases hc with hc | hc
    · exact .inl hc
    · exact .inr fun cs f => by rw [e]; exact hc cs f, h.m0, k.m1⟩
theorem MapAt.setCell {c : (Nat → Int) → Nat → Int} {w : World} {b : Nat} (h : MapAt c w b) (p : Addr) (v : Value) : MapAt c (w.setCell p v) b := by
  obtain ⟨es, clk, hh, he⟩ := h
  refine ⟨es, clk, ?_, he⟩
  by_cases e : b = p.block
  · subst e
    simp [World.setCell, Array.getElem?_modify, hh]
  · exact (Below.heap_setCell w p v b e).trans hh
theorem DayS.set_ {s : ShopR} {bm H g : Nat} {w : World} {f : Nat → Int} (h : ArrAt w g f) (hg : H ≤ g) (m0 : MapAt (castP s) w bm) (i : Nat) (v : Value) : DayS s bm H w (w.setCell ⟨g, i, none⟩ v) :=
  ⟨rfl, rfl, rfl, by simp [World.setCell], fun k hk hn hc => Below.heap_setCell _ _ _ _ (fun e => by
    have e : k = g := e
    subst e
    rcases hc with hc | hc
    · omega
    · exact hc _ _ h), m0, m0.setCell _ _⟩
/-- what it asks of a round -/
def DayK (H : Nat) (w w' : World) : Prop := ∀ (b : Nat) (cs : Array Value) (f : Nat × Nat), H ≤ b → w.heap[b]? = some (.cells cs 93 f) → w'.heap[b]? = some (.cells cs 93 f)
/-- what it needs -/
structure DayN (s : ShopR) (l : List OrdR) (B sb lb p bm : Nat) (vl : Value) (w : World) : Prop where
  cs : w.cell? ⟨sb, 0, none⟩ = some (.pointer (some ⟨p, 0, none⟩))
  cl : w.cell? ⟨lb, 0, none⟩ = some vl
  shop : ShopAt B w p bm s
  ords : Rd OrdAt 4 B w vl l
  hB : B ≤ w.heap.size
def dayEl (s : ShopR) (l : List OrdR) (k : Nat) : Array Value := #[.int .i64 k, encP (castP s fun i => due l i k)]

theorem days_iter {s : ShopR} {l : List OrdR} (hg : Good s) (hf : Fit s l) (B sb lb p bm : Nat) (vl : Value) :
    Iter Try.prog 82 #[.pointer (some ⟨sb, 0, none⟩), .pointer (some ⟨lb, 0, none⟩)] s.hours.length (dayEl s l) DayK (DayS s bm) (DayN s l B sb lb p bm vl) := by
  intro L Y Z W hS hN hR h0
  refine callsIn_wide.2 ?_
  have hn0 := hN _ _ h0
  obtain ⟨W1, hW1, r1, z1, b1⟩ := box_any W #[.int .i64 0, .int .i64 0, .int .i64 0] 93
  show Calls Try.prog 82 #[.func (.yield L) #[] #[], .pointer (some ⟨sb, 0, none⟩), .pointer (some ⟨lb, 0, none⟩)] W _
  obtain ⟨A, cap, hvl, _, _, _⟩ := id hn0.ords
  subst hvl
  go_enter Try.func82, Try.ntmps82
  go_upto_region 1 with (fail)
  rw [← hW1]
  have hY1 : Y 0 W1 := hS _ _ _ h0 (.of_below b1 hn0.shop.map)
  have hA1 : ArrAt W1 W.heap.size (fun i => due l i (((0 : Nat) : Int) - 1)) := ArrAt.congr (f := fun _ => 0) r1 fun i _ => (due_neg (fun o ho => (hf.all o ho).due.1) i).symm
  have HY := Lib.hid hY1
  have HA := Lib.hid hA1
  have HS := Lib.hid hS
  have HN := Lib.hid hN
  have HR := Lib.hid hR
  have hn1 := hN _ _ hY1
  obtain ⟨⟨vh, vp, vo, vu, hp, hh, _⟩, _⟩ := id hn1.shop
  obtain ⟨Ah, ch, rfl, _, _, _⟩ := id hh
  have cs := hn1.cs
  have ch0 := cellOf hp 0 (v := .slice Ah s.hours.length ch) rfl
  have hhl := hg.hlen
  have hll := hf.len
  clear hW1 r1 b1 z1 h0 hS hN hR hn0 hY1 hA1 hn1 hp hh
  go_wp2
  clear cs ch0
  go_loopw [14] (fun i wr => ∃ k : Nat, k ≤ s.hours.length ∧ i = .int .i64 k ∧ Y k wr ∧ ArrAt wr W.heap.size (fun i => due l i ((k : Int) - 1))) (fun i _ => s.hours.length - (intOf i).toNat)
  case atStart => exact ⟨0, Nat.zero_le _, rfl, HY.out, HA.out⟩
  case round =>
    clear HY HA
    obtain ⟨k, hk, rfl, hY, hA⟩ := hrel
    by_cases hlt : k < s.hours.length
    · have hn := HN.out _ _ hY
      have cs := hn.cs
      have cl := hn.cl
      have HY := Lib.hid hY
      have HA := Lib.hid hA
      clear hY hA hn
      go_wp2
      go_loopw [19] (fun i wi => ∃ j : Nat, j ≤ l.length ∧ i = .int .i64 j ∧ Y k wi ∧ ArrAt wi W.heap.size (fun i => due l i ((k : Int) - 1) + due0 (l.take j) i k)) (fun i _ => l.length - (intOf i).toNat)
      case atStart => exact ⟨0, Nat.zero_le _, rfl, HY.out, HA.out.congr fun i _ => by simp [due0]⟩
      case round =>
        clear HY HA cs cl
        obtain ⟨j, hj, rfl, hY, hA⟩ := hrel
        have hn := HN.out _ _ hY
        by_cases hlt2 : j < l.length
        · obtain ⟨ad, e, _, o0, o1, o2, o3⟩ := hn.ords.ord hlt2
          subst e
          have Hsn := Lib.hid (fun i => due0_snoc hlt2 i (k : Int) default)
          have hok := hf.all _ (getD_mem hlt2 default)
          rw [List.getD_eq_getElem?_getD] at Hsn hok
          obtain ⟨pi, hpi⟩ := Int.eq_ofNat_of_zero_le hok.part.1
          have hpi3 : pi < 3 := by have := hok.part.2; have := hg.plen; omega
          have hmany := hok.many
          have hdue := hok.due
          have Hm := Lib.hid hn.shop.map
          have hglt := lt_of_block hA
          have hadl := cell_lt o0
          have e1 := hA.cell hpi3
          have e2 := hA.frozen pi
          have b1 := hf.due_bd (pi : Int) ((k : Int) - 1)
          have b2 := due0_bd (l := l.take j) (fun o ho => hf.many o (List.mem_of_mem_take ho)) (pi : Int) k
          rw [List.length_take] at b2
          have HY := Lib.hid hY
          have HA := Lib.hid hA
          clear hok hn hA hY
          generalize l[j]?.getD default = o at *
          rw [hpi] at o0
          have Hpi := Lib.hid hpi
          clear hpi
          by_cases hd : o.due = k
          · have hdb : (o.due == (k : Int)) = true := by simp [hd]
            have HD := Lib.hid hd
            clear hd
            go_wp2
            go_region
            go_wp2
            go_roundw
            case rel =>
              refine ⟨j + 1, by omega, by go_num, ?_, ?_⟩
              · refine HS.out _ _ _ HY.out ?_
                have s1 := DayS.set_ (s := s) (bm := bm) (H := W.heap.size) HA.out (Nat.le_refl _) Hm.out pi (.int .i64 (due l pi ((k : Int) - 1) + due0 (List.take j l) pi k + o.many))
                exact s1.trans (.of_below ((Below.refl _ _).alloc (Nat.le_refl _) _).drew s1.m1)
              · refine ArrAt.below ((HA.out.set_ hpi3 (due l pi ((k : Int) - 1) + due0 (List.take j l) pi k + o.many)).congr fun i hi => ?_) ((Below.refl _ _).alloc (Nat.le_refl _) _).drew
                rw [Hsn.out]
                by_cases hi2 : i = pi
                · subst hi2
                  rw [if_pos rfl, if_pos ⟨Hpi.out, HD.out⟩]
                  omega
                · rw [if_neg hi2, if_neg (by rw [Hpi.out]; intro h; exact hi2 (by omega))]
                  omega
            case measure => simp [intOf]; omega
          · have hdb : (o.due == (k : Int)) = false := by simp [hd]
            have HD := Lib.hid hd
            clear hd
            go_wp2
            go_roundw
            case rel =>
              refine ⟨j + 1, by omega, by go_num, ?_, ?_⟩
              · exact HS.out _ _ _ HY.out (.of_below ((Below.refl _ _).alloc (Nat.le_refl _) _) Hm.out)
              · refine ArrAt.below (HA.out.congr fun i hi => ?_) ((Below.refl _ _).alloc (Nat.le_refl _) _)
                rw [Hsn.out, if_neg (by intro h; exact HD.out h.2)]
                omega
            case measure => simp [intOf]; omega
        · have hj2 : j = l.length := by omega
          have hA2 : ArrAt wr W.heap.size (fun i => due l i k) := hA.congr fun i _ => by
            rw [hj2, List.take_of_length_le (Nat.le_refl _), ← due0_split]
          obtain ⟨f, hfe⟩ : ∃ f : Nat → Int, f = fun (i : Nat) => due l (i : Int) k := ⟨_, rfl⟩
          rw [← hfe] at hA2
          have Hel := Lib.hid (show dayEl s l k = #[.int .i64 k, encP (castP s f)] by rw [hfe]; rfl)
          have Hfe := Lib.hid hfe
          have hfb : ∀ i, i < 3 → 0 ≤ f i ∧ f i ≤ 450 := fun i _ => by rw [Hfe.out]; exact hf.due_bd _ _
          have Hfb := Lib.hid hfb
          clear hfe hfb hj2 hA
          have cs := hn.cs
          have a0 := hA2.cell (i := 0) (by omega)
          have a1 := hA2.cell (i := 1) (by omega)
          have a2 := hA2.cell (i := 2) (by omega)
          have Hn := Lib.hid hn
          have HY := Lib.hid hY
          have HA := Lib.hid hA2
          clear hA2 hY hn
          go_upto_region 10 with (fail)
          refine (wpIn_wide (n := 0)).1 ?_
          gi_wp2_with (refine ⟨trivial, rfl, ?_⟩; gi_at_call 83; refine (callsIn_wide.2 (castings_any Hn.out.shop hg f Hfb.out Hn.out.hB)).mono ?_; rintro e wx ⟨rfl, hkm, hmm⟩; obtain ⟨fn, tmps, assign, body, hy, hRR⟩ := HR.out k wx hlt (HS.out _ _ _ HY.out (.of_keep hkm Hn.out.shop.map hmm)); rw [Hel.out] at hy)
          refine ⟨rfl, hRR.mono ?_⟩
          rintro e W' (⟨rfl, hY', hK⟩ | ⟨rfl, hZ⟩)
          · gi_wp2
            go_wp2
            go_roundw
            case rel =>
              refine ⟨k + 1, by omega, by go_num, hY', ?_⟩
              have hx : ArrAt wx W.heap.size f := by
                show wx.heap[W.heap.size]? = _
                obtain ⟨es, clk, hes, _⟩ := Hn.out.shop.map; exact hkm.stay hes HA.out
              refine ArrAt.congr (f := f) (hK _ _ _ (Nat.le_refl _) hx) fun i _ => ?_
              rw [Hfe.out]
              show due l i k = due l i (((k + 1 : Nat) : Int) - 1)
              congr 1
              omega
            case measure => simp [intOf]; omega
          · gi_wp2
            go_wp2
            refine bodyPost_ret (results_none rfl _ _ _) rfl ?_
            exact ⟨⟨_, rfl⟩, .inr hZ⟩
    · have hk2 : k = s.hours.length := by omega
      subst hk2
      clear hA
      go_wp2
      go_end0
      exact ⟨⟨_, rfl⟩, .inl hY⟩
end Go.Proofs.Ytkmaapkbonkjfaa
