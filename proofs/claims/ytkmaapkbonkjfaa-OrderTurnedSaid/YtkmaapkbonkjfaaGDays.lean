/- The days of a shop that is looked at: the iterator. Walks of the layer order: worked, days, late and can of a shop that is looked at. -/
import Derived.Test.YtkmaapkbonkjfaaGShop
import Derived.Test.YtkmaapkbonkjfaaGIter
import Derived.Laws.EntriesVeiled
set_option linter.unusedSimpArgs false
set_option linter.unusedVariables false
namespace Go.Proofs.Ytkmaapkbonkjfaa
open Go.RowKit Go.Shelf
attribute [local go_sem] Oper.semAt_some

/-- pieces of a part that are due on a day -/
def due0 (l : List OrdR) (part day : Int) : Int := ((l.filter fun o => o.part == part && o.due == day).map (·.many)).sum
theorem due0_snoc {l : List OrdR} {k : Nat} (h : k < l.length) (part day : Int) (d : OrdR) :
    due0 (l.take (k + 1)) part day = due0 (l.take k) part day + if (l.getD k d).part = part ∧ (l.getD k d).due = day then (l.getD k d).many else 0 := by
  rw [take_succ_getD h d]
  unfold due0
  rw [List.filter_append, List.map_append, List.sum_append]
  congr 1
  generalize l.getD k d = o
  by_cases h1 : o.part = part <;> by_cases h2 : o.due = day <;> simp [h1, h2]
theorem due0_split (l : List OrdR) (part day : Int) : due l part day = due l part (day - 1) + due0 l part day := by
  induction l with
  | nil => simp [due, due0]
  | cons o l ih =>
    rw [due_cons, due_cons, ih]
    have : due0 (o :: l) part day = (if o.part = part ∧ o.due = day then o.many else 0) + due0 l part day := by
      unfold due0
      by_cases h1 : o.part = part <;> by_cases h2 : o.due = day <;> simp [h1, h2]
    rw [this]
    by_cases h1 : o.part = part
    · by_cases h2 : o.due ≤ day - 1
      · rw [if_pos ⟨h1, by omega⟩, if_pos ⟨h1, h2⟩, if_neg (by omega)]; omega
      · by_cases h3 : o.due = day
        · rw [if_pos ⟨h1, by omega⟩, if_neg (by omega), if_pos ⟨h1, h3⟩]; omega
        · rw [if_neg (by omega), if_neg (by omega), if_neg (by omega)]; omega
    · rw [if_neg (by simp [h1]), if_neg (by simp [h1]), if_neg (by simp [h1])]; omega
theorem due0_bd {l : List OrdR} (h : ∀ o ∈ l, 1 ≤ o.many ∧ o.many ≤ 50) (part day : Int) : 0 ≤ due0 l part day ∧ due0 l part day ≤ 50 * l.length := by
  induction l with
  | nil => simp [due0]
  | cons o l ih =>
    have h1 := h o (by simp)
    have h2 := ih fun x hx => h x (by simp [hx])
    have : due0 (o :: l) part day = (if o.part = part ∧ o.due = day then o.many else 0) + due0 l part day := by
      unfold due0
      by_cases h1 : o.part = part <;> by_cases h2 : o.due = day <;> simp [h1, h2]
    rw [this]
    simp only [List.length_cons]
    split <;> omega
theorem due_neg {l : List OrdR} (h : ∀ o ∈ l, 0 ≤ o.due) (part : Int) : due l part (-1) = 0 := by
  induction l with
  | nil => rfl
  | cons o l ih =>
    have h1 := h o (by simp)
    rw [due_cons, ih fun x hx => h x (by simp [hx]), if_neg (by omega)]
    rfl

/-- what the iterator does between two rounds: castings that are known, and its own array of pieces -/
structure DayS (s : ShopR) (bm H : Nat) (w w' : World) : Prop where
  os : w'.os = w.os
  tape : w'.tape = w.tape
  output : w'.output = w.output
  size : w.heap.size ≤ w'.heap.size
  block : ∀ k, k < w.heap.size → k ≠ bm → (k < H ∨ ∀ cs f, w.heap[k]? ≠ some (.cells cs 93 f)) → w'.heap[k]? = w.heap[k]?
  m0 : MapAt (castP s) w bm
  m1 : MapAt (castP s) w' bm
theorem DayS.of_keep {s : ShopR} {bm H : Nat} {w w' : World} (h : KeepM bm w w') (m0 : MapAt (castP s) w bm) (m1 : MapAt (castP s) w' bm) : DayS s bm H w w' :=
  ⟨h.os, h.tape, h.output, h.size, fun k hk hn _ => h.block k hk hn, m0, m1⟩
theorem DayS.of_below {s : ShopR} {bm H : Nat} {w w' : World} (h : Below w.heap.size w w') (m0 : MapAt (castP s) w bm) : DayS s bm H w w' := .of_keep (.of_below h) m0 (m0.below h)
theorem DayS.trans {s : ShopR} {bm H : Nat} {a b c : World} (h : DayS s bm H a b) (k : DayS s bm H b c) : DayS s bm H a c :=
  ⟨k.os.trans h.os, k.tape.trans h.tape, k.output.trans h.output, Nat.le_trans h.size k.size, fun i hi hn hc => by
    have e := h.block i hi hn hc
    refine (k.block i (Nat.lt_of_lt_of_le hi h.size) hn ?_).trans e
    rcases hc with hc | hc
    · exact .inl hc
    · exact .inr fun cs f => by rw [e]; exact hc cs f, h.m0, k.m1⟩
theorem MapAt.setCell {c : (Nat → Int) → Nat → Int} {w : World} {b : Nat} (h : MapAt c w b) (p : Addr) (v : Value) : MapAt c (w.setCell p v) b := by
  obtain ⟨es, clk, hh, he⟩ := h
  refine ⟨es, clk, ?_, he⟩
  by_cases e : b = p.block
  · subst e
    simp [World.setCell, Array.getElem?_modify, hh]
  · exact (Below.heap_setCell w p v b e).trans hh
theorem DayS.set_ {s : ShopR} {bm H g : Nat} {w : World} {f : Nat → Int} (h : ArrAt w g f) (hg : H ≤ g) (m0 : MapAt (castP s) w bm) (i : Nat) (v : Value) : DayS s bm H w (w.setCell ⟨g, i, none⟩ v) :=
  ⟨rfl, rfl, rfl, by simp [World.setCell], fun k hk hn hc => Below.heap_setCell _ _ _ _ (fun e => by
    have e : k = g := e
    subst e
    rcases hc with hc | hc
    · omega
    · exact hc _ _ h), m0, m0.setCell _ _⟩
/-- what it asks of a round -/
def DayK (H : Nat) (w w' : World) : Prop := ∀ (b : Nat) (cs : Array Value) (f : Nat × Nat), H ≤ b → w.heap[b]? = some (.cells cs 93 f) → w'.heap[b]? = some (.cells cs 93 f)
/-- what it needs -/
structure DayN (s : ShopR) (l : List OrdR) (B sb lb p bm : Nat) (vl : Value) (w : World) : Prop where
  cs : w.cell? ⟨sb, 0, none⟩ = some (.pointer (some ⟨p, 0, none⟩))
  cl : w.cell? ⟨lb, 0, none⟩ = some vl
  shop : ShopAt B w p bm s
  ords : Rd OrdAt 4 B w vl l
  hB : B ≤ w.heap.size
def dayEl (s : ShopR) (l : List OrdR) (k : Nat) : Array Value := #[.int .i64 k, encP (castP s fun i => due l i k)]

theorem days_iter {s : ShopR} {l : List OrdR} (hg : Good s) (hf : Fit s l) (B sb lb p bm : Nat) (vl : Value) :
    Iter Try.prog 82 #[.pointer (some ⟨sb, 0, none⟩), .pointer (some ⟨lb, 0, none⟩)] s.hours.length (dayEl s l) DayK (DayS s bm) (DayN s l B sb lb p bm vl) := by
  intro L Y Z W hS hN hR h0
  refine callsIn_wide.2 ?_
  have hn0 := hN _ _ h0
  obtain ⟨W1, hW1, r1, z1, b1⟩ := box_any W #[.int .i64 0, .int .i64 0, .int .i64 0] 93
  show Calls Try.prog 82 #[.func (.yield L) #[] #[], .pointer (some ⟨sb, 0, none⟩), .pointer (some ⟨lb, 0, none⟩)] W _
  obtain ⟨A, cap, hvl, _, _, _⟩ := id hn0.ords
  subst hvl
  go_enter Try.func82, Try.ntmps82
  go_upto_region 1 with (fail)
  rw [← hW1]
  have hY1 : Y 0 W1 := hS _ _ _ h0 (.of_below b1 hn0.shop.map)
  have hA1 : ArrAt W1 W.heap.size (fun i => due l i (((0 : Nat) : Int) - 1)) := ArrAt.congr (f := fun _ => 0) r1 fun i _ => (due_neg (fun o ho => (hf.all o ho).due.1) i).symm
  have HY := Lib.hid hY1
  have HA := Lib.hid hA1
  have HS := Lib.hid hS
  have HN := Lib.hid hN
  have HR := Lib.hid hR
  have hn1 := hN _ _ hY1
  obtain ⟨⟨vh, vp, vo, vu, hp, hh, _⟩, _⟩ := id hn1.shop
  obtain ⟨Ah, ch, rfl, _, _, _⟩ := id hh
  have cs := hn1.cs
  have ch0 := cellOf hp 0 (v := .slice Ah s.hours.length ch) rfl
  have hhl := hg.hlen
  have hll := hf.len
  clear hW1 r1 b1 z1 h0 hS hN hR hn0 hY1 hA1 hn1 hp hh
  go_wp2
  clear cs ch0
  go_loopw [14] (fun i wr => ∃ k : Nat, k ≤ s.hours.length ∧ i = .int .i64 k ∧ Y k wr ∧ ArrAt wr W.heap.size (fun i => due l i ((k : Int) - 1))) (fun i _ => s.hours.length - (intOf i).toNat)
  case atStart => exact ⟨0, Nat.zero_le _, rfl, HY.out, HA.out⟩
  case round =>
    clear HY HA
    obtain ⟨k, hk, rfl, hY, hA⟩ := hrel
    by_cases hlt : k < s.hours.length
    · have hn := HN.out _ _ hY
      have cs := hn.cs
      have cl := hn.cl
      have HY := Lib.hid hY
      have HA := Lib.hid hA
      clear hY hA hn
      go_wp2
      go_loopw [19] (fun i wi => ∃ j : Nat, j ≤ l.length ∧ i = .int .i64 j ∧ Y k wi ∧ ArrAt wi W.heap.size (fun i => due l i ((k : Int) - 1) + due0 (l.take j) i k)) (fun i _ => l.length - (intOf i).toNat)
      case atStart => exact ⟨0, Nat.zero_le _, rfl, HY.out, HA.out.congr fun i _ => by simp [due0]⟩
      case round =>
        clear HY HA cs cl
        obtain ⟨j, hj, rfl, hY, hA⟩ := hrel
        have hn := HN.out _ _ hY
        by_cases hlt2 : j < l.length
        · obtain ⟨ad, e, _, o0, o1, o2, o3⟩ := hn.ords.ord hlt2
          subst e
          have Hsn := Lib.hid (fun i => due0_snoc hlt2 i (k : Int) default)
          have hok := hf.all _ (getD_mem hlt2 default)
          rw [List.getD_eq_getElem?_getD] at Hsn hok
          obtain ⟨pi, hpi⟩ := Int.eq_ofNat_of_zero_le hok.part.1
          have hpi3 : pi < 3 := by have := hok.part.2; have := hg.plen; omega
          have hmany := hok.many
          have hdue := hok.due
          have Hm := Lib.hid hn.shop.map
          have hglt := lt_of_block hA
          have hadl := cell_lt o0
          have e1 := hA.cell hpi3
          have e2 := hA.frozen pi
          have b1 := hf.due_bd (pi : Int) ((k : Int) - 1)
          have b2 := due0_bd (l := l.take j) (fun o ho => hf.many o (List.mem_of_mem_take ho)) (pi : Int) k
          rw [List.length_take] at b2
          have HY := Lib.hid hY
          have HA := Lib.hid hA
          clear hok hn hA hY
          generalize l[j]?.getD default = o at *
          rw [hpi] at o0
          have Hpi := Lib.hid hpi
          clear hpi
          by_cases hd : o.due = k
          · have hdb : (o.due == (k : Int)) = true := by simp [hd]
            have HD := Lib.hid hd
            clear hd
            go_wp2
            go_region
            go_wp2
            go_roundw
            case rel =>
              refine ⟨j + 1, by omega, by go_num, ?_, ?_⟩
              · refine HS.out _ _ _ HY.out ?_
                have s1 := DayS.set_ (s := s) (bm := bm) (H := W.heap.size) HA.out (Nat.le_refl _) Hm.out pi (.int .i64 (due l pi ((k : Int) - 1) + due0 (List.take j l) pi k + o.many))
                exact s1.trans (.of_below ((Below.refl _ _).alloc (Nat.le_refl _) _).drew s1.m1)
              · refine ArrAt.below ((HA.out.set_ hpi3 (due l pi ((k : Int) - 1) + due0 (List.take j l) pi k + o.many)).congr fun i hi => ?_) ((Below.refl _ _).alloc (Nat.le_refl _) _).drew
                rw [Hsn.out]
                by_cases hi2 : i = pi
                · subst hi2
                  rw [if_pos rfl, if_pos ⟨Hpi.out, HD.out⟩]
                  omega
                · rw [if_neg hi2, if_neg (by rw [Hpi.out]; intro h; exact hi2 (by omega))]
                  omega
            case measure => simp [intOf]; omega
          · have hdb : (o.due == (k : Int)) = false := by simp [hd]
            have HD := Lib.hid hd
            clear hd
            go_wp2
            go_roundw
            case rel =>
              refine ⟨j + 1, by omega, by go_num, ?_, ?_⟩
              · exact HS.out _ _ _ HY.out (.of_below ((Below.refl _ _).alloc (Nat.le_refl _) _) Hm.out)
              · refine ArrAt.below (HA.out.congr fun i hi => ?_) ((Below.refl _ _).alloc (Nat.le_refl _) _)
                rw [Hsn.out, if_neg (by intro h; exact HD.out h.2)]
                omega
            case measure => simp [intOf]; omega
        · have hj2 : j = l.length := by omega
          have hA2 : ArrAt wr W.heap.size (fun i => due l i k) := hA.congr fun i _ => by
            rw [hj2, List.take_of_length_le (Nat.le_refl _), ← due0_split]
          obtain ⟨f, hfe⟩ : ∃ f : Nat → Int, f = fun (i : Nat) => due l (i : Int) k := ⟨_, rfl⟩
          rw [← hfe] at hA2
          have Hel := Lib.hid (show dayEl s l k = #[.int .i64 k, encP (castP s f)] by rw [hfe]; rfl)
          have Hfe := Lib.hid hfe
          have hfb : ∀ i, i < 3 → 0 ≤ f i ∧ f i ≤ 450 := fun i _ => by rw [Hfe.out]; exact hf.due_bd _ _
          have Hfb := Lib.hid hfb
          clear hfe hfb hj2 hA
          have cs := hn.cs
          have a0 := hA2.cell (i := 0) (by omega)
          have a1 := hA2.cell (i := 1) (by omega)
          have a2 := hA2.cell (i := 2) (by omega)
          have Hn := Lib.hid hn
          have HY := Lib.hid hY
          have HA := Lib.hid hA2
          clear hA2 hY hn
          go_upto_region 10 with (fail)
          refine (wpIn_wide (n := 0)).1 ?_
          gi_wp2_with (refine ⟨trivial, rfl, ?_⟩; gi_at_call 83; refine (callsIn_wide.2 (castings_any Hn.out.shop hg f Hfb.out Hn.out.hB)).mono ?_; rintro e wx ⟨rfl, hkm, hmm⟩; obtain ⟨fn, tmps, assign, body, hy, hRR⟩ := HR.out k wx hlt (HS.out _ _ _ HY.out (.of_keep hkm Hn.out.shop.map hmm)); rw [Hel.out] at hy)
          refine ⟨rfl, hRR.mono ?_⟩
          rintro e W' (⟨rfl, hY', hK⟩ | ⟨rfl, hZ⟩)
          · gi_wp2
            go_wp2
            go_roundw
            case rel =>
              refine ⟨k + 1, by omega, by go_num, hY', ?_⟩
              have hx : ArrAt wx W.heap.size f := by
                show wx.heap[W.heap.size]? = _
                obtain ⟨es, clk, hes, _⟩ := Hn.out.shop.map; exact hkm.stay hes HA.out
              refine ArrAt.congr (f := f) (hK _ _ _ (Nat.le_refl _) hx) fun i _ => ?_
              rw [Hfe.out]
              show due l i k = due l i (((k + 1 : Nat) : Int) - 1)
              congr 1
              omega
            case measure => simp [intOf]; omega
          · gi_wp2
            go_wp2
            refine bodyPost_ret (results_none rfl _ _ _) rfl ?_
            exact ⟨⟨_, rfl⟩, .inr hZ⟩
    · have hk2 : k = s.hours.length := by omega
      subst hk2
      clear hA
      go_wp2
      go_end0
      exact ⟨⟨_, rfl⟩, .inl hY⟩
end Go.Proofs.Ytkmaapkbonkjfaa
namespace Go.Proofs.Ytkmaapkbonkjfaa
open Go.RowKit Go.Shelf
attribute [local go_sem] Oper.semAt_some

theorem ups_at {s : ShopR} {d : Nat} (hd : d < s.hours.length) : (ups s)[d]?.getD 0 = worked s d := by
  unfold ups
  simp [hd]
theorem ups_len (s : ShopR) : (ups s).length = s.hours.length := by simp [ups]

theorem pworked_any {B : Nat} {w : World} {p bm : Nat} {s : ShopR} (hs : ShopAt B w p bm s) (d : Nat) (hd : d < s.hours.length) (hg : Good s) :
    Calls Try.prog 80 #[.pointer (some ⟨p, 0, none⟩), .int .i64 d] w fun e w' => e = .returned (.int .i64 (worked s d)) ∧ w' = w := by
  obtain ⟨⟨vh, vp, vo, vu, hp, _, _, _, hu⟩, _⟩ := hs
  have hl := ups_len s
  obtain ⟨A, cap, rfl, hcap, _, _⟩ := id hu
  obtain ⟨ad, rfl, _, h0⟩ := hu.int (i := d) (by omega)
  rw [ups_at hd] at h0
  have c3 := cellOf hp 3 (v := .slice (some ad) (ups s).length cap) rfl
  have hh := hg.hlen
  rw [hl] at c3 hcap
  clear hp hu
  go_enter Try.func80, Try.ntmps80
  go_wp2
  go_ret
  exact ⟨rfl, rfl⟩

theorem days_any (w : World) (p : Nat) (A : Option Addr) (n c : Nat) :
    Calls Try.prog 56 #[.pointer (some ⟨p, 0, none⟩), .slice A n c] w fun e w' => e = .returned (.func (.func 82) #[] #[.pointer (some ⟨w.heap.size, 0, none⟩), .pointer (some ⟨w.heap.size + 1, 0, none⟩)]) ∧
      w' = (w.alloc (.cells #[.pointer (some ⟨p, 0, none⟩)] 84)).alloc (.cells #[.slice A n c] 24) := by
  go_enter Try.func56, Try.ntmps56
  go_wp2
  go_ret
  simp

def lateV (s : ShopR) (l : List OrdR) : Value :=
  match first? s l with
  | some d => .tuple #[.int .i64 d, .int .i64 (over s l d)]
  | none => .tuple #[.int .i64 0, .int .i64 0]
theorem lateV_some {s : ShopR} {l : List OrdR} {d : Nat} (h : first? s l = some d) : lateV s l = .tuple #[.int .i64 d, .int .i64 (over s l d)] := by unfold lateV; rw [h]
theorem lateV_none {s : ShopR} {l : List OrdR} (h : first? s l = none) : lateV s l = .tuple #[.int .i64 0, .int .i64 0] := by unfold lateV; rw [h]

theorem KeepM.book {bm S : Nat} {w A B : World} (h : KeepM bm w A) (hb : Book S A B) (hS : w.heap.size ≤ S) : KeepM bm w B :=
  ⟨hb.below.os.trans h.os, hb.below.tape.trans h.tape, hb.below.output.trans h.output, Nat.le_trans h.size hb.below.size, fun k hk hn => (hb.below.block k (by omega)).trans (h.block k hk hn)⟩
theorem KeepM.days {s : ShopR} {bm H : Nat} {w A B : World} (h : KeepM bm w A) (hb : DayS s bm H A B) (hS : w.heap.size ≤ H) : KeepM bm w B :=
  ⟨hb.os.trans h.os, hb.tape.trans h.tape, hb.output.trans h.output, Nat.le_trans h.size hb.size, fun k hk hn => (hb.block k (Nat.lt_of_lt_of_le hk h.size) hn (.inl (by omega))).trans (h.block k hk hn)⟩
theorem MapAt.book {c : (Nat → Int) → Nat → Int} {S b : Nat} {A B : World} (h : MapAt c A b) (hb : Book S A B) : MapAt c B b := by
  obtain ⟨es, clk, hm, he⟩ := h
  exact ⟨es, clk, hb.data _ _ hm rfl, he⟩
/-- a block of data stays through the iterator's own work -/
theorem DayS.stays {s : ShopR} {bm H i : Nat} {A B : World} (h : DayS s bm H A B) (hi : i < H) {c : Array Value} {t : TypeId} {f : Nat × Nat} (hc : A.heap[i]? = some (.cells c t f)) : B.heap[i]? = some (.cells c t f) := by
  obtain ⟨es, clk, hm, _⟩ := h.m0
  refine (h.block i (lt_of_block hc) (fun e => ?_) (.inl hi)).trans hc
  subst e
  rw [hm] at hc
  cases hc

theorem results53 {w : World} {a b : Addr} {u v : Int} {tmps : Array Value} (h1 : w.cell? a = some (.int .i64 u)) (h2 : w.cell? b = some (.int .i64 v)) (t1 : tmps[4]?.getD undef = .pointer (some a)) (t2 : tmps[5]?.getD undef = .pointer (some b)) :
    (results Try.f53 tmps).run Try.prog w = .ok (.tuple #[.int .i64 u, .int .i64 v]) w := by
  simp [results, Try.results53, t1, t2, go_sem, h1, h2]

/-- what holds between two rounds -/
structure LateJ (s : ShopR) (l : List OrdR) (p bm : Nat) (vl : Value) (w : World) (k : Nat) (W : World) : Prop where
  keep : KeepM bm w W
  map : MapAt (castP s) W bm
  b0 : W.heap[w.heap.size]? = some (.cells #[.pointer (some ⟨p, 0, none⟩)] 84)
  b1 : W.heap[w.heap.size + 1]? = some (.cells #[.int .i64 0] 3)
  b2 : W.heap[w.heap.size + 2]? = some (.cells #[.int .i64 0] 3)
  b3 : W.heap[w.heap.size + 3]? = some (.cells #[.func (.func 80) #[.pointer (some ⟨p, 0, none⟩)] #[]] 122)
  b4 : W.heap[w.heap.size + 4]? = some (.cells #[.pointer (some ⟨p, 0, none⟩)] 84)
  b5 : W.heap[w.heap.size + 5]? = some (.cells #[vl] 24)
  no : ∀ j, j < k → decide (0 < over s l j) = false
theorem LateJ.move {s : ShopR} {l : List OrdR} {p bm : Nat} {vl : Value} {w : World} {k : Nat} {A B : World} (h : LateJ s l p bm vl w k A) (hk : KeepM bm w B) (hm : MapAt (castP s) B bm)
    (hc : ∀ i o, i < w.heap.size + 6 → isData o = true → A.heap[i]? = some o → B.heap[i]? = some o) : LateJ s l p bm vl w k B :=
  ⟨hk, hm, hc _ _ (by omega) rfl h.b0, hc _ _ (by omega) rfl h.b1, hc _ _ (by omega) rfl h.b2, hc _ _ (by omega) rfl h.b3, hc _ _ (by omega) rfl h.b4, hc _ _ (by omega) rfl h.b5, h.no⟩
theorem LateJ.next {s : ShopR} {l : List OrdR} {p bm : Nat} {vl : Value} {w : World} {k : Nat} {A : World} (h : LateJ s l p bm vl w k A) (hn : ¬ 0 < over s l k) : LateJ s l p bm vl w (k + 1) A :=
  ⟨h.keep, h.map, h.b0, h.b1, h.b2, h.b3, h.b4, h.b5, fun j hj => by
    by_cases e : j < k
    · exact h.no j e
    · obtain rfl : j = k := by omega
      simpa using hn⟩
theorem one_set {W : World} {b : Nat} {x v : Value} {t : TypeId} (h : W.heap[b]? = some (.cells #[x] t)) : (W.setCell ⟨b, 0, none⟩ v).heap[b]? = some (.cells #[v] t) := by
  simp [World.setCell, Array.getElem?_modify, h]
theorem KeepM.setCell {bm : Nat} {w A : World} (h : KeepM bm w A) {p : Addr} (hp : w.heap.size ≤ p.block) (v : Value) : KeepM bm w (A.setCell p v) :=
  ⟨h.os, h.tape, h.output, by simpa [World.setCell] using h.size, fun i hi hn => by rw [Below.heap_setCell _ _ _ _ (by omega)]; exact h.block i hi hn⟩
/-- how it is left -/
structure LateX (s : ShopR) (l : List OrdR) (bm : Nat) (w : World) (c : Code) (W : World) : Prop where
  c : c = .ret
  keep : KeepM bm w W
  map : MapAt (castP s) W bm
  res : ∃ d, first? s l = some d ∧ W.heap[w.heap.size + 1]? = some (.cells #[.int .i64 d] 3) ∧ W.heap[w.heap.size + 2]? = some (.cells #[.int .i64 (over s l d)] 3)

theorem late_any {B : Nat} {w : World} {p bm : Nat} {s : ShopR} {l : List OrdR} {vl : Value} (hs : ShopAt B w p bm s) (hl : Rd OrdAt 4 B w vl l) (hg : Good s) (hf : Fit s l) (hB : B ≤ w.heap.size) :
    Calls Try.prog 53 #[.pointer (some ⟨p, 0, none⟩), vl] w fun e w' => e = .returned (lateV s l) ∧ KeepM bm w w' ∧ MapAt (castP s) w' bm := by
  obtain ⟨A, cap, rfl, _, _, _⟩ := id hl
  refine calls_of_wp_marks Try.func53 rfl ?_
  simp only [Try.ntmps53, List.size_toArray, List.length_cons, List.length_nil, Nat.reduceAdd, Nat.reduceSub, Array.replicate_succ,
     Array.replicate_zero, List.push_toArray, List.append_toArray, List.nil_append, List.cons_append]
  obtain ⟨W1, hW1, r1, z1, d1⟩ := box_any w #[.pointer (some ⟨p, 0, none⟩)] 84
  obtain ⟨W2, hW2, r2, z2, d2⟩ := box_any W1 #[.int .i64 0] 3
  obtain ⟨W3, hW3, r3, z3, d3⟩ := box_any W2 #[.int .i64 0] 3
  have e1 : W1.heap.size = w.heap.size + 1 := z1
  go_upto_region 1 with (fail)
  rw [← hW1, ← hW2, ← hW3]
  have r1' := (d3.block _ (by omega)).trans ((d2.block _ (by omega)).trans r1)
  have r2' := (d3.block _ (by omega)).trans r2
  clear r1 r2
  have c0 := cellOf r1' 0 (v := .pointer (some ⟨p, 0, none⟩)) rfl
  rw [e1] at r2' z2
  rw [z2] at r3 z3
  have hb := Lib.hid (show Below w.heap.size w W3 from d1.trans ((d2.mono (by omega)).trans (d3.mono (by omega))))
  have R1 := Lib.hid r1'
  have R2 := Lib.hid r2'
  have R3 := Lib.hid r3
  have Hl := Lib.hid hl
  have Hs := Lib.hid hs
  clear hW1 hW2 hW3 d1 d2 d3 z1 r1' r2' z2 e1 hl hs
  obtain ⟨W4, hW4, r4, z4, d4⟩ := box_any W3 #[.func (.func 80) #[.pointer (some ⟨p, 0, none⟩)] #[]] 122
  have hlt : w.heap.size < W3.heap.size := by omega
  have R4 := Lib.hid (show W4.heap[w.heap.size + 1 + 1 + 1]? = some (.cells #[.func (.func 80) #[.pointer (some ⟨p, 0, none⟩)] #[]] 122) by rw [← z3]; exact r4)
  have R1 := Lib.hid ((d4.block _ (by omega)).trans R1.out)
  have R2 := Lib.hid ((d4.block _ (by omega)).trans R2.out)
  have R3 := Lib.hid ((d4.block _ (by omega)).trans R3.out)
  have hb := Lib.hid (hb.out.trans (d4.mono (by omega)))
  rw [z3] at z4
  have Z3 := Lib.hid z3
  have Z4 := Lib.hid z4
  have c4 := (d4.cell hlt).trans c0
  clear r3 r4 z4 z3 d4
  go_upto_region 2 with (fail)
  rw [← hW4]
  clear hW4 c0 hlt
  obtain ⟨W5, hW5, r5, z5, d5⟩ := box_any W4 #[.pointer (some ⟨p, 0, none⟩)] 84
  obtain ⟨W6, hW6, r6, z6, d6⟩ := box_any W5 #[.slice A l.length cap] 24
  go_wp2_with (go_at_call 56; refine (days_any _ _ _ _ _).mono ?_; rintro e w' ⟨rfl, rfl⟩)
  rw [← hW5, ← hW6, Z3.out, Z4.out]
  rw [Z4.out] at r5 z5 d5
  rw [z5] at r6 z6 d6
  have hJ0 : LateJ s l p bm (.slice A l.length cap) w 0 W6 := by
    have k1 : ∀ k, k < w.heap.size + 1 + 1 + 1 + 1 → W6.heap[k]? = W4.heap[k]? := fun k hk => (d6.block _ (by omega)).trans (d5.block _ hk)
    have hb6 : Below w.heap.size w W6 := hb.out.trans ((d5.mono (by omega)).trans (d6.mono (by omega)))
    exact ⟨.of_below hb6, Hs.out.map.below hb6, (k1 _ (by omega)).trans R1.out, (k1 _ (by omega)).trans R2.out, (k1 _ (by omega)).trans R3.out, (k1 _ (by omega)).trans R4.out,
      (d6.block _ (by omega)).trans r5, r6, fun j hj => by omega⟩
  clear hW5 hW6 d5 d6 r5 r6 z5 c4 hb R1 R2 R3 R4 Z3 Z4
  refine range_law (gf := 82) (lb := #[.pointer (some ⟨w.heap.size + 1 + 1 + 1 + 1, 0, none⟩), .pointer (some ⟨w.heap.size + 1 + 1 + 1 + 1 + 1, 0, none⟩)]) rfl (enters_of Try.func82 (by kernel_rfl) rfl)
    (fun _ => rfl) (days_iter hg hf B (w.heap.size + 4) (w.heap.size + 5) p bm (.slice A l.length cap)) ?hKp ?hSN
    (LateJ s l p bm (.slice A l.length cap) w) (LateX s l bm w) ?hJb ?hXb ?hJS ?hJN hJ0 ?hround ?hdone ?hstop
  case hKp => exact fun H A B C h hd b cs f hb hc => hd _ _ (h b cs f hb hc) rfl
  case hSN =>
    intro H A B h b o ho hdo
    obtain ⟨es, clk, hm, _⟩ := h.m0
    refine (h.block b (lt_of_block ho) (fun e => ?_) (.inr fun cs f hc => ?_)).trans ho
    · subst e
      rw [hm] at ho
      cases ho
      cases hdo
    · rw [hc] at ho
      cases ho
      cases hdo
  case hJb =>
    intro k A B h hb
    have e : ∀ i o, isData o = true → A.heap[i]? = some o → B.heap[i]? = some o := fun i o hd ho => hb.data _ _ ho hd
    exact ⟨h.keep.book hb (by omega), h.map.book hb, e _ _ rfl h.b0, e _ _ rfl h.b1, e _ _ rfl h.b2, e _ _ rfl h.b3, e _ _ rfl h.b4, e _ _ rfl h.b5, h.no⟩
  case hXb =>
    intro c A B h hb
    obtain ⟨d, hd, h1, h2⟩ := h.res
    exact ⟨h.c, h.keep.book hb (by omega), h.map.book hb, d, hd, hb.data _ _ h1 rfl, hb.data _ _ h2 rfl⟩
  case hJS =>
    intro k A B h hb
    exact ⟨h.keep.days hb (by omega), hb.m1, hb.stays (by omega) h.b0, hb.stays (by omega) h.b1, hb.stays (by omega) h.b2, hb.stays (by omega) h.b3, hb.stays (by omega) h.b4, hb.stays (by omega) h.b5, h.no⟩
  case hJN =>
    intro k A h
    have hsz := h.keep.size
    exact ⟨cellOf h.b4 0 rfl, cellOf h.b5 0 rfl, Hs.out.keep h.keep h.map, Hl.out.stay (by
      intro b c e f hb hc
      obtain ⟨es, clk, hm, _⟩ := Hs.out.map
      exact h.keep.stay hm hc), by omega⟩
  case hdone =>
    intro d W hd h hk
    have c1 := cellOf h.b1 0 (v := .int .i64 0) rfl
    have c2 := cellOf h.b2 0 (v := .int .i64 0) rfl
    have f1 : W.frozen? ⟨w.heap.size + 1, 0, none⟩ = false := by simp [World.frozen?, h.b1]
    have f2 : W.frozen? ⟨w.heap.size + 2, 0, none⟩ = false := by simp [World.frozen?, h.b2]
    have Hh := Lib.hid h
    have Hk := Lib.hid hk
    clear h hk
    simp only [Exit.inBlock, Exit.then]
    go_wp2
    have hnc : NC W ((W.setCell ⟨w.heap.size + 1, 0, none⟩ (.int .i64 0)).setCell ⟨w.heap.size + 1 + 1, 0, none⟩ (.int .i64 0)) := ((NC.refl W).setCell _ _).setCell _ _
    refine leaves_one rfl (hnc _ _ Hk.out rfl) (Nat.le_refl d) fun w' hb => ?_
    have e1 := hb.cell (a := ⟨w.heap.size + 1, 0, none⟩) (v := .int .i64 0) (by rw [World.cell?_setCell_other _ _ _ _ (by simp)]; exact World.cell?_setCell_same' _ _ _ (by rw [c1]; rfl))
    have e2 := hb.cell (a := ⟨w.heap.size + 1 + 1, 0, none⟩) (v := .int .i64 0) (World.cell?_setCell_same' _ _ _ (by rw [World.cell?_setCell_other _ _ _ _ (by simp), c2]; rfl))
    refine ⟨_, results53 e1 e2 rfl rfl, ?_, ?_, ?_⟩
    · rw [lateV_none (fst?_none Hh.out.no)]
    · refine KeepM.book (S := d) ?_ hb (by omega)
      have k := Hh.out.keep
      exact ⟨k.os, k.tape, k.output, by simpa [World.setCell] using k.size, fun i hi hn => by
        rw [Below.heap_setCell _ _ _ _ (by simp; omega), Below.heap_setCell _ _ _ _ (by simp; omega)]; exact k.block i hi hn⟩
    · exact ((Hh.out.map.setCell _ _).setCell _ _).book hb
  case hstop =>
    intro d c W hd h hk
    obtain ⟨rfl, hkeep, hmap, dd, hf?, c1, c2⟩ := h
    have c1 := cellOf c1 0 (v := .int .i64 dd) rfl
    have c2 := cellOf c2 0 (v := .int .i64 (over s l dd)) rfl
    go_wp2
    refine leaves_one rfl hk (Nat.le_refl d) fun w' hb => ?_
    exact ⟨_, results53 (hb.cell c1) (hb.cell c2) rfl rfl, by rw [lateV_some hf?], hkeep.book hb (by omega), hmap.book hb⟩
  case hround =>
    intro r k W hk h hr1 hr2
    have hcast : ∀ i, i < s.parts.length → castP s (fun i => due l i k) i = byy s l i k := fun i hi => by unfold castP byy; rw [if_pos hi]
    have Hel := Lib.hid (show dayEl s l k = #[.int .i64 k, encP (castP s fun i => due l i k)] from rfl)
    rw [Hel.out]
    generalize castP s (fun i => due l i k) = f at hcast
    generalize hT : Array.foldl _ _ _ = T
    simp [encP] at hT
    subst hT
    obtain ⟨W1, hW1, r1, z1, d1⟩ := box_any W #[.int .i64 (f 0), .int .i64 (f 1), .int .i64 (f 2)] 93
    gi_wp2
    rw [← hW1]
    clear hW1
    have hsz := h.keep.size
    have k1 : KeepM bm w W1 := h.keep.trans (.of_below d1)
    have h1 : LateJ s l p bm (.slice A l.length cap) w k W1 := h.move k1 (h.map.below d1) fun i o hi _ ho => (d1.block i (lt_of_block ho)).trans ho
    refine ⟨(NC.refl W).of_below d1, fun W₂ hb2 hz2 => ?_⟩
    have hdk : DayK (w.heap.size + 8) W W₂ := fun b cs f hb hc => hb2.data _ _ ((d1.block b (lt_of_block hc)).trans hc) rfl
    have h2 : LateJ s l p bm (.slice A l.length cap) w k W₂ := h1.move (h1.keep.book hb2 (by omega)) (h1.map.book hb2) fun i o _ hd ho => hb2.data _ _ ho hd
    have hA : ArrAt W₂ W.heap.size f := hb2.data _ _ r1 rfl
    clear hb2 d1 k1 h1 r1 z1 h
    obtain ⟨⟨vh, vp, vo, vu, hp, _, hpp, _⟩, _⟩ := Hs.out.keep h2.keep h2.map
    obtain ⟨Ap, cp, rfl, _, _, _⟩ := id hpp
    have c0 := cellOf h2.b0 0 (v := .pointer (some ⟨p, 0, none⟩)) rfl
    have m1 := cellOf hp 1 (v := .slice Ap s.parts.length cp) rfl
    have hplen := hg.plen
    have H2 := Lib.hid h2
    have HA := Lib.hid hA
    have HP := Lib.hid hpp
    have HDK := Lib.hid hdk
    have hsz2 := Lib.hid (show W.heap.size < W₂.heap.size from lt_of_block hA)
    clear h2 hA hpp hdk hp
    gi_wp2
    gi_loopw [9, 25] (fun n i wr => ∃ k' : Nat, k' ≤ s.parts.length ∧ i = .int .i64 k' ∧ n = .int .i64 (takesTo s l k k') ∧ Below W₂.heap.size W₂ wr) (fun _ i _ => s.parts.length - (intOf i).toNat)
    case atStart => exact ⟨0, Nat.zero_le _, rfl, rfl, Below.refl _ _⟩
    case round =>
      obtain ⟨j, hj, rfl, rfl, hbr⟩ := hrel
      by_cases hlt : j < s.parts.length
      · have hszr := hsz2.out
        have hBr : B ≤ W₂.heap.size := by have := H2.out.keep.size; omega
        obtain ⟨ad, rfl, _, p0, p1, p2, p3⟩ := (HP.out.below (hbr.mono hBr)).part hlt
        have hA' : ArrAt wr W.heap.size f := HA.out.below hbr
        have e1 := hA'.cell (i := j) (by omega)
        have eT := Lib.hid (takesTo_succ s l k j)
        have b1 := byy_bd hg hf hlt (k : Int)
        have b2 := (hg.part hlt).long
        have b3 := takesTo_bd hg hf (k : Int) (k := j) (by omega)
        have b4 : byy s l j k * (s.parts.getD j default).long ≤ 450 * 48 := Int.mul_le_mul b1.2 b2.2 (by omega) (by omega)
        have b5 : 0 ≤ byy s l j k * (s.parts.getD j default).long := Int.mul_nonneg b1.1 (by omega)
        rw [List.getD_eq_getElem?_getD] at b2 b4 b5 eT
        rw [hcast j hlt] at e1
        generalize s.parts[j]?.getD default = pp at *
        have Hbr := Lib.hid hbr
        clear hA' hbr
        obtain ⟨W8, hW8, r8, z8, d8⟩ := box_any wr #[.string pp.name, .int .i64 pp.batch, .int .i64 pp.long, .int .i64 pp.stock] 57
        have e2 := (d8.cell (cell_lt e1)).trans e1
        have e3 := cellOf r8 2 (v := .int .i64 pp.long) rfl
        gi_wp2
        rw [← hW8]
        clear hW8
        refine round_region_read (by kernel_rfl) (by kernel_rfl) ?_
        repeat (first | go_big_quiet_step (fail) | quiet_step (fail))
        refine wpQuiet_nil ?_
        rintro _ ⟨n, rfl⟩
        gi_wp2
        go_roundw
        case rel =>
          refine ⟨j + 1, by omega, by go_num, by rw [eT.out], ?_⟩
          exact below_drewN (Hbr.out.trans (d8.mono Hbr.out.size)) n
        case measure => simp [intOf]; omega
      · have hj2 : j = s.parts.length := by omega
        subst hj2
        have hto : takesTo s l k s.parts.length = takes s l k := rfl
        rw [hto]
        clear hto
        have hBr : B ≤ W₂.heap.size := by have := H2.out.keep.size; omega
        have hszw : W₂.heap.size ≤ wr.heap.size := hbr.size
        have hr : LateJ s l p bm (.slice A l.length cap) w k wr := H2.out.move (H2.out.keep.trans (.of_below hbr)) (H2.out.map.below hbr) fun i o hi _ ho => (hbr.block i (lt_of_block ho)).trans ho
        have hDKr : DayK (w.heap.size + 8) W wr := fun b cs f hb hc => (hbr.block b (lt_of_block (HDK.out b cs f hb hc))).trans (HDK.out b cs f hb hc)
        have hncr : NC W₂ wr := (NC.refl _).of_below hbr
        have hshop := Hs.out.keep hr.keep hr.map
        have f3 := cellOf hr.b3 0 (v := .func (.func 80) #[.pointer (some ⟨p, 0, none⟩)] #[]) rfl
        have g1 := cellOf hr.b1 0 (v := .int .i64 0) rfl
        have g2 := cellOf hr.b2 0 (v := .int .i64 0) rfl
        have q1 : wr.frozen? ⟨w.heap.size + 1, 0, none⟩ = false := by simp [World.frozen?, hr.b1]
        have q2 : wr.frozen? ⟨w.heap.size + 1 + 1, 0, none⟩ = false := by simp [World.frozen?, hr.b2]
        have t1 := takes_bd hg hf (k : Int)
        have t2 := worked_bd hg hk
        have Hr := Lib.hid hr
        have Hsh := Lib.hid hshop
        have HDr := Lib.hid hDKr
        have Hnc := Lib.hid hncr
        have Hbr := Lib.hid hbr
        have Hc := Lib.hid hcast
        have Hov := Lib.hid (show over s l k = takes s l k - worked s k from rfl)
        clear hr hshop hDKr hncr hbr hcast m1 c0
        by_cases ho : worked s k < takes s l k
        · gi_wp2_with (refine ⟨trivial, rfl, ?_⟩; gi_at_call 80; refine (callsIn_wide.2 (pworked_any Hsh.out k hk hg)).mono ?_; rintro e wx ⟨rfl, rfl⟩)
          have hk1 := (Hr.out.keep.setCell (p := ⟨w.heap.size + 1, 0, none⟩) (by simp) (.int .i64 k)).setCell (p := ⟨w.heap.size + 1 + 1, 0, none⟩) (by simp; omega) (.int .i64 (takes s l k - worked s k))
          refine ⟨(Hnc.out.setCell _ _).setCell _ _, rfl, hk1, (Hr.out.map.setCell _ _).setCell _ _, k, fst?_some hk (by rw [Hov.out]; simp; omega) Hr.out.no, ?_, ?_⟩
          · rw [Below.heap_setCell _ _ _ _ (by simp)]
            exact one_set Hr.out.b1
          · rw [Hov.out]
            exact one_set ((Below.heap_setCell _ _ _ _ (by simp)).trans Hr.out.b2)
        · gi_wp2_with (refine ⟨trivial, rfl, ?_⟩; gi_at_call 80; refine (callsIn_wide.2 (pworked_any Hsh.out k hk hg)).mono ?_; rintro e wx ⟨rfl, rfl⟩)
          refine ⟨Hnc.out, Hr.out.next (by rw [Hov.out]; omega), ?_⟩
          rw [z6]
          exact HDr.out

theorem pcan_any {B : Nat} {w : World} {p bm : Nat} {s : ShopR} {l : List OrdR} {vl : Value} (hs : ShopAt B w p bm s) (hl : Rd OrdAt 4 B w vl l) (hg : Good s) (hf : Fit s l) (hB : B ≤ w.heap.size) :
    Calls Try.prog 60 #[.pointer (some ⟨p, 0, none⟩), vl] w fun e w' => e = .returned (.bool (canB s l)) ∧ KeepM bm w w' ∧ MapAt (castP s) w' bm := by
  obtain ⟨A, cap, hvl, _, _, _⟩ := id hl
  have h := Lib.hid (late_any hs hl hg hf hB)
  subst hvl
  cases hf? : first? s l with
  | none =>
    rw [lateV_none hf?] at h
    have hf? := Lib.hid hf?
    clear hl hs
    go_enter Try.func60, Try.ntmps60
    go_wp2_with (go_at_call 53; refine h.out.mono ?_; rintro e w1 ⟨rfl, hb1⟩)
    go_ret
    exact ⟨ret_bool (by simp [canB, hf?.out]), hb1⟩
  | some d =>
    rw [lateV_some hf?] at h
    have hov : 0 < over s l d := by have := (fst?_spec hf?).2.1; simpa using this
    have hf? := Lib.hid hf?
    clear hl hs
    go_enter Try.func60, Try.ntmps60
    go_wp2_with (go_at_call 53; refine h.out.mono ?_; rintro e w1 ⟨rfl, hb1⟩)
    go_ret
    exact ⟨ret_bool (by simp [canB, hf?.out]; omega), hb1⟩
end Go.Proofs.Ytkmaapkbonkjfaa
