/- Walks of the layer order: OrderFewest. -/
import Derived.Test.YtkmaapkbonkjfaaLawP
import Derived.Test.YtkmaapkbonkjfaaPlanW
import Derived.Test.YtkmaapkbonkjfaaNeedOwn
import Derived.Test.YtkmaapkbonkjfaaPlanFr
set_option linter.unusedSimpArgs false
set_option linter.unusedVariables false
namespace Go.Proofs.Ytkmaapkbonkjfaa
open Go.RowKit

/-- pieces of a part -/
def pcs (i : Int) (l : List OrdR) : Int := ((l.filter fun o => o.part == i).map (·.many)).sum
theorem pcs_snoc (i : Int) (l : List OrdR) (o : OrdR) : pcs i (l ++ [o]) = pcs i l + if o.part = i then o.many else 0 := by
  unfold pcs
  rw [List.filter_append, List.map_append, List.sum_append]
  by_cases h : o.part = i <;> simp [h]
theorem pcs_bd {l : List OrdR} (h : ∀ o ∈ l, 1 ≤ o.many ∧ o.many ≤ 50) (i : Int) : 0 ≤ pcs i l ∧ pcs i l ≤ 50 * l.length := by
  induction l with
  | nil => simp [pcs]
  | cons o l ih =>
    have h1 := h o (by simp)
    have h2 := ih fun x hx => h x (by simp [hx])
    have e : pcs i (o :: l) = (if o.part = i then o.many else 0) + pcs i l := by
      unfold pcs
      by_cases h : o.part = i <;> simp [h]
    rw [e]
    simp only [List.length_cons]
    split <;> omega

theorem flat_int : ∀ (xs : List Int) (k : Nat) (x : Int), k < xs.length → (xs.flatMap (Enc.enc (α := Int))).set k (.int .i64 x) = (xs.set k x).flatMap Enc.enc := by
  intro xs
  induction xs with
  | nil => intro k x h; simp at h
  | cons o r ih =>
    intro k x h
    cases k with
    | zero => simp [Enc.enc]
    | succ k =>
      have := ih k x (by simpa using h)
      rw [List.flatMap_cons]
      simp only [Enc.enc, List.cons_append, List.nil_append, List.set_cons_succ, List.flatMap_cons] at this ⊢
      rw [this]
theorem flat_int_at (xs : List Int) (k : Nat) (h : k < xs.length) : (xs.flatMap (Enc.enc (α := Int)))[k]? = some (.int .i64 (xs[k]?.getD 0)) := by
  have := flat_at (xs := xs) (i := k) (List.getElem?_eq_getElem h) (j := 0) (u := .int .i64 xs[k]) rfl
  rw [Nat.mul_one, Nat.add_zero] at this
  rw [this, List.getElem?_eq_getElem h]; rfl
/-- a number of the call's own, written anew -/
theorem Own.putInt {base : Nat} {w : World} {A : Option Addr} {m c : Nat} {xs : List Int} (h : Own base 3 w (.slice A m c) xs) {k : Nat} (hk : k < xs.length) :
    ∃ g, A = some ⟨g, 0, none⟩ ∧ base ≤ g ∧ g < w.heap.size ∧ w.cell? ⟨g, k, none⟩ = some (.int .i64 (xs[k]?.getD 0)) ∧ w.frozen? ⟨g, k, none⟩ = false ∧
      ∀ x, Own base 3 (w.setCell ⟨g, k, none⟩ (.int .i64 x)) (.slice A m c) (xs.set k x) := by
  have h0 := h
  rcases h with ⟨hl, ⟨_, h0⟩ | ⟨g, cap, cur, hv, hb, hh, hn, hc, hsz, hx⟩⟩
  · omega
  · injection hv with e1 e2 e3
    subst e1 e2 e3
    have hcell := World.ownsRow.cellAt h0 k (by omega)
    refine ⟨g, rfl, hb, lt_of_block hh, hcell.trans (flat_int_at xs k hk), World.ownsRow.frozenAt h0 _, fun x => ?_⟩
    have := (World.ownsRow.stored h0 k (.int .i64 x)).1
    unfold Own
    rw [← flat_int xs k x hk, List.length_set]
    exact this
theorem Rd.keepFrom {α : Type} {At : World → Addr → α → Prop} [AtKeep At] {sz B b : Nat} {w w' : World} {v : Value} {xs : List α} (h : Rd At sz B w v xs) (hf : SlFrom b v) (hk : ∀ i, b ≤ i → w'.heap[i]? = w.heap[i]?) : Rd At sz B w' v xs := by
  obtain ⟨A, cap, e, h1, h2, h3⟩ := h
  refine ⟨A, cap, e, h1, h2, fun i x hx => ?_⟩
  obtain ⟨ad, e2, hb, ha⟩ := h3 i x hx
  subst e e2
  refine ⟨ad, rfl, hb, AtKeep.keep w w' _ x (fun p hp => ?_) ha⟩
  rw [block_add] at hp
  exact World.cell?_of_block (hk _ (by rw [hp]; exact hf ad _ _ rfl))
/-- what is left to cast of each part -/
def leftN (s : ShopR) (l : List OrdR) (k : Nat) : List Int := (List.range s.parts.length).map fun i => byy s l i ((s.hours.length : Int) - 1) - cntP ((castsL s l).take k) i
theorem leftN_zero (s : ShopR) (l : List OrdR) : leftN s l 0 = neededL s l := by
  unfold leftN neededL
  refine List.map_congr_left fun i _ => ?_
  simp [cntP]
theorem leftN_len (s : ShopR) (l : List OrdR) (k : Nat) : (leftN s l k).length = s.parts.length := by simp [leftN]
theorem leftN_at {s : ShopR} {l : List OrdR} {k i : Nat} (hi : i < s.parts.length) : (leftN s l k)[i]?.getD 0 = byy s l i ((s.hours.length : Int) - 1) - cntP ((castsL s l).take k) i := by
  unfold leftN
  rw [List.getElem?_map, List.getElem?_range hi]; rfl
theorem leftN_next {s : ShopR} {l : List OrdR} {k p : Nat} {d : Int} (hk : (castsL s l)[k]? = some ((p : Int), d)) (hp : p < s.parts.length) : (leftN s l k).set p ((leftN s l k)[p]?.getD 0 - 1) = leftN s l (k + 1) := by
  refine List.ext_getElem? fun i => ?_
  by_cases hi : i < s.parts.length
  · have e1 : (leftN s l (k + 1))[i]? = some (byy s l i ((s.hours.length : Int) - 1) - cntP ((castsL s l).take (k + 1)) i) := by
      unfold leftN; rw [List.getElem?_map, List.getElem?_range hi]; rfl
    have e2 : (leftN s l k)[i]? = some (byy s l i ((s.hours.length : Int) - 1) - cntP ((castsL s l).take k) i) := by
      unfold leftN; rw [List.getElem?_map, List.getElem?_range hi]; rfl
    have e3 : cntP ((castsL s l).take (k + 1)) i = cntP ((castsL s l).take k) i + if (p : Int) = i then 1 else 0 := by
      rw [List.take_add_one, hk, Option.toList_some, cntP_append, cntP_cons]
      simp [cntP]
    rw [e1, e3]
    by_cases hpi : p = i
    · subst hpi
      rw [List.getElem?_set_self (by rw [leftN_len]; exact hi), leftN_at hi, if_pos rfl]
      congr 1 <;> omega
    · rw [List.getElem?_set_ne hpi, e2, if_neg (by omega)]
      congr 1 <;> omega
  · rw [List.getElem?_eq_none (by rw [List.length_set, leftN_len]; omega), List.getElem?_eq_none (by rw [leftN_len]; omega)]
theorem leftN_end {s : ShopR} {l : List OrdR} (hg : Good s) (hf : Fit s l) {i : Nat} (hi : i < s.parts.length) : (leftN s l (castsL s l).length)[i]?.getD 0 = 0 := by
  have := hg.hlen
  rw [leftN_at hi, List.take_of_length_le (Nat.le_refl _), casts_count hg hf hi, show ((s.hours.length : Int) - 1) = ((s.hours.length - 1 : Nat) : Int) by omega]
  omega
theorem casts_len {s : ShopR} {l : List OrdR} (hg : Good s) (hf : Fit s l) : (castsL s l).length ≤ 1350 := by
  rw [castsL_eq, castsC_len]
  exact list_bd hg hf _

/-- the shop, the orders that are taken, and the castings that are needed, in the caller's own memory -/
structure FwS (w0 : World) (B tb nb : Nat) (vh vp vo vt vn : Value) (s : ShopR) (t ns : List Int) (X : World) : Prop where
  sh : ShS w0 B tb vh vp vo s X
  tk : Rd IntAt 1 X.heap.size X vt t
  nd : Own nb 3 X vn ns
theorem FwS.next {w0 : World} {B tb nb : Nat} {vh vp vo vt vn : Value} {s : ShopR} {t ns : List Int} {X X' : World} (h : FwS w0 B tb nb vh vp vo vt vn s t ns X) (hb : Below X.heap.size X X') : FwS w0 B tb nb vh vp vo vt vn s t ns X' :=
  ⟨h.sh.next hb, (h.tk.below hb).mono hb.size, h.nd.below hb⟩

set_option maxRecDepth 100000 in
set_option maxHeartbeats 4000000 in
theorem fewest_walk {B : Nat} {w : World} {v : Value} {s : ShopR} (hs : RdShop B w v s) (hn : ∀ p ∈ s.parts, p.name.size ≤ 9223372036854775807) (hB : B ≤ w.heap.size) (x : Nat) (hx : x < 256) :
    Calls Try.prog 8 #[v, .int .u8 x] w fun e w' => e = .returned (.bool true) ∧ Below w.heap.size w w' := by
  obtain ⟨vh, vp, vo, rfl, ⟨Ah, ch, rfl, _⟩, ⟨Ap, cp, rfl, _⟩, ⟨Ao, co, rfl, _⟩⟩ := id hs
  obtain ⟨W, hW⟩ : ∃ W, W = w.alloc (.cells #[.slice Ah s.hours.length ch, .slice Ap s.parts.length cp, .slice Ao s.orders.length co] 26) := ⟨_, rfl⟩
  have HS := Lib.hid (ShS.start hs hn hB)
  rw [← hW] at HS
  clear hs hn hB
  go_enter Try.func8, Try.ntmps8
  go_upto_region 1 with (fail)
  rw [← hW]
  clear hW
  obtain ⟨c0, c1, c2⟩ := HS.out.cells
  go_upto_region 2 with (go_at_call 37; refine (chosen_any HS.out.shop HS.out.hB x hx).mono ?_; rintro e w1 ⟨A1, n1, rfl, hr, hb⟩; have HS := Lib.hid (HS.out.next hb); obtain ⟨c0, c1, c2⟩ := HS.out.cells; have HT := Lib.hid hr; clear hb hr)
  have Htl := Lib.hid (upTo_short x s.orders.length hx)
  have Hpk := Lib.hid (pick_upTo x s.orders.length)
  generalize upTo x s.orders.length = t at *
  by_cases he : errOf s = 0
  · have heb : (errOf s == 0) = true := by simpa using he
    have hte : takenErr s t = 0 := by rw [Hpk.out]; exact taken_pick he _
    obtain ⟨_, hg, hf, _⟩ := fit_of hte
    have hnl : (neededL s (ofL s t)).length = s.parts.length := neededL_len _ _
    have hpl := hg.plen
    go_upto_region 3 with (go_at_call 20; refine (pneeded_own (HS.out.given HT.out) hte).mono ?_; rintro e w2 ⟨A2, n2, rfl, hown, hb⟩; have HW : Hid (FwS w B w.heap.size w1.heap.size (.slice Ah s.hours.length ch) (.slice Ap s.parts.length cp) (.slice Ao s.orders.length co) (.slice A1 t.length n1) (.slice A2 s.parts.length n2) s t (neededL s (ofL s t)) w2) := Lib.hid ⟨HS.out.next hb, (HT.out.below hb).mono hb.size, hown⟩; obtain ⟨c0, c1, c2⟩ := HW.out.sh.cells; clear hb hown)
    go_upto_region 5 with (go_at_call 36; refine (valid_any HW.out.sh.shop HW.out.sh.nm HW.out.sh.hB).mono ?_; rintro e w3 ⟨rfl, hb⟩; have HW := Lib.hid (HW.out.next hb); obtain ⟨c0, c1, c2⟩ := HW.out.sh.cells; clear hb)
    have Hte := Lib.hid hte
    have Hg := Lib.hid hg
    have Hf := Lib.hid hf
    have He := Lib.hid he
    have C1 := Lib.hid c1
    have C2 := Lib.hid c2
    have Hnl := Lib.hid hnl
    clear hte hg hf he c0 hnl
    have Htk : Hid (∀ k, 0 ≤ pcs k (ofL s t) ∧ pcs k (ofL s t) ≤ 450) := Lib.hid fun k => by
      have h1 := pcs_bd (Hf.out.many) k
      have h2 := Hf.out.len
      omega
    have Hin := Lib.hid (fun k hk => taken_in (k := k) Hte.out hk)
    have htl := Htl.out
    go_wp2
    go_loopw [8] (fun iv wr => ∃ i : Nat, i ≤ s.parts.length ∧ iv = .int .i64 i ∧ Below w3.heap.size w3 wr) (fun iv _ => s.parts.length - (intOf iv).toNat)
    case atStart => exact ⟨0, Nat.zero_le _, rfl, Below.refl _ _⟩
    case round =>
      obtain ⟨i, hi, rfl, hbr⟩ := hrel
      have HR := Lib.hid (HW.out.next hbr)
      have Hbr := Lib.hid hbr
      clear hbr
      by_cases hlt : i < s.parts.length
      · have c1 := (Hbr.out.cell (cell_lt C1.out)).trans C1.out
        have c2 := (Hbr.out.cell (cell_lt C2.out)).trans C2.out
        have C1 := Lib.hid c1
        have C2 := Lib.hid c2
        clear c1 c2
        go_wp2
        go_loopw [9, 10] (fun pc kv wq => ∃ k : Nat, k ≤ t.length ∧ kv = .int .i64 k ∧ pc = .int .i64 (pcs i (ofL s (t.take k))) ∧ Qt wr wq) (fun _ kv _ => t.length - (intOf kv).toNat)
        case atStart => exact ⟨0, Nat.zero_le _, rfl, rfl, Qt.refl _⟩
        case round =>
          obtain ⟨k, hk, rfl, rfl, hq⟩ := hrel
          have Hq := Lib.hid hq
          have c2 := hq.cell C2.out
          by_cases hkt : k < t.length
          · obtain ⟨ad, rfl, _, d0⟩ := (HR.out.tk.qt hq).int hkt
            obtain ⟨q0, q1⟩ := Hin.out k hkt
            obtain ⟨q, hqe⟩ := Int.eq_ofNat_of_zero_le q0
            have hq1 : (q : Int) < s.orders.length := by omega
            obtain ⟨vh', vp', vo', hv, _, _, ho⟩ := HR.out.sh.shop.qt hq
            cases hv
            obtain ⟨ao, rfl, _, o0, o1, o2, o3⟩ := ho.ord (i := q) (by omega)
            have hsn := ofL_snoc (s := s) hkt hqe
            have hsum : pcs i (ofL s (t.take (k + 1))) = pcs i (ofL s (t.take k)) + if (s.orders[q]?.getD default).part = i then (s.orders[q]?.getD default).many else 0 := by rw [hsn, pcs_snoc]
            have hbd : ∀ j, j ≤ t.length → 0 ≤ pcs i (ofL s (t.take j)) ∧ pcs i (ofL s (t.take j)) ≤ 450 := fun j hj => by
              have h1 := pcs_bd (l := ofL s (t.take j)) (fun o ho => Hf.out.many o (by
                unfold ofL at ho ⊢
                obtain ⟨i, hi, rfl⟩ := List.mem_map.1 ho
                exact List.mem_map_of_mem (List.mem_of_mem_take hi))) i
              rw [ofL_len, List.length_take] at h1
              omega
            have hb0 := hbd k (by omega)
            have hb1 := hbd (k + 1) (by omega)
            rw [hsum] at hb1
            have Hsum := Lib.hid hsum
            rw [hqe] at d0
            clear hsn hsum q0 q1 ho o2 o3 hqe hbd hq
            generalize s.orders[q]?.getD default = o at *
            generalize pcs i (ofL s (t.take k)) = sm at *
            by_cases hop : o.part = i
            · have hob : (o.part == (i : Int)) = true := by simp [hop]
              rw [if_pos hop] at Hsum hb1
              clear hop
              go_wp2
              go_quiet (fail)
              go_upto_region 15 with (fail)
              go_quiet (fail)
              go_wp2
              go_roundw
              case rel => exact ⟨k + 1, by omega, by go_num, by rw [Hsum.out], Hq.out.drewN _⟩
              case measure => simp [intOf]; omega
            · have hob : (o.part == (i : Int)) = false := beq_false_of_ne hop
              rw [if_neg hop, Int.add_zero] at Hsum
              clear hop hb1
              go_wp2
              go_quiet (fail)
              go_wp2
              go_roundw
              case rel => exact ⟨k + 1, by omega, by go_num, by rw [Hsum.out], Hq.out.drewN _⟩
              case measure => simp [intOf]; omega
          · have hkn : k = t.length := by omega
            subst hkn
            rw [List.take_of_length_le (Nat.le_refl _)]
            clear hq
            have HR := Lib.hid (HR.out.next (Hq.out.below _))
            have Hbr := Lib.hid (Hbr.out.trans ((Hq.out.below _).mono Hbr.out.size))
            have c1 := Hq.out.cell C1.out
            obtain ⟨vh', vp', vo', hv, _, hpp, _⟩ := id HR.out.sh.shop
            cases hv
            obtain ⟨ap, rfl, _, p0, p1, p2, p3⟩ := hpp.part hlt
            have hpo := Hg.out.part hlt
            rw [List.getD_eq_getElem?_getD] at hpo
            have hpc : pcs i (ofL s t) = due (ofL s t) i ((s.hours.length - 1 : Nat) : Int) := (due_all Hg.out Hf.out i).symm
            have hnd : (neededL s (ofL s t))[i]?.getD 0 = need (s.parts[i]?.getD default) (pcs i (ofL s t)) := by
              have hh := Hg.out.hlen
              unfold neededL
              rw [List.getElem?_map, List.getElem?_range hlt]
              show byy s (ofL s t) i ((s.hours.length : Int) - 1) = _
              unfold byy
              rw [hpc, List.getD_eq_getElem?_getD, show ((s.hours.length : Int) - 1) = ((s.hours.length - 1 : Nat) : Int) by omega]
            have hspec := need_spec hpo (pcs i (ofL s t)) (Htk.out i).1
            have hbd := need_le hpo (Htk.out i).2
            rw [← hnd] at hspec hbd
            have hpb := Htk.out i
            obtain ⟨ni, hni⟩ : ∃ ni, (neededL s (ofL s t))[i]?.getD 0 = ni := ⟨_, rfl⟩
            rw [hni] at hspec hbd
            have Hni := Lib.hid hni
            clear hnd hpc hpp hni
            generalize s.parts[i]?.getD default = p at *
            generalize pcs i (ofL s t) = pc at *
            go_upto_region 17 with (fail)
            obtain ⟨WX, hWX, rX, zX, bX⟩ := box_any wr #[.string p.name, .int .i64 p.batch, .int .i64 p.long, .int .i64 p.stock] 57
            rw [← hWX]
            have HR := Lib.hid (HR.out.next bX)
            have HbX := Lib.hid (Hbr.out.trans (bX.mono Hbr.out.size))
            have y1 := cellOf rX 1 (v := .int .i64 p.batch) rfl
            have y3 := cellOf rX 3 (v := .int .i64 p.stock) rfl
            obtain ⟨an, rfl, _, d0⟩ := HR.out.nd.rd.int (i := i) (by rw [Hnl.out]; exact hlt)
            rw [Hni.out] at d0
            clear hWX rX zX bX p0 p1 p2 p3 c1
            obtain ⟨hs1, hs2, hs3⟩ := hspec
            have hb1 : decide (ni < 0) = false := decide_eq_false (by omega)
            have hpbt := hpo.batch
            have hpst := hpo.stock
            have hm1 : 0 ≤ ni * p.batch ∧ ni * p.batch ≤ 4500 := ⟨Int.mul_nonneg hs1 (by omega), by have := Int.mul_le_mul hbd hpbt.2 (by omega) (by omega); omega⟩
            have hw1 : IntKind.i64.wrap (ni * p.batch) = ni * p.batch := IntWalk.i64_in _ (by omega)
            have hw2 : IntKind.i64.wrap (p.stock + ni * p.batch) = p.stock + ni * p.batch := IntWalk.i64_in _ (by omega)
            have hb2 : decide (p.stock + ni * p.batch < pc) = false := decide_eq_false (by omega)
            by_cases hpos : 0 < ni
            · have hs4 := hs3 hpos
              have hb3 : decide (ni > 0) = true := decide_eq_true hpos
              have hb3' : decide (0 < ni) = true := decide_eq_true hpos
              have hm2 : 0 ≤ (ni - 1) * p.batch ∧ (ni - 1) * p.batch ≤ 4500 := ⟨Int.mul_nonneg (by omega) (by omega), by have := Int.mul_le_mul (show ni - 1 ≤ 450 by omega) hpbt.2 (by omega) (by omega); omega⟩
              have hw3 : IntKind.i64.wrap (ni - 1) = ni - 1 := IntWalk.i64_in _ (by omega)
              have hw4 : IntKind.i64.wrap ((ni - 1) * p.batch) = (ni - 1) * p.batch := IntWalk.i64_in _ (by omega)
              have hw5 : IntKind.i64.wrap (p.stock + (ni - 1) * p.batch) = p.stock + (ni - 1) * p.batch := IntWalk.i64_in _ (by omega)
              have hb4 : decide (p.stock + (ni - 1) * p.batch ≥ pc) = false := decide_eq_false (by omega)
              have hb5 : decide (pc ≤ p.stock + (ni - 1) * p.batch) = false := decide_eq_false (by omega)
              clear hs1 hs2 hs3 hs4 hm1 hm2 hpos hbd
              go_quiet (fail)
              go_wp2
              go_roundw
              case rel => exact ⟨i + 1, by omega, by go_num, below_drewN HbX.out nq⟩
              case measure => simp [intOf]; omega
            · have hb3 : decide (ni > 0) = false := decide_eq_false hpos
              have hb3' : decide (0 < ni) = false := decide_eq_false hpos
              clear hs1 hs2 hs3 hm1 hpos hbd
              go_quiet (fail)
              go_wp2
              go_roundw
              case rel => exact ⟨i + 1, by omega, by go_num, below_drewN HbX.out nq⟩
              case measure => simp [intOf]; omega
      · have hin : i = s.parts.length := by omega
        subst hin
        have c0 := (HR.out.sh.cells).1
        have c1 := (HR.out.sh.cells).2.1
        have c2 := (HR.out.sh.cells).2.2
        clear C1 C2
        have HpP := Lib.hid (fun (W : World) (h : Given W.heap.size W (.agg #[.slice Ah s.hours.length ch, .slice Ap s.parts.length cp, .slice Ao s.orders.length co]) (.slice A1 t.length n1) s t) => pplan_from h)
        unfold PlanF at HpP
        cases hcb : canB s (ofL s t) with
        | false =>
          have e := show planF s t = ([], 9) by unfold planF; rw [if_neg (by simp [Hte.out]), hcb]; rfl
          rw [e] at HpP
          clear e hcb
          go_wp2_with (first | (go_at_call 24; refine (HpP.out _ (HR.out.sh.given HR.out.tk)).mono ?_; rintro e w4 ⟨A3, n3, rfl, hr, _, hb⟩; have HR := Lib.hid (HR.out.next hb); clear hr hb c0 c1 c2) | (go_at_call 23; refine (awake_any _).mono ?_; rintro e w5 ⟨rfl, hb⟩; have HR := Lib.hid (HR.out.next hb); clear hb))
          go_ret
          exact ⟨rfl, HR.out.sh.below⟩
        | true =>
          have e := show planF s t = (castsL s (ofL s t), 0) by unfold planF; rw [if_neg (by simp [Hte.out]), hcb]; rfl
          rw [e] at HpP
          have Hc := Lib.hid hcb
          clear e hcb
          go_upto_region 22 with (go_at_call 24; refine (HpP.out _ (HR.out.sh.given HR.out.tk)).mono ?_; rintro e w4 ⟨A3, n3, rfl, hr, hfr, hb⟩; have HRn := Lib.hid (HR.out.nd.below hb); have HB := Lib.hid (HR.out.sh.below.trans (hb.mono HR.out.sh.below.size)); have HC := Lib.hid hr; have HF := Lib.hid hfr; have HBl := Lib.hid (HR.out.nd.blk); clear hr hb hfr c0 c1 c2)
          have hcl := casts_len Hg.out Hf.out
          have Hca : Hid (∀ n, n < (castsL s (ofL s t)).length → ∃ p d : Nat, (castsL s (ofL s t))[n]? = some ((p : Int), (d : Int)) ∧ p < s.parts.length) := Lib.hid fun n hn => by
            obtain ⟨p, d, h⟩ := casting_at Hg.out Hf.out Hc.out hn
            exact ⟨p, d, h.at_, h.part⟩
          have Hln := Lib.hid (fun k p d h h2 => leftN_next (s := s) (l := ofL s t) (k := k) (p := p) (d := d) h h2)
          have Hle := Lib.hid (fun i hi => leftN_end (i := i) Hg.out Hf.out hi)
          have Hll := Lib.hid (fun k => leftN_len s (ofL s t) k)
          have Hlb : Hid (∀ k i, i < s.parts.length → -2000 ≤ (leftN s (ofL s t) k)[i]?.getD 0 ∧ (leftN s (ofL s t) k)[i]?.getD 0 ≤ 2000) := Lib.hid fun k i hi => by
            rw [leftN_at hi]
            have h1 := byy_bd Hg.out Hf.out hi ((s.hours.length : Int) - 1)
            have h2 : 0 ≤ cntP ((castsL s (ofL s t)).take k) i ∧ cntP ((castsL s (ofL s t)).take k) i ≤ 1350 := by
              unfold cntP
              have := List.length_filter_le (fun x : Int × Int => x.1 == (i : Int)) ((castsL s (ofL s t)).take k)
              rw [List.length_take] at this
              omega
            omega
          rw [← leftN_zero] at HRn
          generalize castsL s (ofL s t) = cs at *
          obtain ⟨bz, hbz⟩ : ∃ bz, bz = wr.heap.size := ⟨_, rfl⟩
          rw [← hbz] at HF HBl
          clear hbz
          go_wp2
          go_loopw [13] (fun kv wq => ∃ k : Nat, k ≤ cs.length ∧ kv = .int .i64 k ∧ Own w1.heap.size 3 wq (.slice A2 s.parts.length n2) (leftN s (ofL s t) k) ∧ Below w1.heap.size w4 wq ∧ (∀ i, bz ≤ i → wq.heap[i]? = w4.heap[i]?)) (fun kv _ => cs.length - (intOf kv).toNat)
          case atStart => exact ⟨0, Nat.zero_le _, rfl, HRn.out, Below.refl _ _, fun _ _ => rfl⟩
          case round =>
            obtain ⟨k, hk, rfl, hown, hbq, hst⟩ := hrel
            have Hown := Lib.hid hown
            have Hbq := Lib.hid hbq
            have Hst := Lib.hid hst
            clear hown hbq hst
            by_cases hkl : k < cs.length
            · obtain ⟨p, d, hpa, hpp⟩ := Hca.out k hkl
              obtain ⟨ac, rfl, _, k0, k1⟩ := (HC.out.keepFrom HF.out Hst.out).cast hkl
              rw [hpa] at k0
              have k0 : wr.cell? (ac.add (k * 2)) = some (.int .i64 p) := k0
              obtain ⟨g, hA2, hg1, hg2, hcell, hfz, hput⟩ := Hown.out.putInt (k := p) (by rw [Hll.out]; exact hpp)
              subst hA2
              have hnx := Hln.out k p d hpa hpp
              have hvb := Hlb.out k p hpp
              have Hput := Lib.hid (hput ((leftN s (ofL s t) k)[p]?.getD 0 - 1))
              have hgl : g < bz := HBl.out g rfl
              rw [hnx] at Hput
              clear k1 hpa hput hnx
              generalize (leftN s (ofL s t) k)[p]?.getD 0 = vp at *
              go_wp2
              go_roundw
              case rel =>
                refine ⟨k + 1, by omega, by go_num, Hput.out, Hbq.out.setCell hg1 _, fun i hi => ?_⟩
                exact (Below.heap_setCell _ _ _ _ (by show i ≠ g; omega)).trans (Hst.out i hi)
              case measure => simp [intOf]; omega
            · have hke : k = cs.length := by omega
              subst hke
              have hbw : Below w.heap.size w wr := HB.out.trans (Hbq.out.mono HS.out.below.size)
              have Hbw := Lib.hid hbw
              have Hrd := Lib.hid Hown.out.rd
              have hpl2 : s.parts.length ≤ 3 := by omega
              clear hbw
              go_wp2
              go_loop [14] (fun kv => ∃ k : Nat, k ≤ s.parts.length ∧ kv = .int .i64 k) (fun kv => s.parts.length - (intOf kv).toNat)
              case atStart => exact ⟨0, Nat.zero_le _, rfl⟩
              case round =>
                obtain ⟨k, hk, rfl⟩ := hrel
                by_cases hkl : k < s.parts.length
                · obtain ⟨an, rfl, _, d0⟩ := Hrd.out.int (i := k) (by rw [Hll.out]; exact hkl)
                  rw [Hle.out k hkl] at d0
                  go_wp2
                  go_round
                  case rel => exact ⟨k + 1, by omega, by go_num⟩
                  case measure => simp [intOf]; omega
                · go_wp2_with (go_at_call 23; refine (awake_any _).mono ?_; rintro e w5 ⟨rfl, hb⟩; have HB := Lib.hid (Hbw.out.trans (hb.mono Hbw.out.size)); clear hb)
                  go_ret
                  exact ⟨rfl, HB.out⟩
  · have Hl := Lib.hid (show neededF s t = ([], errOf s) by unfold neededF; rw [takenErr_shop he, if_pos he])
    have HpN := Lib.hid (fun (W : World) (h : Given W.heap.size W (.agg #[.slice Ah s.hours.length ch, .slice Ap s.parts.length cp, .slice Ao s.orders.length co]) (.slice A1 t.length n1) s t) => pneeded_any h)
    unfold NeededR at HpN
    rw [Hl.out] at HpN
    have heb : (errOf s == 0) = false := by simpa using he
    have hne : (errOf s != 0) = true := by simpa using he
    clear he
    go_wp2_with (first | (go_at_call 20; refine (HpN.out _ (HS.out.given HT.out)).mono ?_; rintro e w2 ⟨A2, n2, rfl, hr, hb⟩; have HS := Lib.hid (HS.out.next hb); obtain ⟨c0, c1, c2⟩ := HS.out.cells; clear hr hb) | (go_at_call 36; refine (valid_any HS.out.shop HS.out.nm HS.out.hB).mono ?_; rintro e w3 ⟨rfl, hb⟩; have HS := Lib.hid (HS.out.next hb); obtain ⟨c0, c1, c2⟩ := HS.out.cells; clear hb) | (go_at_call 23; refine (awake_any _).mono ?_; rintro e w4 ⟨rfl, hb⟩; have HS := Lib.hid (HS.out.next hb); clear hb))
    go_ret
    exact ⟨rfl, HS.out.below⟩
end Go.Proofs.Ytkmaapkbonkjfaa
