/- Plain: what the reference's Read says is what the program's Read says. Walks of the reference of the layer sheet: Text, Write. -/
import Derived.Test.YtajdgdelhlfniaaGreatDoorH36
import Derived.Test.YtajdgdelhlfniaaGreatDoorH33
import Derived.Test.YtajdgdelhlfniaaGreatDoorH34
set_option linter.unusedSimpArgs false
set_option linter.unusedVariables false
namespace Go.Proofs.YtajdgdelhlfniaaGreatDoor

def rowsF (s : ShR) : List (List ByteArray) → Option ShR
  | [] => some s
  | ws :: r => (rowF s ws).bind fun t => rowsF t r
theorem rowsF_append (l m : List (List ByteArray)) (s : ShR) : rowsF s (l ++ m) = (rowsF s l).bind fun t => rowsF t m := by
  induction l generalizing s with
  | nil => rfl
  | cons ws l ih =>
    show (rowF s ws).bind _ = ((rowF s ws).bind _).bind _
    cases rowF s ws with
    | none => rfl
    | some t => exact ih t
def headOf (t : ByteArray) : List ByteArray := cutB (wd (cutB t 10) 0) 32
def midsOf (t : ByteArray) : List (List ByteArray) := (((cutB t 10).drop 1).take ((cutB t 10).length - 2)).map fun x => cutB x 32
def startS (t : ByteArray) : ShR := ⟨signedF (wd (headOf t) 1), [], []⟩
def rreadF (t : ByteArray) : ShR × Int := if 1500 < t.size then (zeroS, 3) else if (headOf t).length ≠ 2 then (zeroS, 6) else endF t (rowsF (startS t) (midsOf t))

/-! ### numbers, there and back -/
theorem digits_head : ∀ (u : Nat), 1 ≤ u → ((Lib.decDigits u).getD 0 0).toNat ≠ 48 := by
  intro u
  induction u using Nat.strongRecOn with
  | ind u ih =>
    intro hu
    by_cases h : u < 10
    · rw [digits_small h]
      show (UInt8.ofNat (48 + u)).toNat ≠ 48
      rw [digit_nat h]
      omega
    · rw [Lib.decDigits, dif_neg h]
      have h1 := ih (u / 10) (by omega) (by omega)
      have h2 := digits_ne (u / 10)
      cases hd : Lib.decDigits (u / 10) with
      | nil => exact absurd hd h2
      | cons c l => rw [hd] at h1; exact h1
theorem digits_val : ∀ (u : Nat), valD (Lib.decDigits u) = u := by
  intro u
  induction u using Nat.strongRecOn with
  | ind u ih =>
    by_cases h : u < 10
    · rw [digits_small h]
      show (10 : Int) * 0 + (((UInt8.ofNat (48 + u)).toNat : Int) - 48) = u
      rw [digit_nat h]
      omega
    · rw [Lib.decDigits, dif_neg h, valD_snoc, ih (u / 10) (by omega), digit_nat (Nat.mod_lt _ (by omega))]
      omega
theorem digits_dig (u : Nat) : (Lib.decDigits u).all isDig = true := by
  rw [List.all_eq_true]
  intro c hc
  have := digits_mem u c hc
  unfold isDig
  simp
  omega
theorem decimal_digits {u : Nat} (h : u ≤ 1000000) : decimalF (toB (Lib.decDigits u)) = u := by
  have hl : (Lib.decDigits u).length ≤ 7 := by rw [Lib.decDigits_length]; exact nDigits_le 6 u (by omega)
  have hp : 1 ≤ (Lib.decDigits u).length := by have := digits_ne u; cases hd : Lib.decDigits u with | nil => exact absurd hd this | cons c l => simp
  unfold decimalF
  rw [toB_size, toB_data, if_neg (by simp [inB]; omega), if_neg ?_, if_pos (digits_dig u), digits_val]
  rintro ⟨h1, h2⟩
  by_cases h0 : u = 0
  · subst h0
    rw [digits_small (by omega)] at h1
    simp at h1
  · exact digits_head u (by omega) h2
theorem signed_it {n : Int} (h : -1000000 ≤ n ∧ n ≤ 1000000) : signedF (itB n) = n := by
  rw [itB_toB]
  by_cases hn : n < 0
  · obtain ⟨k, hk⟩ : ∃ k : Nat, n = -(k : Int) := ⟨n.natAbs, by omega⟩
    have e : Lib.itoa n = 45 :: Lib.decDigits k := by unfold Lib.itoa; rw [if_pos hn, show n.natAbs = k by omega]
    rw [e]
    have hp : 1 ≤ (Lib.decDigits k).length := by have := digits_ne k; cases hd : Lib.decDigits k with | nil => exact absurd hd this | cons c l => simp
    have hx : (toB (45 :: Lib.decDigits k)).extract 1 (toB (45 :: Lib.decDigits k)).size = toB (Lib.decDigits k) := by
      rw [extract_list, toB_data, toB_size, List.take_of_length_le (Nat.le_refl _)]
      rfl
    unfold signedF
    rw [hx, decimal_digits (by omega), if_pos ⟨by rw [toB_size]; simp; omega, by rw [toB_data]; rfl, by omega⟩, hk]
  · obtain ⟨k, hk⟩ : ∃ k : Nat, n = (k : Int) := ⟨n.toNat, by omega⟩
    subst hk
    have e : Lib.itoa (k : Int) = Lib.decDigits k := by unfold Lib.itoa; rw [if_neg hn, Int.toNat_natCast]
    rw [e]
    have h45 : ((Lib.decDigits k).getD 0 0).toNat ≠ 45 := by
      have hne := digits_ne k
      cases hd : Lib.decDigits k with
      | nil => exact absurd hd hne
      | cons c l =>
        have := digits_mem k c (by rw [hd]; simp)
        simp
        omega
    unfold signedF
    rw [if_neg (fun hh => h45 (by have := hh.2.1; rwa [toB_data] at this)), decimal_digits (by omega), if_pos (by omega)]
/-! ### lines, there and back -/
theorem cut_join : ∀ (ws : List (List UInt8)), ws ≠ [] → (∀ w ∈ ws, (32 : UInt8) ∉ w) → cutL 32 (Lib.join ws [32]) = ws
  | [], h, _ => absurd rfl h
  | [x], _, h => by
    have : Lib.join [x] [32] = x := by simp [Lib.join_cons, Lib.joinTail]
    rw [this, cutL_none (h x (by simp))]
  | x :: y :: r, _, h => by
    have e : Lib.join (x :: y :: r) [32] = x ++ 32 :: Lib.join (y :: r) [32] := by simp [Lib.join_cons, Lib.joinTail]
    rw [e, cutL_at (h x (by simp)), cut_join (y :: r) (by simp) (fun w hw => h w (by simp [hw]))]
theorem toB_map (ws : List ByteArray) : (ws.map (·.data.toList)).map toB = ws := by
  rw [List.map_map]
  conv => rhs; rw [← List.map_id ws]
  exact List.map_congr_left fun x _ => toB_list x
def lineOfW (ws : List ByteArray) : List UInt8 := Lib.join (ws.map (·.data.toList)) [32]
theorem cut_line {ws : List ByteArray} (h : ws ≠ []) (hc : ∀ w ∈ ws, Clean w.data.toList) : cutB (toB (lineOfW ws)) 32 = ws := by
  unfold cutB lineOfW
  rw [toB_data, cut_join _ (by simpa using h) (fun w hw => by
    obtain ⟨v, hv, rfl⟩ := List.mem_map.1 hw
    exact fun hm => (hc v hv _ hm).2 rfl), toB_map]
theorem cut_text {s : ShR} (hg : Good s) : cutB (toB (textB s)) 10 = (linesW s).map (fun ws => toB (lineOfW ws)) ++ [toB []] := by
  unfold cutB
  have e : textB s = ((linesW s).map lineOfW).flatMap (· ++ [10]) ++ [] := by
    rw [text_lines, List.flatMap_map, List.append_nil]
    rfl
  rw [toB_data, e, cutL_cat (fun b hb => by
    obtain ⟨ws, hws, rfl⟩ := List.mem_map.1 hb
    exact join_clean fun w hw => by
      obtain ⟨v, hv, rfl⟩ := List.mem_map.1 hw
      exact fun hm => ((linesW_clean hg ws hws).2 v hv _ hm).1 rfl), List.map_append, List.map_map]
  rfl
theorem plc_pt {s : ShR} (hg : Good s) {a : Int} (ha : 0 ≤ a ∧ a < s.pts.length) : plcF s.pts (ptAt s a) = a := by
  obtain ⟨k, rfl⟩ := Int.eq_ofNat_of_zero_le ha.1
  have hk : k < s.pts.length := by omega
  unfold plcF
  refine idxOf_some (fst?_some hk (by simp [ptAt]) fun j hj => ?_)
  have hf := hg.fresh k hk
  rw [List.any_eq_false] at hf
  have hm : s.pts.getD j ByteArray.empty ∈ s.pts.take k := by
    rw [getD_at (by omega)]
    exact List.mem_iff_getElem.2 ⟨j, by rw [List.length_take]; omega, by rw [List.getElem_take]⟩
  have h2 := hf _ hm
  simp only [Bool.not_eq_true] at h2
  rw [List.getD_eq_getElem?_getD, List.getD_eq_getElem?_getD] at h2
  exact h2
theorem row_pt (t : ShR) (p : ByteArray) : rowF t [wPoint, p] = some (addP t p) := by
  unfold rowF
  rw [if_pos ⟨rfl, rfl⟩]
  rfl
theorem rows_pts (l : List ByteArray) (s : ShR) : rowsF s (l.map fun p => [wPoint, p]) = some { s with pts := s.pts ++ l } := by
  induction l generalizing s with
  | nil => simp [rowsF]
  | cons p l ih =>
    rw [List.map_cons]
    unfold rowsF
    rw [row_pt]
    show rowsF (addP s p) _ = _
    rw [ih (addP s p)]
    simp [addP]
theorem row_note {s t : ShR} (hg : Good s) (ht : t.pts = s.pts) {x : NoteR} (hx : NoteOK s.pts.length s.iv x) : rowF t (noteW s x) = some (addN t x) := by
  obtain ⟨⟨h1, h2⟩, h3, h4⟩ := noteOK_int hx hg.iv.1
  have sl := signed_it (n := x.lo) (by omega)
  have sh := signed_it (n := x.hi) (by omega)
  have pa := plc_pt hg hx.a
  have pb := plc_pt hg hx.b
  rw [← ht] at pa pb
  obtain ⟨k, a, b, lo, hi⟩ := x
  simp only at sl sh pa pb
  have hk := hx.kind
  simp only at hk
  rcases (show k = 1 ∨ k = 2 ∨ k = 3 ∨ k = 4 by omega) with rfl | rfl | rfl | rfl
  · have hb := hx.one (.inl rfl)
    simp only at hb
    show rowF t [wSpot, ptAt s a, itB lo, itB hi] = _
    unfold rowF
    rw [if_neg (fun e => absurd e.2 (by simp)), if_neg (by simp), if_pos (by rfl), if_pos (by rfl)]
    show some (addN t ⟨1, plcF t.pts (ptAt s a), 0, signedF (itB lo), signedF (itB hi)⟩) = _
    rw [sl, sh, pa, hb]
  · have hb := hx.one (.inr rfl)
    simp only at hb
    show rowF t [wContour, ptAt s a, itB lo, itB hi] = _
    unfold rowF
    rw [if_neg (fun e => absurd e.2 (by simp)), if_neg (by simp), if_neg (by show ¬ wContour = wSpot; decide), if_pos (by rfl), if_pos (by rfl)]
    show some (addN t ⟨2, plcF t.pts (ptAt s a), 0, signedF (itB lo), signedF (itB hi)⟩) = _
    rw [sl, sh, pa, hb]
  · have hl := hx.lake rfl
    simp only at hl
    show rowF t [wLake, ptAt s a, ptAt s b] = _
    unfold rowF
    rw [if_neg (fun e => absurd e.2 (by simp)), if_neg (by simp), if_neg (by show ¬ wLake = wSpot; decide), if_neg (by show ¬ wLake = wContour; decide), if_pos (by rfl), if_pos (by rfl)]
    show some (addN t ⟨3, plcF t.pts (ptAt s a), plcF t.pts (ptAt s b), 0, 0⟩) = _
    rw [pa, pb, hl.1, hl.2]
  · show rowF t [wSlope, ptAt s a, ptAt s b, itB lo, itB hi] = _
    unfold rowF
    rw [if_neg (fun e => absurd e.2 (by simp)), if_neg (by simp), if_neg (by show ¬ wSlope = wSpot; decide), if_neg (by show ¬ wSlope = wContour; decide), if_neg (by show ¬ wSlope = wLake; decide), if_pos (by rfl), if_pos (by rfl)]
    show some (addN t ⟨4, plcF t.pts (ptAt s a), plcF t.pts (ptAt s b), signedF (itB lo), signedF (itB hi)⟩) = _
    rw [sl, sh, pa, pb]
theorem rows_notes {s : ShR} (hg : Good s) : ∀ (l : List NoteR) (t : ShR), (∀ x ∈ l, x ∈ s.notes) → t.pts = s.pts → rowsF t (l.map (noteW s)) = some { t with notes := t.notes ++ l } := by
  intro l
  induction l with
  | nil => intro t _ _; simp [rowsF]
  | cons x l ih =>
    intro t hl ht
    rw [List.map_cons]
    unfold rowsF
    rw [row_note hg ht (hg.notes x (hl x (by simp)))]
    show rowsF (addN t x) _ = _
    rw [ih (addN t x) (fun y hy => hl y (by simp [hy])) ht]
    simp [addN]
theorem rread_text {s : ShR} (hg : Good s) : rreadF (toB (textB s)) = (s, 0) := by
  have hsz : (toB (textB s)).size = (textB s).length := toB_size _
  have hsm := text_small hg
  have hcl := linesW_clean hg
  have hh : headOf (toB (textB s)) = [wSheet, itB s.iv] := by
    unfold headOf
    rw [cut_text hg]
    show cutB (toB (lineOfW [wSheet, itB s.iv])) 32 = _
    have := hcl [wSheet, itB s.iv] (by unfold linesW; simp)
    exact cut_line this.1 this.2
  have hm : midsOf (toB (textB s)) = s.pts.map (fun p => [wPoint, p]) ++ s.notes.map (noteW s) := by
    unfold midsOf
    rw [cut_text hg]
    have e : linesW s = [wSheet, itB s.iv] :: (s.pts.map (fun p => [wPoint, p]) ++ s.notes.map (noteW s)) := rfl
    generalize hr : s.pts.map (fun p => [wPoint, p]) ++ s.notes.map (noteW s) = r at *
    rw [e, List.map_cons, List.cons_append, List.drop_succ_cons, List.drop_zero]
    have hlen : ((toB (lineOfW [wSheet, itB s.iv])) :: (r.map (fun ws => toB (lineOfW ws)) ++ [toB []])).length - 2 = (r.map (fun ws => toB (lineOfW ws))).length := by simp
    rw [hlen, List.take_left, List.map_map]
    conv => rhs; rw [← List.map_id r]
    refine List.map_congr_left fun ws hws => ?_
    have := hcl ws (by rw [e]; simp [hws])
    exact cut_line this.1 this.2
  unfold rreadF
  rw [if_neg (by omega), hh, if_neg (by simp), hm]
  have hs : startS (toB (textB s)) = ⟨s.iv, [], []⟩ := by
    unfold startS
    rw [hh]
    show (⟨signedF (itB s.iv), [], []⟩ : ShR) = _
    rw [signed_it (by have := hg.iv; omega)]
  rw [hs, rowsF_append, rows_pts]
  show endF _ (rowsF ⟨s.iv, [] ++ s.pts, []⟩ _) = _
  rw [List.nil_append, rows_notes hg s.notes ⟨s.iv, s.pts, []⟩ (fun _ h => h) rfl]
  unfold endF
  simp only [List.nil_append]
  rw [if_pos ⟨errOf_good hg, by trivial⟩]
theorem endF_two (t : ByteArray) (o : Option ShR) : endF t o = (zeroS, 6) ∨ ∃ s, o = some s ∧ Good s ∧ toB (textB s) = t ∧ endF t o = (s, 0) := by
  cases o with
  | none => exact .inl rfl
  | some s =>
    unfold endF
    simp only
    by_cases h : errOf s = 0 ∧ (⟨(textB s).toArray⟩ : ByteArray) = t
    · exact .inr ⟨s, rfl, good_of_valid h.1, h.2, if_pos h⟩
    · exact .inl (if_neg h)
/-- THE LAW -/
theorem rread_eq (t : ByteArray) : rreadF t = readF t := by
  by_cases hs : 1500 < t.size
  · unfold rreadF readF
    rw [if_pos hs, if_pos hs]
  · have hr : readF t = endF t (takesF zeroS ((linesOf t).map wordsOf)) := by unfold readF; rw [if_neg hs]
    rcases endF_two t (takesF zeroS ((linesOf t).map wordsOf)) with h | ⟨s, _, hg, ht, h⟩
    · rw [hr, h]
      unfold rreadF
      rw [if_neg hs]
      split
      · rfl
      · rcases endF_two t (rowsF (startS t) (midsOf t)) with h2 | ⟨s, _, hg, ht, h2⟩
        · exact h2
        · have := read_text hg
          rw [show (⟨(textB s).toArray⟩ : ByteArray) = t from ht, hr, h] at this
          cases this
    · rw [hr, h, ← ht]
      exact rread_text hg
end Go.Proofs.YtajdgdelhlfniaaGreatDoor
namespace Go.Proofs.YtajdgdelhlfniaaGreatDoor
open Go.RowKit

theorem cat_data (a b : ByteArray) : (a ++ b).data.toList = a.data.toList ++ b.data.toList := by simp
theorem join2 (a b : List UInt8) : Lib.join [a, b] [32] = a ++ 32 :: b := by simp [Lib.join_cons, Lib.joinTail]
theorem lineW2 (a b : ByteArray) : lineW [a, b] = a.data.toList ++ 32 :: (b.data.toList ++ [10]) := by simp [lineW, lineB, Lib.join_cons, Lib.joinTail]
theorem lineW3 (a b c : ByteArray) : lineW [a, b, c] = a.data.toList ++ 32 :: (b.data.toList ++ 32 :: (c.data.toList ++ [10])) := by simp [lineW, lineB, Lib.join_cons, Lib.joinTail]
theorem lineW4 (a b c d : ByteArray) : lineW [a, b, c, d] = a.data.toList ++ 32 :: (b.data.toList ++ 32 :: (c.data.toList ++ 32 :: (d.data.toList ++ [10]))) := by simp [lineW, lineB, Lib.join_cons, Lib.joinTail]
theorem lineW5 (a b c d e : ByteArray) : lineW [a, b, c, d, e] = a.data.toList ++ 32 :: (b.data.toList ++ 32 :: (c.data.toList ++ 32 :: (d.data.toList ++ 32 :: (e.data.toList ++ [10])))) := by simp [lineW, lineB, Lib.join_cons, Lib.joinTail]
theorem itB_small {n : Int} (h : -1000000 ≤ n ∧ n ≤ 1000000) : (itB n).size ≤ 21 := by
  have := itB_len (n := n) (by omega) (by omega)
  rwa [show (itB n).data.toList.length = (itB n).size by simp] at this

set_option maxRecDepth 100000 in
set_option maxHeartbeats 4000000 in
theorem rtext_any {B : Nat} {w : World} {v : Value} {s : ShR} (hs : RdSh B w v s) (hg : Good s) (hB : B ≤ w.heap.size) :
    Calls Tryz.prog 79 #[v] w fun e w' => e = .returned (.string (toB (textB s))) ∧ Below w.heap.size w w' := by
  obtain ⟨vp, vn, rfl, hp, ho⟩ := id hs
  obtain ⟨Ap, cp, rfl, _⟩ := id hp
  obtain ⟨An, cn, rfl, _⟩ := id ho
  obtain ⟨W1, hW1, r1, z1, b1⟩ := box_any w #[.int .i64 s.iv, .slice Ap s.pts.length cp, .slice An s.notes.length cn] 25
  have HC : Hid (∀ Z : World, Below W1.heap.size W1 Z → Z.cell? ⟨w.heap.size, 0, none⟩ = some (.int .i64 s.iv) ∧ Z.cell? ⟨w.heap.size, 1, none⟩ = some (.slice Ap s.pts.length cp) ∧ Z.cell? ⟨w.heap.size, 2, none⟩ = some (.slice An s.notes.length cn) ∧ Below w.heap.size w Z) :=
    Lib.hid fun Z h => by
      have j1 := (h.block _ (lt_of_block r1)).trans r1
      exact ⟨cellOf j1 0 rfl, cellOf j1 1 rfl, cellOf j1 2 rfl, b1.trans (h.mono b1.size)⟩
  have HP := Lib.hid (fun (X : World) (hb : Below w.heap.size w X) => hp.below (hb.mono hB))
  have HN := Lib.hid (fun (X : World) (hb : Below w.heap.size w X) => ho.below (hb.mono hB))
  have hbx : Below W1.heap.size W1 W1 := Below.refl _ _
  obtain ⟨C0, C1, C2, hb⟩ := HC.out _ hbx
  have HGd := Lib.hid hg
  have hiv := hg.iv
  have HD := Lib.hid (fun (n : Int) (hn : -1000000 ≤ n ∧ n ≤ 1000000) (Z : World) => digits_any n (by omega) Z)
  have HD1 := Lib.hid (HD.out s.iv (by omega))
  have hsz := itB_small (n := s.iv) (by omega)
  have k1 : ¬ 9223372036854775807 < 6 + (itB s.iv).size := by omega
  have k2 : ¬ 9223372036854775807 < 6 + (itB s.iv).size + 1 := by omega
  clear hs hp ho r1 z1 b1 hg
  go_enter Tryz.func79, Tryz.ntmps79
  go_upto_region 1 with (fail)
  rw [← hW1]
  clear hW1
  go_upto_region 2 with (go_at_call 107; (with_reducible refine Calls.mono (HD1.out _) ?_); rintro e X ⟨rfl, h4⟩; replace hbx := hbx.trans (h4.mono hbx.size); clear C0 C1 C2 hb h4; obtain ⟨C0, C1, C2, hb⟩ := HC.out _ hbx)
  obtain ⟨t0, ht0⟩ : ∃ t0 : ByteArray, (⟨#[115, 104, 101, 101, 116, 32]⟩ : ByteArray) ++ itB s.iv ++ ⟨#[10]⟩ = t0 := ⟨_, rfl⟩
  rw [ht0]
  have HT0 := Lib.hid (show t0 = toB (headB s) by
    rw [← ht0]
    apply toList_inj
    rw [toB_data]
    unfold headB
    rw [lineW2, cat_data, cat_data]
    simp [wSheet])
  clear ht0 k1 k2 hsz
  go_wp2
  clear C0 C1 C2 hb
  go_loopw [3, 4] (fun lv i wr => ∃ (k : Nat) (t : ByteArray), k ≤ s.pts.length ∧ i = .int .i64 k ∧ lv = .string t ∧ t = toB (headB s ++ ptsB (s.pts.take k)) ∧ Below W1.heap.size W1 wr) (fun _ i _ => s.pts.length - (intOf i).toNat)
  case atStart => exact ⟨0, t0, Nat.zero_le _, rfl, rfl, by rw [HT0.out]; simp [ptsB], hbx⟩
  case round =>
    clear hbx
    obtain ⟨k, t, hk, rfl, rfl, ht, hbx⟩ := hrel
    obtain ⟨C0, C1, C2, hb⟩ := HC.out _ hbx
    have HT := Lib.hid ht
    have hts : t.size ≤ 2000 := by
      rw [ht, toB_size, List.length_append]
      have h1 := headB_len HGd.out
      have h2 := ptsB_len HGd.out (l := s.pts.take k) (fun p hp => List.mem_of_mem_take hp)
      have := HGd.out.plen
      rw [List.length_take] at h2
      omega
    clear ht
    by_cases hlt : k < s.pts.length
    · obtain ⟨ad, rfl, _, hc⟩ := (HP.out _ hb).str hlt
      have HSn := Lib.hid (ptsB_snoc hlt)
      have hps : (s.pts[k]?.getD ByteArray.empty).size ≤ 21 := by
        have := name_len (HGd.out.names (s.pts[k]?.getD ByteArray.empty) (by rw [List.getElem?_eq_getElem hlt]; exact List.getElem_mem hlt))
        simpa using this
      generalize s.pts[k]?.getD ByteArray.empty = p at *
      have k1 : ¬ 9223372036854775807 < t.size + 6 := by omega
      have k2 : ¬ 9223372036854775807 < t.size + 6 + p.size := by omega
      have k3 : ¬ 9223372036854775807 < t.size + 6 + p.size + 1 := by omega
      go_upto_region 4 with (fail)
      obtain ⟨t', ht'⟩ : ∃ t' : ByteArray, t ++ (⟨#[112, 111, 105, 110, 116, 32]⟩ : ByteArray) ++ p ++ ⟨#[10]⟩ = t' := ⟨_, rfl⟩
      rw [ht']
      have HT' := Lib.hid (show t' = toB (headB s ++ ptsB (s.pts.take (k + 1))) by
        rw [← ht', HSn.out, ← List.append_assoc, ← toB_append, ← HT.out, lineW2]
        apply toList_inj
        rw [cat_data, cat_data, cat_data, cat_data, toB_data]
        simp [wPoint])
      clear ht' k1 k2 k3 hps hts
      go_wp2
      go_roundw
      case rel => exact ⟨k + 1, t', by omega, by go_num, rfl, HT'.out, hbx⟩
      case measure => simp [intOf]; omega
    · have hkn : k = s.pts.length := by omega
      have HT1 := Lib.hid (show t = toB (headB s ++ ptsB s.pts) by rw [HT.out, hkn, List.take_length])
      clear hkn hts
      go_wp2
      clear C0 C1 C2 hb
      go_loopw [3, 5] (fun lv i wr => ∃ (k : Nat) (t : ByteArray), k ≤ s.notes.length ∧ i = .int .i64 k ∧ lv = .string t ∧ t = toB (headB s ++ ptsB s.pts ++ notesB s (s.notes.take k)) ∧ Below W1.heap.size W1 wr) (fun _ i _ => s.notes.length - (intOf i).toNat)
      case atStart => exact ⟨0, t, Nat.zero_le _, rfl, rfl, by rw [HT1.out]; simp [notesB], hbx⟩
      case round =>
        clear hbx HT HT1
        obtain ⟨k, t, hk, rfl, rfl, ht, hbx⟩ := hrel
        obtain ⟨C0, C1, C2, hb⟩ := HC.out _ hbx
        have HT := Lib.hid ht
        have hts : t.size ≤ 5000 := by
          rw [ht, toB_size, List.length_append, List.length_append]
          have h1 := headB_len HGd.out
          have h2 := ptsB_len HGd.out (l := s.pts) (fun p hp => hp)
          have h3 := notesB_len HGd.out (l := s.notes.take k) (fun p hp => List.mem_of_mem_take hp)
          have := HGd.out.plen
          have := HGd.out.nlen
          rw [List.length_take] at h3
          omega
        clear ht
        by_cases hlt : k < s.notes.length
        · obtain ⟨an, rfl, _, hat⟩ := (HN.out _ hb).note hlt
          have HSn := Lib.hid (notesB_snoc (s := s) hlt)
          have hok := HGd.out.notes (s.notes[k]?.getD default) (by rw [List.getElem?_eq_getElem hlt]; exact List.getElem_mem hlt)
          have hin := noteOK_int hok HGd.out.iv.1
          generalize s.notes[k]?.getD default = x at *
          obtain ⟨x0, x1, x2, x3, x4⟩ := x
          obtain ⟨a0, a1, a2, a3, a4⟩ := hat
          simp only at a0 a1 a2 a3 a4 hin
          have hkd := hok.kind
          have hxa := hok.a
          have hxb := hok.b
          simp only at hkd hxa hxb
          obtain ⟨a, hae⟩ : ∃ a : Nat, x1 = a := ⟨x1.toNat, by omega⟩
          obtain ⟨b, hbe⟩ : ∃ b : Nat, x2 = b := ⟨x2.toNat, by omega⟩
          subst hae hbe
          have ha : a < s.pts.length := by omega
          have hbl : b < s.pts.length := by omega
          obtain ⟨ap, rfl, _, ca⟩ := (HP.out _ hb).str ha
          obtain ⟨ap', hap, _, cb⟩ := (HP.out _ hb).str hbl
          obtain rfl : ap = ap' := Option.some.inj hap
          clear hap
          have pa : s.pts[a]?.getD ByteArray.empty = ptAt s (a : Int) := rfl
          have pb : s.pts[b]?.getD ByteArray.empty = ptAt s (b : Int) := rfl
          rw [pa] at ca
          rw [pb] at cb
          have hpa := ptAt_len HGd.out (a : Int)
          have hpb := ptAt_len HGd.out (b : Int)
          have hsl := itB_small (n := x3) (by omega)
          have hsh := itB_small (n := x4) (by omega)
          have HDl := Lib.hid (HD.out x3 (by omega))
          have HDh := Lib.hid (HD.out x4 (by omega))
          rw [show (ptAt s (a : Int)).data.toList.length = (ptAt s (a : Int)).size by simp] at hpa
          rw [show (ptAt s (b : Int)).data.toList.length = (ptAt s (b : Int)).size by simp] at hpb
          have HNw := Lib.hid (show ∀ P : List ByteArray → Prop, _ → P (noteW s ⟨x0, a, b, x3, x4⟩) from fun P h => (show noteW s ⟨x0, a, b, x3, x4⟩ = _ from rfl) ▸ h)
          clear HNw pa pb hok
          have HCa := Lib.hid ca
          have HCb := Lib.hid cb
          have HCp := Lib.hid C1
          have Hap := Lib.hid (show ap.block < wr.heap.size from by have := cell_lt ca; rwa [block_add] at this)
          clear ca cb
          go_upto_region 10 with (refine wpList_store_row rfl 69 (.tmp 6) (.tmp 40) rfl wr.heap.size #[.int .i64 x0, .int .i64 a, .int .i64 b, .int .i64 x3, .int .i64 x4] rfl rfl 69 _ (heap_alloc_new _ _) (by kernel_rfl) rfl (by simp [Value.oneCell']) ?_)
          obtain ⟨V, hV⟩ : ∃ V, V = (wr.alloc (.cells #[.int .i64 0, .int .i64 0, .int .i64 0, .int .i64 0, .int .i64 0] 69)).setRow wr.heap.size #[.int .i64 x0, .int .i64 a, .int .i64 b, .int .i64 x3, .int .i64 x4] := ⟨_, rfl⟩
          rw [← hV]
          have yV : Below wr.heap.size wr V := by rw [hV]; exact ((Below.refl _ _).alloc (Nat.le_refl _) _).trans (setRow_below _ (Nat.le_refl _))
          have rV : V.heap[wr.heap.size]? = some (.cells #[.int .i64 x0, .int .i64 a, .int .i64 b, .int .i64 x3, .int .i64 x4] 69) := by rw [hV]; exact setRow_heap _ _ _ _ _ _ (heap_alloc_new _ _)
          clear hV
          have YV := Lib.hid yV
          have RV := Lib.hid rV
          have e3 := Aft.cell (cellOf rV 3 (v := .int .i64 x3) rfl)
          have e4 := Aft.cell (cellOf rV 4 (v := .int .i64 x4) rfl)
          have k1 : ¬ 9223372036854775807 < 1 + (itB x3).size := by omega
          have k2 : ¬ 9223372036854775807 < 1 + (itB x3).size + 1 := by omega
          have k3 : ¬ 9223372036854775807 < 1 + (itB x3).size + 1 + (itB x4).size := by omega
          have k4 : ¬ 9223372036854775807 < 1 + (itB x3).size + 1 + (itB x4).size + 1 := by omega
          clear yV rV C0 C1 C2 a0 a1 a2 a3 a4
          refine wp_region_aft (by kernel_rfl) (by kernel_rfl) ?_
          repeat (first | go_big_quiet_step ((go_at_call 107; first | (with_reducible exact Aft.call (HDl.out _)) | (with_reducible exact Aft.call (HDh.out _)))) | quiet_step ((go_at_call 107; first | (with_reducible exact Aft.call (HDl.out _)) | (with_reducible exact Aft.call (HDh.out _)))))
          refine wpQuiet_nil ?_
          rintro _ ⟨⟨wx, hbv⟩, rfl⟩
          clear e3 e4 k1 k2 k3 k4
          obtain ⟨en, hen⟩ : ∃ en : ByteArray, (⟨#[32]⟩ : ByteArray) ++ itB x3 ++ ⟨#[32]⟩ ++ itB x4 ++ ⟨#[10]⟩ = en := ⟨_, rfl⟩
          rw [hen]
          have HEn := Lib.hid (show en.data.toList = 32 :: ((itB x3).data.toList ++ 32 :: ((itB x4).data.toList ++ [10])) by rw [← hen, cat_data, cat_data, cat_data, cat_data]; simp)
          have hes : en.size ≤ 45 := by
            have h1 : en.data.toList.length = en.size := by simp
            have h2 : (itB x3).data.toList.length = (itB x3).size := by simp
            have h3 : (itB x4).data.toList.length = (itB x4).size := by simp
            rw [← h1, HEn.out]
            simp only [List.length_cons, List.length_append, List.length_nil]
            omega
          clear hen
          have yx := YV.out.trans (hbv.mono YV.out.size)
          have rx := (hbv.block _ (lt_of_block RV.out)).trans RV.out
          have hbw := hbx.trans (yx.mono hbx.size)
          have HBw := Lib.hid hbw
          have c1 := (yx.cell (cell_lt HCp.out)).trans HCp.out
          have ca := (yx.cell (cell_lt HCa.out)).trans HCa.out
          have cb := (yx.cell (cell_lt HCb.out)).trans HCb.out
          have g0 := cellOf rx 0 (v := .int .i64 x0) rfl
          have g1 := cellOf rx 1 (v := .int .i64 a) rfl
          have g2 := cellOf rx 2 (v := .int .i64 b) rfl
          have hpt := HT.out
          clear yx rx hbv hb hbx hpt
          rcases (show x0 = 1 ∨ x0 = 2 ∨ x0 = 3 ∨ x0 = 4 by omega) with h0 | h0 | h0 | h0
          · subst h0
            have HW := Lib.hid (show noteW s ⟨1, a, b, x3, x4⟩ = [wSpot, ptAt s a, itB x3, itB x4] from rfl)
            generalize ptAt s (a : Int) = pa at *
            generalize ptAt s (b : Int) = pb at *
            have m0 : ¬ 9223372036854775807 < t.size + 5 := by omega
            have m1 : ¬ 9223372036854775807 < t.size + 5 + pa.size := by omega
            have m2 : ¬ 9223372036854775807 < t.size + 5 + pa.size + en.size := by omega
            go_upto_region 8 with (fail)
            obtain ⟨t', ht'⟩ : ∃ t' : ByteArray, t ++ (⟨#[115, 112, 111, 116, 32]⟩ : ByteArray) ++ pa ++ en = t' := ⟨_, rfl⟩
            rw [ht']
            have HT' := Lib.hid (show t' = toB (headB s ++ ptsB s.pts ++ notesB s (s.notes.take (k + 1))) by
              rw [← ht', HSn.out, ← List.append_assoc, ← toB_append, ← HT.out, HW.out, lineW4]
              apply toList_inj
              simp only [cat_data, toB_data, HEn.out]
              simp [wSpot])
            clear ht' m0 m1 m2
            go_wp2
            go_roundw
            case rel => exact ⟨k + 1, t', by omega, by go_num, rfl, HT'.out, HBw.out⟩
            case measure => simp [intOf]; omega
          · subst h0
            have HW := Lib.hid (show noteW s ⟨2, a, b, x3, x4⟩ = [wContour, ptAt s a, itB x3, itB x4] from rfl)
            generalize ptAt s (a : Int) = pa at *
            generalize ptAt s (b : Int) = pb at *
            have m0 : ¬ 9223372036854775807 < t.size + 8 := by omega
            have m1 : ¬ 9223372036854775807 < t.size + 8 + pa.size := by omega
            have m2 : ¬ 9223372036854775807 < t.size + 8 + pa.size + en.size := by omega
            go_upto_region 8 with (fail)
            obtain ⟨t', ht'⟩ : ∃ t' : ByteArray, t ++ (⟨#[99, 111, 110, 116, 111, 117, 114, 32]⟩ : ByteArray) ++ pa ++ en = t' := ⟨_, rfl⟩
            rw [ht']
            have HT' := Lib.hid (show t' = toB (headB s ++ ptsB s.pts ++ notesB s (s.notes.take (k + 1))) by
              rw [← ht', HSn.out, ← List.append_assoc, ← toB_append, ← HT.out, HW.out, lineW4]
              apply toList_inj
              simp only [cat_data, toB_data, HEn.out]
              simp [wContour])
            clear ht' m0 m1 m2
            go_wp2
            go_roundw
            case rel => exact ⟨k + 1, t', by omega, by go_num, rfl, HT'.out, HBw.out⟩
            case measure => simp [intOf]; omega
          · subst h0
            have HW := Lib.hid (show noteW s ⟨3, a, b, x3, x4⟩ = [wLake, ptAt s a, ptAt s b] from rfl)
            generalize ptAt s (a : Int) = pa at *
            generalize ptAt s (b : Int) = pb at *
            have m0 : ¬ 9223372036854775807 < t.size + 5 := by omega
            have m1 : ¬ 9223372036854775807 < t.size + 5 + pa.size := by omega
            have m2 : ¬ 9223372036854775807 < t.size + 5 + pa.size + 1 := by omega
            have m3 : ¬ 9223372036854775807 < t.size + 5 + pa.size + 1 + pb.size := by omega
            have m4 : ¬ 9223372036854775807 < t.size + 5 + pa.size + 1 + pb.size + 1 := by omega
            go_upto_region 17 with (fail)
            have f0 := Aft.cell c1
            have f1 := Aft.cell ca
            have f2 := Aft.cell cb
            have f3 := Aft.cell g1
            have f4 := Aft.cell g2
            clear c1 ca cb g0 g1 g2
            refine wp_region_aft (by kernel_rfl) (by kernel_rfl) ?_
            repeat (first | go_big_quiet_step (fail) | quiet_step (fail))
            refine wpQuiet_nil ?_
            rintro _ ⟨⟨wy, hby⟩, rfl⟩
            clear f0 f1 f2 f3 f4
            have HBw := Lib.hid (HBw.out.trans (hby.mono HBw.out.size))
            obtain ⟨t', ht'⟩ : ∃ t' : ByteArray, t ++ (⟨#[108, 97, 107, 101, 32]⟩ : ByteArray) ++ pa ++ ⟨#[32]⟩ ++ pb ++ ⟨#[10]⟩ = t' := ⟨_, rfl⟩
            rw [ht']
            have HT' := Lib.hid (show t' = toB (headB s ++ ptsB s.pts ++ notesB s (s.notes.take (k + 1))) by
              rw [← ht', HSn.out, ← List.append_assoc, ← toB_append, ← HT.out, HW.out, lineW3]
              apply toList_inj
              simp only [cat_data, toB_data]
              simp [wLake])
            clear ht' m0 m1 m2 m3 m4
            go_wp2
            go_roundw
            case rel => exact ⟨k + 1, t', by omega, by go_num, rfl, HT'.out, HBw.out⟩
            case measure => simp [intOf]; omega
          · subst h0
            have HW := Lib.hid (show noteW s ⟨4, a, b, x3, x4⟩ = [wSlope, ptAt s a, ptAt s b, itB x3, itB x4] from rfl)
            generalize ptAt s (a : Int) = pa at *
            generalize ptAt s (b : Int) = pb at *
            have m0 : ¬ 9223372036854775807 < t.size + 6 := by omega
            have m1 : ¬ 9223372036854775807 < t.size + 6 + pa.size := by omega
            have m2 : ¬ 9223372036854775807 < t.size + 6 + pa.size + 1 := by omega
            have m3 : ¬ 9223372036854775807 < t.size + 6 + pa.size + 1 + pb.size := by omega
            have m4 : ¬ 9223372036854775807 < t.size + 6 + pa.size + 1 + pb.size + en.size := by omega
            go_upto_region 19 with (fail)
            have f0 := Aft.cell c1
            have f1 := Aft.cell ca
            have f2 := Aft.cell cb
            have f3 := Aft.cell g1
            have f4 := Aft.cell g2
            clear c1 ca cb g0 g1 g2
            refine wp_region_aft (by kernel_rfl) (by kernel_rfl) ?_
            repeat (first | go_big_quiet_step (fail) | quiet_step (fail))
            refine wpQuiet_nil ?_
            rintro _ ⟨⟨wy, hby⟩, rfl⟩
            clear f0 f1 f2 f3 f4
            have HBw := Lib.hid (HBw.out.trans (hby.mono HBw.out.size))
            obtain ⟨t', ht'⟩ : ∃ t' : ByteArray, t ++ (⟨#[115, 108, 111, 112, 101, 32]⟩ : ByteArray) ++ pa ++ ⟨#[32]⟩ ++ pb ++ en = t' := ⟨_, rfl⟩
            rw [ht']
            have HT' := Lib.hid (show t' = toB (headB s ++ ptsB s.pts ++ notesB s (s.notes.take (k + 1))) by
              rw [← ht', HSn.out, ← List.append_assoc, ← toB_append, ← HT.out, HW.out, lineW5]
              apply toList_inj
              simp only [cat_data, toB_data, HEn.out]
              simp [wSlope])
            clear ht' m0 m1 m2 m3 m4
            go_wp2
            go_roundw
            case rel => exact ⟨k + 1, t', by omega, by go_num, rfl, HT'.out, HBw.out⟩
            case measure => simp [intOf]; omega
        · have hke : k = s.notes.length := by omega
          have HF := Lib.hid (show t = toB (textB s) by rw [HT.out, hke, List.take_length]; rfl)
          clear hke hts
          go_wp2
          go_ret
          exact ⟨by rw [← HF.out]; rfl, hb⟩
end Go.Proofs.YtajdgdelhlfniaaGreatDoor
