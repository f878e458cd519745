/- Parts of the proof of TpP: Append, RvP. -/
import Derived.Test.YthnimhnlnddnoaaGreatDoorH2
import Derived.Maps.AppendAt
import Derived.OwnWalk
import Derived.OwnWalkIn
set_option linter.unusedSimpArgs false
set_option linter.unusedVariables false
set_option maxRecDepth 100000
set_option maxHeartbeats 8000000
namespace Go.Proofs.YthnimhnlnddnoaaGreatDoor
open Go.RowKit
section
variable {α : Type} {At : World → Addr → α → Prop} {sz : Nat} [E : Enc α At sz]
theorem Own.form {base : Nat} {e : TypeId} {w : World} {v : Value} {xs : List α} (h : Own base e w v xs) : ∃ A c, v = .slice A xs.length c ∧ xs.length ≤ c ∧ c ≤ 9223372036854775807 := by
 rcases id h with ⟨hl, ⟨rfl, h0⟩ | ⟨g, cap, cur, rfl, hb, hh, hn, hc, hsz, hx⟩⟩
 ·exact ⟨none, 0, by rw [h0], by omega, by omega⟩
 ·exact ⟨_, cap, rfl, hn, hc⟩
theorem Own.grown {base : Nat} {e : TypeId} {w : World} {v : Value} {xs : List α} (h : Own base e w v xs) {W w' : World} (hg : W.grownBy w' v.ownBlock) : Below base W w' ∨ base > W.heap.size := by
 by_cases hb : base ≤ W.heap.size
 ·refine .inl ⟨hg.os, hg.tape, hg.output, hg.size, fun k hk => hg.block k (by omega) fun e2 => ?_⟩
  rcases h with ⟨_, ⟨rfl, _⟩ | ⟨g, cap, cur, rfl, hbb, _⟩⟩
  ·cases e2
  ·simp only [Value.ownBlock, Option.some.injEq] at e2
   omega
 ·exact .inr (by omega)
theorem append_full {P : Program} {base : Nat} {t ty e : TypeId} {bytes : Nat} (ht : P.underlying t = some (.slice e)) (hinfo : (P.info? e).map (fun i => (i.size, i.bytes, i.zero.map (·.cells.size))) = some (sz, bytes, some sz)) (hsz : 0 < sz) (hb1 : bytes ≤ 1000) (h1 : ∀ x, ∀ u ∈ E.enc x, u.oneCell' = true)
  {w : World} {v : Value} {xs : List α} (h : Own base e w v xs) (x : α) (hn : xs.length ≤ 100000) (hbase : base ≤ w.heap.size) {cs : Array Value} (hcs : cs = (E.enc x).toArray) :
  ∃ A c w', (Builtin.append_ #[t, t] ty #[v, .slice (some ⟨w.heap.size, 0, none⟩) 1 1]).run P (w.alloc (.cells cs e)) = .ok (.slice A (xs.length + 1) c) w' ∧ Own base e w' (.slice A (xs.length + 1) c) (xs ++ [x]) ∧
   Below base w w' ∧ base ≤ w'.heap.size ∧ xs.length + 1 ≤ c ∧ c ≤ 9223372036854775807 ∧ w.heap.size < w'.heap.size ∧
   (∀ (b : Nat) (o : Obj), w.heap[b]? = some o → (∀ c f, o ≠ .cells c e f) → w'.heap[b]? = some o) := by
 subst hcs
 obtain ⟨i, hi, hi2⟩ := Option.map_eq_some_iff.1 hinfo
 simp only [Prod.mk.injEq] at hi2
 obtain ⟨hsize, hby, hz0⟩ := hi2
 obtain ⟨z, hz, hzs⟩ := Option.map_eq_some_iff.1 hz0
 have hown : Own base e (w.alloc (.cells (E.enc x).toArray e)) v xs := h.alloc _
 have hl := E.len x
 have hlen : (xs.length + 1) * bytes ≤ 100001 * 1000 := Nat.mul_le_mul (by omega) hb1
 obtain ⟨v', w', hrun, h2, h3, _, _⟩ := run_append_own_at (P := P) (w.alloc (.cells (E.enc x).toArray e)) base t ty e i z sz bytes ht hi hz hsize hby hzs hsz v xs.length (xs.flatMap E.enc) hown
  ⟨w.heap.size, 0, none⟩ 1 1 (E.enc x) (by rw [hl]; omega)
  (fun j u hu => by
   have hadd : (⟨w.heap.size, 0, none⟩ : Addr).add j = ⟨w.heap.size, j, none⟩ := by unfold Addr.add; split <;> simp_all
   rw [hadd]
   exact (cell_of_row _ _ j _ _ _ (heap_alloc_new w _)).trans (by simpa using hu))
  (h1 x) (by unfold maxLen; omega) (by omega) (by simp; omega)
 have h4 : Own base e w' v' (xs ++ [x]) := Own.of_append (n := xs.length + 1) (by simp) (by simpa using h2)
 obtain ⟨A, c, rfl, hc1, hc2⟩ := h4.form
 rw [List.length_append, List.length_singleton] at hrun h4 hc1
 have hb2 := (hown.grown h3).resolve_right (by simp; omega)
 have hb : Below base w w' := ((Below.refl base w).alloc hbase _).trans hb2
 refine ⟨A, c, w', hrun, h4, hb, Nat.le_trans hbase hb.size, hc1, hc2, Nat.lt_of_lt_of_le (by simp) h3.size, fun b o hbo hne => ?_⟩
 have hbo' : (w.alloc (.cells (E.enc x).toArray e)).heap[b]? = some o := (Below.heap_alloc w _ b (lt_of_block hbo)).trans hbo
 refine (h3.block b (lt_of_block hbo') fun e2 => ?_).trans hbo'
 rcases hown with ⟨_, ⟨rfl, _⟩ | ⟨g, cap, cur, rfl, _, hg, _⟩⟩
 ·cases e2
 ·simp only [Value.ownBlock, Option.some.injEq] at e2
  subst e2
  rw [hbo'] at hg
  cases hg
  exact hne _ _ rfl
theorem append_one {P : Program} {base : Nat} {t ty e : TypeId} {bytes : Nat} (ht : P.underlying t = some (.slice e)) (hinfo : (P.info? e).map (fun i => (i.size, i.bytes, i.zero.map (·.cells.size))) = some (sz, bytes, some sz)) (hsz : 0 < sz) (hb1 : bytes ≤ 1000) (h1 : ∀ x, ∀ u ∈ E.enc x, u.oneCell' = true)
  {w : World} {v : Value} {xs : List α} (h : Own base e w v xs) (x : α) (hn : xs.length ≤ 100000) (hbase : base ≤ w.heap.size) {cs : Array Value} (hcs : cs = (E.enc x).toArray) :
  ∃ A c w', (Builtin.append_ #[t, t] ty #[v, .slice (some ⟨w.heap.size, 0, none⟩) 1 1]).run P (w.alloc (.cells cs e)) = .ok (.slice A (xs.length + 1) c) w' ∧ Own base e w' (.slice A (xs.length + 1) c) (xs ++ [x]) ∧
   Below base w w' ∧ base ≤ w'.heap.size ∧ xs.length + 1 ≤ c ∧ c ≤ 9223372036854775807 := by
 obtain ⟨A, c, w', h1, h2, h3, h4, h5, h6, _⟩ := append_full ht hinfo hsz hb1 h1 h x hn hbase hcs
 exact ⟨A, c, w', h1, h2, h3, h4, h5, h6⟩
end
theorem Own.other {α : Type} {At : World → Addr → α → Prop} {sz : Nat} [E : Enc α At sz] {base : Nat} {e : TypeId} {w : World} {v : Value} {xs : List α} (h : Own base e w v xs) {p : Addr} (hp : p.block < base) (u : Value) : Own base e (w.setCell p u) v xs := by
 rcases h with ⟨hl, h0 | ⟨g, cap, cur, rfl, hbb, hh, r⟩⟩
 ·exact ⟨hl, .inl h0⟩
 ·exact ⟨hl, .inr ⟨g, cap, cur, rfl, hbb, (Below.heap_setCell _ _ _ _ (by omega)).trans hh, r⟩⟩
theorem append_int {base : Nat} {w : World} {v : Value} {xs : List Int} (h : Own base 3 w v xs) (x : Int) (hn : xs.length ≤ 100000) (hbase : base ≤ w.heap.size) :
  ∃ A c w', (Builtin.append_ #[30, 30] 30 #[v, .slice (some ⟨w.heap.size, 0, none⟩) 1 1]).run Tryz.prog (w.alloc (.cells #[.int .i64 x] 3)) = .ok (.slice A (xs.length + 1) c) w' ∧ Own base 3 w' (.slice A (xs.length + 1) c) (xs ++ [x]) ∧
   Below base w w' ∧ base ≤ w'.heap.size ∧ xs.length + 1 ≤ c ∧ c ≤ 9223372036854775807 :=
 append_one (bytes := 8) (by kernel_rfl) (by kernel_rfl) (by omega) (by omega) (by simp [Enc.enc]; intros; rfl) h x hn hbase rfl
theorem append_str {base : Nat} {w : World} {v : Value} {xs : List ByteArray} (h : Own base 9 w v xs) (x : ByteArray) (hn : xs.length ≤ 100000) (hbase : base ≤ w.heap.size) :
  ∃ A c w', (Builtin.append_ #[35, 35] 35 #[v, .slice (some ⟨w.heap.size, 0, none⟩) 1 1]).run Tryz.prog (w.alloc (.cells #[.string x] 9)) = .ok (.slice A (xs.length + 1) c) w' ∧ Own base 9 w' (.slice A (xs.length + 1) c) (xs ++ [x]) ∧
   Below base w w' ∧ base ≤ w'.heap.size ∧ xs.length + 1 ≤ c ∧ c ≤ 9223372036854775807 :=
 append_one (bytes := 16) (by kernel_rfl) (by kernel_rfl) (by omega) (by omega) (by simp [Enc.enc]; intros; rfl) h x hn hbase rfl
theorem append_span {base : Nat} {w : World} {v : Value} {xs : List (Int × Int)} (h : Own base 42 w v xs) (x : (Int × Int)) (hn : xs.length ≤ 100000) (hbase : base ≤ w.heap.size) :
  ∃ A c w', (Builtin.append_ #[32, 32] 32 #[v, .slice (some ⟨w.heap.size, 0, none⟩) 1 1]).run Tryz.prog (w.alloc (.cells #[.int .i64 x.1, .int .i64 x.2] 42)) = .ok (.slice A (xs.length + 1) c) w' ∧ Own base 42 w' (.slice A (xs.length + 1) c) (xs ++ [x]) ∧
   Below base w w' ∧ base ≤ w'.heap.size ∧ xs.length + 1 ≤ c ∧ c ≤ 9223372036854775807 :=
 append_one (bytes := 16) (by kernel_rfl) (by kernel_rfl) (by omega) (by omega) (by simp [Enc.enc]; intros; refine ⟨?_, ?_⟩ <;> rfl) h x hn hbase rfl
theorem enc_ints (ys : List Int) : ys.flatMap (Enc.enc (α := Int)) = ys.map fun n => Value.int .i64 n := by
 induction ys with
 | nil => rfl
 | cons y ys ih => rw [List.flatMap_cons, ih]; rfl
theorem run_append_nil {P : Program} {w : World} {base : Nat} {t ty e : TypeId} {i : TypeInfo} {size : Nat} (ht : P.underlying t = some (.slice e)) (hi : P.info? e = some i)
  {v : Value} {n : Nat} {xs : List Value} (hown : w.ownsRow base e size v n xs) (c : Nat) : (Builtin.append_ #[t, t] ty #[v, .slice none 0 c]).run P w = .ok v w := by
 rcases hown.2 with ⟨rfl, rfl⟩ | ⟨g, cap, cur, rfl, _, _, hnc, _⟩
 ·simp [Builtin.append_, run_underlying ht, sizeOf, typeInfo, hi, Builtin.lenOf, Builtin.firstCells]
 ·simp [Builtin.append_, run_underlying ht, sizeOf, typeInfo, hi, Builtin.lenOf, Builtin.firstCells, hnc, storeCells]
theorem append_ints {base B : Nat} {w : World} {v : Value} {xs ys : List Int} {A : Option Addr} {c : Nat} (h : Own base 3 w v xs) (hr : Rd IntAt 1 B w (.slice A ys.length c) ys) (hn : xs.length + ys.length ≤ 100000) (hbase : base ≤ w.heap.size) :
  ∃ A' c' w', (Builtin.append_ #[30, 30] 30 #[v, .slice A ys.length c]).run Tryz.prog w = .ok (.slice A' (xs.length + ys.length) c') w' ∧ Own base 3 w' (.slice A' (xs.length + ys.length) c') (xs ++ ys) ∧ Below base w w' ∧ base ≤ w'.heap.size := by
 obtain ⟨i, hi, hi2⟩ := Option.map_eq_some_iff.1 (show (Tryz.prog.info? 3).map (fun i => (i.size, i.bytes, i.zero.map (·.cells.size))) = some (1, 8, some 1) by kernel_rfl)
 simp only [Prod.mk.injEq] at hi2
 obtain ⟨hsize, hby, hz0⟩ := hi2
 obtain ⟨z, hz, hzs⟩ := Option.map_eq_some_iff.1 hz0
 have ht : Tryz.prog.underlying 30 = some (.slice 3) := by kernel_rfl
 obtain ⟨A0, c0, e0, _, _, hcell⟩ := hr
 injection e0 with e1 e2 e3
 subst e1 e3
 cases A with
 | none =>
  have hy : ys = [] := by
   cases ys with
   | nil => rfl
   | cons y ys => obtain ⟨ad, e, _⟩ := hcell 0 y rfl; cases e
  subst hy
  have hrun := run_append_nil (ty := 30) ht hi h c
  obtain ⟨A, c1, rfl, _⟩ := h.form
  exact ⟨A, c1, w, hrun, by simpa using h, Below.refl _ _, hbase⟩
 | some ad =>
  obtain ⟨v', w', hrun, h2, h3, _, _⟩ := run_append_own_at (P := Tryz.prog) w base 30 30 3 i z 1 8 ht hi hz hsize hby hzs (by omega) v xs.length (xs.flatMap Enc.enc) h
   ad ys.length c (ys.flatMap Enc.enc) (by rw [flat_len])
   (fun j u hu => by
    rw [enc_ints, List.getElem?_map] at hu
    obtain ⟨y, hy, rfl⟩ := Option.map_eq_some_iff.1 hu
    obtain ⟨ad', e, _, ha⟩ := hcell j y hy
    injection e with e
    subst e
    simpa [IntAt] using ha)
   (fun u hu => by
    rw [enc_ints] at hu
    obtain ⟨n, _, rfl⟩ := List.mem_map.1 hu
    rfl) (by unfold maxLen; omega) (by omega) hbase
  have h4 : Own base 3 w' v' (xs ++ ys) := Own.of_append rfl h2
  obtain ⟨A, c1, rfl, hc1, hc2⟩ := h4.form
  rw [List.length_append] at hrun h4
  have hb2 := (h.grown h3).resolve_right (by omega)
  exact ⟨A, c1, w', hrun, h4, hb2, Nat.le_trans hbase hb2.size⟩
theorem wp_append_run {P : Program} {o : Oper} {a : Act} {K : Act → World → Prop} {Q : Exit → Act → World → Prop} (s x : Operand) (t : TypeId)
  (ho : o.op = .call { callee := .builtin .append, args := #[s, x], argTypes := #[t, t] }) {u1 u2 v' : Value} {w w' : World} (h1 : a.eval s = u1) (h2 : a.eval x = u2)
  (hrun : (Builtin.append_ #[t, t] o.type #[u1, u2]).run P w = .ok v' w') (h : K (a.put o.dst v') w') : o.wp P a w K Q := by
 unfold Oper.wp execOp
 simp only [ho, resolve, invoke, builtin, Sem.run_bind, Sem.run_pure, Result.andThen_ok, List.map_toArray, List.map_cons, List.map_nil, h1, h2, hrun]
 exact h
theorem wpList_append_run {P : Program} {ops : Array Oper} {rest : List Oper} {o : Oper} {a : Act} {Q : Exit → Act → World → Prop} (hgd : o.guard = none) (s x : Operand) (t : TypeId)
  (ho : o.op = .call { callee := .builtin .append, args := #[s, x], argTypes := #[t, t] }) {u1 u2 v' : Value} {w w' : World} (h1 : a.eval s = u1) (h2 : a.eval x = u2)
  (hrun : (Builtin.append_ #[t, t] o.type #[u1, u2]).run P w = .ok v' w') (h : wpList P ops Q rest (a.put o.dst v') w') : wpList P ops Q (o :: rest) a w :=
 wpList_plain hgd fun _ hK => wp_append_run s x t ho h1 h2 hrun (hK _ _ h)
theorem wpListIn_append_run {l n : Nat} {P : Program} {ops : Array Oper} {rest : List Oper} {o : Oper} {a : Act} {Q : Exit → Act → World → Prop} (hgd : o.guard = none) (s x : Operand) (t : TypeId)
  (ho : o.op = .call { callee := .builtin .append, args := #[s, x], argTypes := #[t, t] }) {u1 u2 v' : Value} {w w' : World} (h1 : a.eval s = u1) (h2 : a.eval x = u2)
  (hrun : (Builtin.append_ #[t, t] o.type #[u1, u2]).run P w = .ok v' w') (h : wpListIn (Fence.wide.inRound l) n P ops Q rest (a.put o.dst v') w') : wpListIn (Fence.wide.inRound l) n P ops Q (o :: rest) a w := by
 refine wpListIn_plain hgd fun K hK => ?_
 refine ⟨fun _ _ => trivial, ?_⟩
 rw [Oper.semAt_plain _ _ _ (fun c h => by rw [ho] at h; cases h)]
 unfold execOp
 simp only [ho, resolve, invoke, builtin, Sem.run_bind, Sem.run_pure, Result.andThen_ok, List.map_toArray, List.map_cons, List.map_nil, h1, h2, hrun]
 exact hK _ _ h
end Go.Proofs.YthnimhnlnddnoaaGreatDoor
namespace Go.Proofs.YthnimhnlnddnoaaGreatDoor
structure RvR where
 name : ByteArray
 down : Int
 least : Int
 hgt : Int
instance : Inhabited RvR := ⟨⟨ByteArray.empty, 0, 0, 0⟩⟩
def rvD (r : List RvR) (i : Nat) : Int := (r.getD i default).down
def rvL (r : List RvR) (i : Nat) : Int := (r.getD i default).least
def rvH (r : List RvR) (i : Nat) : Int := (r.getD i default).hgt
def rvN (r : List RvR) (i : Nat) : ByteArray := (r.getD i default).name
def stepR (r : List RvR) (i : Nat) : Nat := if rvD r i = -1 then i else (rvD r i).toNat
def walkR (r : List RvR) : Nat → Nat → Nat
 | 0, i => i
 | k + 1, i => walkR r k (stepR r i)
structure RGood (r : List RvR) : Prop where
 len : 1 ≤ r.length ∧ r.length ≤ 9
 down : ∀ i, i < r.length → -1 ≤ rvD r i ∧ rvD r i < r.length ∧ rvD r i ≠ (i : Int)
 least : ∀ i, i < r.length → 0 ≤ rvL r i ∧ rvL r i ≤ 500
 lmouth : ∀ i, i < r.length → rvD r i = -1 → rvL r i = 0
 hgt : ∀ i, i < r.length → 0 ≤ rvH r i ∧ rvH r i ≤ 9000
 names : ∀ i, i < r.length → nameB (rvN r i) = true
 fresh : ∀ i, i < r.length → ∀ j, j < i → rvN r j ≠ rvN r i
 mouth : ∀ i k, i < r.length → k < r.length → rvD r i = -1 → rvD r k = -1 → i = k
 ends : ∀ i, i < r.length → rvD r (walkR r r.length i) = -1
def belowF (r : List RvR) : Nat → Nat → Int → List (Nat × Int)
 | 0, _, _ => []
 | f + 1, i, d => (i, d) :: (if rvD r i = -1 then [] else belowF r f (rvD r i).toNat (d + rvL r i))
theorem step_lt {r : List RvR} (hg : RGood r) {i : Nat} (hi : i < r.length) : stepR r i < r.length := by
 have := hg.down i hi
 unfold stepR
 split <;> omega
theorem walk_lt {r : List RvR} (hg : RGood r) : ∀ {k i : Nat}, i < r.length → walkR r k i < r.length
 | 0, _, h => h
 | k + 1, i, h => by
  show walkR r k (stepR r i) < r.length
  exact walk_lt hg (step_lt hg h)
def RunsD (r : List RvR) (y : Nat → Int) : Prop := ∀ i, i < r.length → rvD r i ≠ -1 → y (rvD r i).toNat + rvL r i ≤ y i
theorem runs_below {r : List RvR} (hg : RGood r) {y : Nat → Int} (hy : RunsD r y) : ∀ (f i : Nat) (d : Int), i < r.length → ∀ p ∈ belowF r f i d, p.1 < r.length ∧ y p.1 + (p.2 - d) ≤ y i ∧ d ≤ p.2
 | 0, _, _, _, p, hp => by cases hp
 | f + 1, i, d, hi, p, hp => by
  rcases List.mem_cons.1 hp with h | h
  ·subst h
   exact ⟨hi, by simp, Int.le_refl _⟩
  ·split at h
   ·cases h
   ·rename_i hd
    have hb := hg.down i hi
    have hl := hg.least i hi
    obtain ⟨h1, h2, h3⟩ := runs_below hg hy f (rvD r i).toNat (d + rvL r i) (by omega) p h
    have := hy i hi hd
    exact ⟨h1, by omega, by omega⟩
def fillR (r : List RvR) (i : Nat) : Int := ((belowF r (r.length + 1) i 0).map fun p => rvH r p.1 + p.2).foldl max 0
theorem foldl_max_le {l : List Int} {a b : Int} (ha : a ≤ b) (hl : ∀ x ∈ l, x ≤ b) : l.foldl max a ≤ b := by
 induction l generalizing a with
 | nil => exact ha
 | cons x l ih => exact ih (by have := hl x (by simp); omega) (fun z hz => hl z (by simp [hz]))
theorem foldl_max_ge {l : List Int} {a b : Int} (h : b ≤ a ∨ ∃ x ∈ l, b ≤ x) : b ≤ l.foldl max a := by
 induction l generalizing a with
 | nil =>
  rcases h with h | ⟨x, hx, _⟩
  ·exact h
  ·cases hx
 | cons x l ih =>
  apply ih
  rcases h with h | ⟨z, hz, h⟩
  ·exact .inl (by omega)
  ·rcases List.mem_cons.1 hz with e | hz
   ·exact .inl (by omega)
   ·exact .inr ⟨z, hz, h⟩
theorem below_self {r : List RvR} {f i : Nat} {d : Int} (h : 1 ≤ f) : (i, d) ∈ belowF r f i d := by
 obtain ⟨f, rfl⟩ : ∃ g, f = g + 1 := ⟨f - 1, by omega⟩
 simp [belowF]
theorem fill_runs {r : List RvR} (hg : RGood r) (hy : RunsD r (rvH r)) {i : Nat} (hi : i < r.length) : fillR r i = rvH r i := by
 unfold fillR
 have h0 := hg.hgt i hi
 refine Int.le_antisymm (foldl_max_le h0.1 fun x hx => ?_) (foldl_max_ge (.inr ⟨rvH r i, ?_, Int.le_refl _⟩))
 ·obtain ⟨p, hp, rfl⟩ := List.mem_map.1 hx
  have := (runs_below hg hy _ i 0 hi p hp).2.1
  omega
 ·exact List.mem_map.2 ⟨(i, 0), below_self (by omega), by simp⟩
theorem foldl_min_ge {l : List Int} {a b : Int} (ha : b ≤ a) (hl : ∀ x ∈ l, b ≤ x) : b ≤ l.foldl min a := by
 induction l generalizing a with
 | nil => exact ha
 | cons x l ih => exact ih (by have := hl x (by simp); omega) (fun z hz => hl z (by simp [hz]))
theorem foldl_min_le {l : List Int} {a b : Int} (h : a ≤ b ∨ ∃ x ∈ l, x ≤ b) : l.foldl min a ≤ b := by
 induction l generalizing a with
 | nil =>
  rcases h with h | ⟨x, hx, _⟩
  ·exact h
  ·cases hx
 | cons x l ih =>
  apply ih
  rcases h with h | ⟨z, hz, h⟩
  ·exact .inl (by omega)
  ·rcases List.mem_cons.1 hz with e | hz
   ·exact .inl (by omega)
   ·exact .inr ⟨z, hz, h⟩
def dropR (r : List RvR) (i k : Nat) : Int := ((belowF r (r.length + 1) i 0).filter fun p => p.1 == k).foldl (fun _ p => p.2) (-1)
theorem foldl_last {α β : Type} (f : α → β) : ∀ (l : List α) (a : β), (l.foldl (fun _ x => f x) a = a ∧ l = []) ∨ ∃ x ∈ l, l.foldl (fun _ x => f x) a = f x
 | [], a => .inl ⟨rfl, rfl⟩
 | x :: l, a => by
  rcases foldl_last f l (f x) with ⟨h, rfl⟩ | ⟨z, hz, h⟩
  ·exact .inr ⟨x, by simp, rfl⟩
  ·exact .inr ⟨z, by simp [hz], h⟩
theorem drop_below {r : List RvR} (hg : RGood r) {y : Nat → Int} (hy : RunsD r y) {i k : Nat} (hi : i < r.length) (h : dropR r i k ≠ -1) : y k + dropR r i k ≤ y i ∧ 0 ≤ dropR r i k := by
 unfold dropR at h ⊢
 rcases foldl_last (fun p : Nat × Int => p.2) ((belowF r (r.length + 1) i 0).filter fun p => p.1 == k) (-1) with ⟨h1, _⟩ | ⟨p, hp, h1⟩
 ·exact absurd h1 h
 ·rw [h1]
  rw [List.mem_filter] at hp
  obtain ⟨_, h2, h3⟩ := runs_below hg hy _ i 0 hi p hp.1
  have he : p.1 = k := by simpa using hp.2
  rw [he] at h2
  omega
def outR (r : List RvR) (i : Nat) : Bool := (List.range r.length).any fun k => decide (rvH r i < dropR r i k) || decide (9000 - rvH r i < dropR r k i)
def conflR (r : List RvR) (i k : Nat) : Bool :=
 if dropR r i k = -1 then decide (dropR r k i ≠ -1) && decide (rvH r k - rvH r i < dropR r k i)
 else decide (rvH r i - rvH r k < dropR r i k)
def bitR (set i : Nat) : Bool := set.testBit i
def corrR (r : List RvR) (set : Nat) : Bool := (List.range r.length).all fun i => bitR set i || (!outR r i && (List.range i).all fun k => bitR set k || !conflR r i k)
theorem corr_true {r : List RvR} (hg : RGood r) {y : Nat → Int} (hy : RunsD r y) (h0 : ∀ i, i < r.length → 0 ≤ y i ∧ y i ≤ 9000) {set : Nat} (hs : ∀ i, i < r.length → bitR set i = false → rvH r i = y i) : corrR r set = true := by
 unfold corrR
 rw [List.all_eq_true]
 intro i hi
 have hi : i < r.length := by simpa using hi
 cases hb : bitR set i with
 | true => rfl
 | false =>
  have ei := hs i hi hb
  simp only [Bool.false_or, Bool.and_eq_true, Bool.not_eq_true']
  refine ⟨?_, ?_⟩
  ·unfold outR
   rw [List.any_eq_false]
   intro k hk
   have hk : k < r.length := by simpa using hk
   rw [ei]
   have h1 : dropR r i k ≠ -1 → y k + dropR r i k ≤ y i := fun h => (drop_below hg hy hi h).1
   have h2 : dropR r k i ≠ -1 → y i + dropR r k i ≤ y k := fun h => (drop_below hg hy hk h).1
   have a := h0 i hi
   have b := h0 k hk
   simp only [Bool.or_eq_true, decide_eq_true_eq]
   by_cases e1 : dropR r i k = -1 <;> by_cases e2 : dropR r k i = -1
   ·omega
   ·have := h2 e2; omega
   ·have := h1 e1; omega
   ·have := h1 e1; have := h2 e2; omega
  ·rw [List.all_eq_true]
   intro k hk
   have hk : k < i := by simpa using hk
   cases hbk : bitR set k with
   | true => rfl
   | false =>
    have ek := hs k (by omega) hbk
    simp only [Bool.false_or, Bool.not_eq_true']
    unfold conflR
    rw [ei, ek]
    split
    ·rename_i e1
     by_cases e2 : dropR r k i = -1
     ·simp [e2]
     ·have := (drop_below hg hy (by omega : k < r.length) e2).1
      simp
      omega
    ·rename_i e1
     have := (drop_below hg hy hi e1).1
     simp
     omega
def depR (r : List RvR) : Nat → Nat → Nat
 | 0, _ => 0
 | f + 1, i => if rvD r i = -1 then 0 else depR r f (rvD r i).toNat + 1
theorem dep_stay (r : List RvR) : ∀ (f i : Nat), rvD r (walkR r f i) = -1 → depR r (f + 1) i = depR r f i
 | 0, i, h => by
  have h : rvD r i = -1 := h
  simp [depR, h]
 | f + 1, i, h => by
  by_cases hd : rvD r i = -1
  ·simp [depR, hd]
  ·have h : rvD r (walkR r f (stepR r i)) = -1 := h
   rw [show stepR r i = (rvD r i).toNat by unfold stepR; rw [if_neg hd]] at h
   have e := dep_stay r f _ h
   show (if rvD r i = -1 then 0 else depR r (f + 1) (rvD r i).toNat + 1) = (if rvD r i = -1 then 0 else depR r f (rvD r i).toNat + 1)
   rw [e]
def depth (r : List RvR) (i : Nat) : Nat := depR r r.length i
theorem depth_down {r : List RvR} (hg : RGood r) {i : Nat} (hi : i < r.length) (hd : rvD r i ≠ -1) : depth r i = depth r (rvD r i).toNat + 1 := by
 have he := hg.ends i hi
 have hn := hg.len.1
 unfold depth
 obtain ⟨n, hn⟩ : ∃ n, r.length = n + 1 := ⟨r.length - 1, by omega⟩
 rw [hn] at he ⊢
 have he : rvD r (walkR r n (stepR r i)) = -1 := he
 rw [show stepR r i = (rvD r i).toNat by unfold stepR; rw [if_neg hd]] at he
 rw [dep_stay r n _ he]
 show (if rvD r i = -1 then 0 else depR r n (rvD r i).toNat + 1) = _
 rw [if_neg hd]
theorem down_lt {r : List RvR} (hg : RGood r) {i : Nat} (hi : i < r.length) (hd : rvD r i ≠ -1) : (rvD r i).toNat < r.length := by have := hg.down i hi; omega
theorem below_depth {r : List RvR} (hg : RGood r) : ∀ (f k : Nat) (d : Int), k < r.length → ∀ p ∈ belowF r f k d, p.1 < r.length ∧ (p = (k, d) ∨ depth r p.1 < depth r k)
 | 0, _, _, _, p, hp => by cases hp
 | f + 1, k, d, hk, p, hp => by
  rcases List.mem_cons.1 hp with h | h
  ·exact ⟨by rw [h]; exact hk, .inl h⟩
  ·split at h
   ·cases h
   ·rename_i hd
    obtain ⟨h1, h2⟩ := below_depth hg f _ _ (down_lt hg hk hd) p h
    have e := depth_down hg hk hd
    refine ⟨h1, .inr ?_⟩
    rcases h2 with h2 | h2
    ·rw [h2]
     show depth r (rvD r k).toNat < _
     omega
    ·omega
theorem below_one {r : List RvR} (hg : RGood r) : ∀ (f k : Nat) (d : Int), k < r.length → ∀ i e1 e2, (i, e1) ∈ belowF r f k d → (i, e2) ∈ belowF r f k d → e1 = e2
 | 0, _, _, _, _, _, _, hp, _ => by cases hp
 | f + 1, k, d, hk, i, e1, e2, h1, h2 => by
  by_cases hd : rvD r k = -1
  ·simp [belowF, hd] at h1 h2
   rw [h1.2, h2.2]
  ·simp only [belowF, if_neg hd] at h1 h2
   have hl := down_lt hg hk hd
   have e := depth_down hg hk hd
   have far : ∀ x, (k, x) ∈ belowF r f (rvD r k).toNat (d + rvL r k) → False := fun x hx => by
    rcases (below_depth hg f _ _ hl _ hx).2 with h | h
    ·have h := congrArg Prod.fst h
     simp only at h
     have := hg.down k hk
     omega
    ·simp only at h
     omega
   rcases List.mem_cons.1 h1 with h1 | h1
   ·have ei := congrArg Prod.fst h1
    simp only at ei
    subst ei
    rcases List.mem_cons.1 h2 with h2 | h2
    ·have a : e1 = d := congrArg Prod.snd h1
     have b : e2 = d := congrArg Prod.snd h2
     rw [a, b]
    ·exact (far _ h2).elim
   ·rcases List.mem_cons.1 h2 with h2 | h2
    ·have ei := congrArg Prod.fst h2
     simp only at ei
     subst ei
     exact (far _ h1).elim
    ·exact below_one hg f _ _ hl i e1 e2 h1 h2
theorem below_nn {r : List RvR} (hg : RGood r) : ∀ (f k : Nat) (d : Int), k < r.length → ∀ p ∈ belowF r f k d, d ≤ p.2
 | 0, _, _, _, p, hp => by cases hp
 | f + 1, k, d, hk, p, hp => by
  rcases List.mem_cons.1 hp with h | h
  ·rw [h]
   exact Int.le_refl _
  ·split at h
   ·cases h
   ·rename_i hd
    have := below_nn hg f _ _ (down_lt hg hk hd) p h
    have := (hg.least k hk).1
    omega
theorem drop_mem {r : List RvR} (hg : RGood r) {k i : Nat} (hk : k < r.length) {d : Int} (h : (i, d) ∈ belowF r (r.length + 1) k 0) : dropR r k i = d := by
 unfold dropR
 have hm : (i, d) ∈ (belowF r (r.length + 1) k 0).filter fun p => p.1 == i := by rw [List.mem_filter]; exact ⟨h, by simp⟩
 rcases foldl_last (fun p : Nat × Int => p.2) ((belowF r (r.length + 1) k 0).filter fun p => p.1 == i) (-1) with ⟨_, h1⟩ | ⟨p, hp, h1⟩
 ·rw [h1] at hm
  cases hm
 ·rw [h1]
  rw [List.mem_filter] at hp
  have he : p.1 = i := by simpa using hp.2
  obtain ⟨p1, p2⟩ := p
  simp only at he
  subst he
  exact below_one hg _ _ _ hk _ _ _ hp.1 h
theorem drop_in {r : List RvR} {k i : Nat} (h : dropR r k i ≠ -1) : (i, dropR r k i) ∈ belowF r (r.length + 1) k 0 := by
 unfold dropR at h ⊢
 rcases foldl_last (fun p : Nat × Int => p.2) ((belowF r (r.length + 1) k 0).filter fun p => p.1 == i) (-1) with ⟨h1, _⟩ | ⟨p, hp, h1⟩
 ·exact absurd h1 h
 ·rw [h1]
  rw [List.mem_filter] at hp
  have he : p.1 = i := by simpa using hp.2
  rw [← he]
  exact hp.1
theorem drop_ge {r : List RvR} (hg : RGood r) {k i : Nat} (hk : k < r.length) : -1 ≤ dropR r k i ∧ (dropR r k i ≠ -1 → 0 ≤ dropR r k i) := by
 by_cases h : dropR r k i = -1
 ·exact ⟨by omega, fun g => absurd h g⟩
 ·have := below_nn hg _ _ _ hk _ (drop_in h)
  simp only at this
  exact ⟨by omega, fun _ => this⟩
theorem below_next {r : List RvR} (hg : RGood r) : ∀ (f k : Nat) (d : Int), k < r.length → rvD r (walkR r f k) = -1 → ∀ i e, (i, e) ∈ belowF r (f + 1) k d → rvD r i ≠ -1 → ((rvD r i).toNat, e + rvL r i) ∈ belowF r (f + 1) k d
 | 0, k, d, hk, hw, i, e, h, hi => by
  have hw : rvD r k = -1 := hw
  simp [belowF, hw] at h
  rw [h.1] at hi
  exact absurd hw hi
 | f + 1, k, d, hk, hw, i, e, h, hi => by
  by_cases hd : rvD r k = -1
  ·simp [belowF, hd] at h
   rw [h.1] at hi
   exact absurd hd hi
  ·have hw : rvD r (walkR r f (stepR r k)) = -1 := hw
   rw [show stepR r k = (rvD r k).toNat by unfold stepR; rw [if_neg hd]] at hw
   show _ ∈ (k, d) :: (if rvD r k = -1 then [] else belowF r (f + 1) (rvD r k).toNat (d + rvL r k))
   have h : (i, e) ∈ (k, d) :: (if rvD r k = -1 then [] else belowF r (f + 1) (rvD r k).toNat (d + rvL r k)) := h
   rw [if_neg hd] at h ⊢
   rcases List.mem_cons.1 h with h | h
   ·have e1 := congrArg Prod.fst h
    have e2 := congrArg Prod.snd h
    simp only at e1 e2
    subst e1 e2
    exact List.mem_cons.2 (.inr (below_self (by omega)))
   ·exact List.mem_cons.2 (.inr (below_next hg f _ _ (down_lt hg hk hd) hw i e h hi))
theorem drop_next {r : List RvR} (hg : RGood r) {k i : Nat} (hk : k < r.length) (h : dropR r k i ≠ -1) (hi : rvD r i ≠ -1) : dropR r k (rvD r i).toNat = dropR r k i + rvL r i :=
 drop_mem hg hk (below_next hg _ _ _ hk (hg.ends k hk) _ _ (drop_in h) hi)
theorem drop_self {r : List RvR} (hg : RGood r) {k : Nat} (hk : k < r.length) : dropR r k k = 0 := drop_mem hg hk (below_self (by omega))
theorem pigeon : ∀ (n m : Nat) (f : Nat → Nat), (∀ i, i < m → f i < n) → (∀ i j, i < m → j < m → f i = f j → i = j) → m ≤ n
 | 0, m, f, h1, _ => by
  cases m with
  | zero => exact Nat.le_refl _
  | succ m => exact absurd (h1 0 (by omega)) (by omega)
 | n + 1, m, f, h1, h2 => by
  cases m with
  | zero => omega
  | succ m =>
   have := pigeon n m (fun i => if f i = n then f m else f i) (fun i hi => by
    have hm := h1 m (by omega)
    have hi2 := h1 i (by omega)
    split
    ·rename_i e
     have : f m ≠ n := fun e2 => by have := h2 i m (by omega) (by omega) (by rw [e, e2]); omega
     omega
    ·omega) (fun i j hi hj e => by
    by_cases ei : f i = n <;> by_cases ej : f j = n
    ·exact h2 i j (by omega) (by omega) (by rw [ei, ej])
    ·rw [if_pos ei, if_neg ej] at e
     have := h2 m j (by omega) (by omega) e
     omega
    ·rw [if_neg ei, if_pos ej] at e
     have := h2 i m (by omega) (by omega) e
     omega
    ·rw [if_neg ei, if_neg ej] at e
     exact h2 i j (by omega) (by omega) e)
   omega
theorem depth_mouth {r : List RvR} (hg : RGood r) {i : Nat} (hd : rvD r i = -1) : depth r i = 0 := by
 have := hg.len.1
 unfold depth
 obtain ⟨n, hn⟩ : ∃ n, r.length = n + 1 := ⟨r.length - 1, by omega⟩
 rw [hn]
 show (if rvD r i = -1 then 0 else depR r n (rvD r i).toNat + 1) = 0
 rw [if_pos hd]
theorem depth_step {r : List RvR} (hg : RGood r) {i : Nat} (hi : i < r.length) : depth r (stepR r i) = depth r i - 1 := by
 by_cases hd : rvD r i = -1
 ·unfold stepR
  rw [if_pos hd, depth_mouth hg hd]
 ·have := depth_down hg hi hd
  unfold stepR
  rw [if_neg hd]
  omega
theorem depth_walk {r : List RvR} (hg : RGood r) : ∀ (j : Nat) {i : Nat}, i < r.length → depth r (walkR r j i) = depth r i - j
 | 0, _, _ => rfl
 | j + 1, i, hi => by
  show depth r (walkR r j (stepR r i)) = _
  rw [depth_walk hg j (step_lt hg hi), depth_step hg hi]
  omega
theorem depth_lt {r : List RvR} (hg : RGood r) {i : Nat} (hi : i < r.length) : depth r i < r.length :=
 pigeon r.length (depth r i + 1) (fun j => walkR r j i) (fun _ _ => walk_lt hg hi) (fun a b ha hb e => by
  have h1 := depth_walk hg a hi
  have h2 := depth_walk hg b hi
  rw [e] at h1
  omega)
theorem below_le {r : List RvR} (hg : RGood r) : ∀ (f k : Nat) (d : Int), k < r.length → ∀ p ∈ belowF r f k d, p.2 ≤ d + 500 * f
 | 0, _, _, _, p, hp => by cases hp
 | f + 1, k, d, hk, p, hp => by
  rcases List.mem_cons.1 hp with h | h
  ·rw [h]
   show d ≤ _
   omega
  ·split at h
   ·cases h
   ·rename_i hd
    have := below_le hg f _ _ (down_lt hg hk hd) p h
    have := (hg.least k hk).2
    omega
theorem drop_le {r : List RvR} (hg : RGood r) {k i : Nat} (hk : k < r.length) : dropR r k i ≤ 5000 := by
 by_cases h : dropR r k i = -1
 ·omega
 ·have := below_le hg _ _ _ hk _ (drop_in h)
  have := hg.len.2
  simp only at *
  omega
structure AnyI (r : List RvR) (h : List Int) (done : List Bool) : Prop where
 hl : h.length = r.length
 dl : done.length = r.length
 ok : ∀ i, i < r.length → done.getD i false = true → 0 ≤ h.getD i 0 ∧ (∀ k, k < r.length → h.getD i 0 + max 0 (dropR r k i) ≤ 9000) ∧ (rvD r i ≠ -1 → done.getD (rvD r i).toNat false = true ∧ h.getD (rvD r i).toNat 0 + rvL r i ≤ h.getD i 0)
def mostR (r : List RvR) (i : Nat) : Int := ((List.range r.length).map fun k => 9000 - max 0 (dropR r k i)).foldl min 9000
def lowR (r : List RvR) (h : List Int) (i : Nat) : Int := if rvD r i = -1 then 0 else h.getD (rvD r i).toNat 0 + rvL r i
theorem getD_set {α : Type} {l : List α} {i j : Nat} {v d : α} (hi : i < l.length) : (l.set i v).getD j d = if i = j then v else l.getD j d := by
 rw [List.getD_eq_getElem?_getD, List.getElem?_set, List.getD_eq_getElem?_getD]
 by_cases e : i = j
 ·rw [if_pos e, if_pos (by omega), if_pos e]
  rfl
 ·rw [if_neg e, if_neg e]
theorem most_le {r : List RvR} {i k : Nat} (hk : k < r.length) : mostR r i ≤ 9000 - max 0 (dropR r k i) :=
 foldl_min_le (.inr ⟨_, List.mem_map.2 ⟨k, by simpa using hk, rfl⟩, Int.le_refl _⟩)
theorem low_most {r : List RvR} (hg : RGood r) {h : List Int} {done : List Bool} (ha : AnyI r h done) {i : Nat} (hi : i < r.length) (hd : rvD r i = -1 ∨ done.getD (rvD r i).toNat false = true) : 0 ≤ lowR r h i ∧ lowR r h i ≤ mostR r i := by
 unfold lowR
 by_cases e : rvD r i = -1
 ·rw [if_pos e]
  refine ⟨Int.le_refl _, foldl_min_ge (by omega) fun x hx => ?_⟩
  obtain ⟨k, hk, rfl⟩ := List.mem_map.1 hx
  have := drop_le hg (i := i) (show k < r.length by simpa using hk)
  omega
 ·rw [if_neg e]
  have hl := down_lt hg hi e
  obtain ⟨h1, h2, _⟩ := ha.ok _ hl (hd.resolve_left e)
  have h0 := (hg.least i hi).1
  refine ⟨by omega, foldl_min_ge ?_ fun x hx => ?_⟩
  ·have h3 := h2 i hi
   rw [drop_next hg hi (by rw [drop_self hg hi]; omega) e, drop_self hg hi] at h3
   omega
  ·obtain ⟨k, hk, rfl⟩ := List.mem_map.1 hx
   have hk : k < r.length := by simpa using hk
   by_cases ek : dropR r k i = -1
   ·have h3 := h2 i hi
    rw [drop_next hg hi (by rw [drop_self hg hi]; omega) e, drop_self hg hi] at h3
    omega
   ·have h3 := h2 k hk
    rw [drop_next hg hk ek e] at h3
    have := (drop_ge hg hk).2 ek
    omega
theorem any_step {r : List RvR} (hg : RGood r) {h : List Int} {done : List Bool} (ha : AnyI r h done) {i : Nat} (hi : i < r.length) (hn : done.getD i false = false) (hd : rvD r i = -1 ∨ done.getD (rvD r i).toNat false = true) {t : Int} (ht : 0 ≤ t) :
  AnyI r (h.set i (min (mostR r i) (lowR r h i + t))) (done.set i true) := by
 obtain ⟨l1, l2⟩ := low_most hg ha hi hd
 have hih : i < h.length := by rw [ha.hl]; exact hi
 have hid : i < done.length := by rw [ha.dl]; exact hi
 refine ⟨by rw [List.length_set]; exact ha.hl, by rw [List.length_set]; exact ha.dl, fun j hj hdj => ?_⟩
 have hdn := hg.down j hj
 rw [getD_set hid] at hdj
 rw [getD_set hih, getD_set hih, getD_set hid]
 by_cases e : i = j
 ·subst e
  rw [if_pos rfl]
  refine ⟨by omega, fun k hk => ?_, fun hdd => ?_⟩
  ·have := most_le (i := i) hk
   omega
  ·rw [if_neg (by omega), if_neg (by omega)]
   refine ⟨hd.resolve_left hdd, ?_⟩
   have : lowR r h i = h.getD (rvD r i).toNat 0 + rvL r i := by unfold lowR; rw [if_neg hdd]
   omega
 ·rw [if_neg e] at hdj
  rw [if_neg e]
  obtain ⟨h1, h2, h3⟩ := ha.ok j hj hdj
  refine ⟨h1, h2, fun hdd => ?_⟩
  obtain ⟨h4, h5⟩ := h3 hdd
  have e2 : i ≠ (rvD r j).toNat := fun e2 => by rw [← e2, hn] at h4; cases h4
  rw [if_neg e2, if_neg e2]
  exact ⟨h4, h5⟩
theorem any_done {r : List RvR} {h : List Int} {done : List Bool} (ha : AnyI r h done) (hd : ∀ i, i < r.length → done.getD i false = true) (hg : RGood r) :
  RunsD r (fun i => h.getD i 0) ∧ ∀ i, i < r.length → 0 ≤ h.getD i 0 ∧ h.getD i 0 ≤ 9000 :=
 ⟨fun i hi hm => ((ha.ok i hi (hd i hi)).2.2 hm).2, fun i hi => by
  obtain ⟨h1, h2, _⟩ := ha.ok i hi (hd i hi)
  have := h2 i hi
  omega⟩
structure AnyR (r : List RvR) (n cur : Nat) (done : List Bool) : Prop where
 old : ∀ i, i < r.length → depth r i < n → done.getD i false = true
 new : ∀ i, i < r.length → i < cur → depth r i < n + 1 → done.getD i false = true
theorem anyR_zero {r : List RvR} {done : List Bool} : AnyR r 0 0 done := ⟨fun _ _ h => absurd h (by omega), fun _ _ h => absurd h (by omega)⟩
theorem anyR_round {r : List RvR} {n : Nat} {done : List Bool} (h : AnyR r n r.length done) : AnyR r (n + 1) 0 done := ⟨fun i hi hd => h.new i hi hi hd, fun _ _ h => absurd h (by omega)⟩
theorem anyR_set {r : List RvR} {n cur : Nat} {done : List Bool} (h : AnyR r n cur done) (hc : cur < done.length) : AnyR r n (cur + 1) (done.set cur true) :=
 ⟨fun i hi hd => by rw [getD_set hc]; split; rfl; exact h.old i hi hd, fun i hi hcu hd => by
  rw [getD_set hc]
  split
  ·rfl
  ·exact h.new i hi (by omega) hd⟩
theorem anyR_skip {r : List RvR} (hg : RGood r) {n cur : Nat} {done : List Bool} (h : AnyR r n cur done) (hc : done.getD cur false = true ∨ (rvD r cur ≠ -1 ∧ done.getD (rvD r cur).toNat false = false)) : AnyR r n (cur + 1) done :=
 ⟨h.old, fun i hi hcu hd => by
  by_cases e : i = cur
  ·subst e
   rcases hc with hc | ⟨h1, h2⟩
   ·exact hc
   ·have hl := down_lt hg hi h1
    have := h.old _ hl (by have := depth_down hg hi h1; omega)
    rw [h2] at this
    cases this
  ·exact h.new i hi (by omega) hd⟩
theorem anyR_all {r : List RvR} (hg : RGood r) {done : List Bool} (h : AnyR r r.length 0 done) : ∀ i, i < r.length → done.getD i false = true := fun i hi => h.old i hi (depth_lt hg hi)
end Go.Proofs.YthnimhnlnddnoaaGreatDoor
