/- Words for the walks of the layer order: what a slice reads as; what a call leaves as it was. -/
import Derived.Test.YtkmaapkbonkjfaaProg
import Derived.Test.YtkmaapkbonkjfaaGPure
import Derived.WalkKit
import Derived.Deep.AppendLies
import Derived.Deep.Draws
import Derived.Deep.Quiet
import Derived.Lib.Hide
import Derived.BigQuiet
import Derived.Deep.QuietTactic
import Derived.StillTailTactics
import Derived.WalkSpells
import Derived.WalkLawsBesides
import Derived.WalkSmall
import Derived.KernelRfl
set_option linter.unusedSimpArgs false
set_option linter.unusedVariables false
namespace Go.Proofs.Ytkmaapkbonkjfaa
open Go.RowKit

/-- nothing but draws -/
def Qt (w w' : World) : Prop := ∃ n, w' = w.drewN n
theorem Qt.refl (w : World) : Qt w w := ⟨0, rfl⟩
theorem Qt.trans {a b c : World} (h : Qt a b) (k : Qt b c) : Qt a c := by
  obtain ⟨n, rfl⟩ := h
  obtain ⟨m, rfl⟩ := k
  exact ⟨n + m, by rw [World.drewN_drewN]⟩
theorem Qt.below {w w' : World} (h : Qt w w') (B : Nat) : Below B w w' := by
  obtain ⟨n, rfl⟩ := h
  exact below_drewN (Below.refl _ _) n

theorem Qt.cell {w w' : World} (h : Qt w w') {a : Addr} {v : Value} (hc : w.cell? a = some v) : w'.cell? a = some v := by
  obtain ⟨n, rfl⟩ := h
  exact hc
theorem Qt.drewN {w w' : World} (h : Qt w w') (n : Nat) : Qt w (w'.drewN n) := h.trans ⟨n, rfl⟩
theorem ret_int {k : IntKind} {a b : Int} (h : a = b) : Ending.returned (.int k a) = .returned (.int k b) := by rw [h]
theorem ret_bool {a b : Bool} (h : a = b) : Ending.returned (.bool a) = .returned (.bool b) := by rw [h]
theorem val_int {a b : Int} (h : a = b) : Value.int .i64 a = .int .i64 b := by rw [h]

theorem block_add (a : Addr) (n : Nat) : (a.add n).block = a.block := by unfold Addr.add; split <;> rfl

/-- what is read at an address hangs on the cells of its block alone -/
class AtKeep {α : Type} (At : World → Addr → α → Prop) : Prop where
  keep : ∀ (w w' : World) (a : Addr) (x : α), (∀ p : Addr, p.block = a.block → w'.cell? p = w.cell? p) → At w a x → At w' a x
  some_ : ∀ (w : World) (a : Addr) (x : α), At w a x → ∃ v, w.cell? a = some v

def IntAt (w : World) (a : Addr) (n : Int) : Prop := w.cell? a = some (.int .i64 n)
def StrAt (w : World) (a : Addr) (s : ByteArray) : Prop := w.cell? a = some (.string s)
def OrdAt (w : World) (a : Addr) (o : OrdR) : Prop :=
  w.cell? a = some (.int .i64 o.part) ∧ w.cell? ⟨a.block, a.off + 1, none⟩ = some (.int .i64 o.many) ∧ w.cell? ⟨a.block, a.off + 2, none⟩ = some (.int .i64 o.due) ∧ w.cell? ⟨a.block, a.off + 3, none⟩ = some (.int .i64 o.worth)
def PartAt (w : World) (a : Addr) (p : PartR) : Prop :=
  w.cell? a = some (.string p.name) ∧ w.cell? ⟨a.block, a.off + 1, none⟩ = some (.int .i64 p.batch) ∧ w.cell? ⟨a.block, a.off + 2, none⟩ = some (.int .i64 p.long) ∧ w.cell? ⟨a.block, a.off + 3, none⟩ = some (.int .i64 p.stock)
def CastAt (w : World) (a : Addr) (c : Int × Int) : Prop :=
  w.cell? a = some (.int .i64 c.1) ∧ w.cell? ⟨a.block, a.off + 1, none⟩ = some (.int .i64 c.2)

instance : AtKeep IntAt := ⟨fun _ _ a _ h k => (h a rfl).trans k, fun _ _ _ h => ⟨_, h⟩⟩
instance : AtKeep StrAt := ⟨fun _ _ a _ h k => (h a rfl).trans k, fun _ _ _ h => ⟨_, h⟩⟩
instance : AtKeep OrdAt := ⟨fun _ _ a _ h ⟨h0, h1, h2, h3⟩ => ⟨(h a rfl).trans h0, (h ⟨a.block, a.off + 1, none⟩ rfl).trans h1, (h ⟨a.block, a.off + 2, none⟩ rfl).trans h2, (h ⟨a.block, a.off + 3, none⟩ rfl).trans h3⟩, fun _ _ _ h => ⟨_, h.1⟩⟩
instance : AtKeep PartAt := ⟨fun _ _ a _ h ⟨h0, h1, h2, h3⟩ => ⟨(h a rfl).trans h0, (h ⟨a.block, a.off + 1, none⟩ rfl).trans h1, (h ⟨a.block, a.off + 2, none⟩ rfl).trans h2, (h ⟨a.block, a.off + 3, none⟩ rfl).trans h3⟩, fun _ _ _ h => ⟨_, h.1⟩⟩
instance : AtKeep CastAt := ⟨fun _ _ a _ h ⟨h0, h1⟩ => ⟨(h a rfl).trans h0, (h ⟨a.block, a.off + 1, none⟩ rfl).trans h1⟩, fun _ _ _ h => ⟨_, h.1⟩⟩

/-- the slice v reads as xs, in blocks below B -/
def Rd {α : Type} (At : World → Addr → α → Prop) (sz B : Nat) (w : World) (v : Value) (xs : List α) : Prop :=
  ∃ A cap, v = .slice A xs.length cap ∧ xs.length ≤ cap ∧ cap ≤ 9223372036854775807 ∧ ∀ i x, xs[i]? = some x → ∃ ad, A = some ad ∧ ad.block < B ∧ At w (ad.add (i * sz)) x

section
variable {α : Type} {At : World → Addr → α → Prop} {sz B B' : Nat} {w w' : World} {v : Value} {xs : List α}
theorem Rd.keep [AtKeep At] (h : Rd At sz B w v xs) (hk : ∀ p : Addr, p.block < B → w'.cell? p = w.cell? p) : Rd At sz B w' v xs := by
  obtain ⟨A, cap, e, h1, h2, h3⟩ := h
  refine ⟨A, cap, e, h1, h2, fun i x hx => ?_⟩
  obtain ⟨ad, e2, hb, ha⟩ := h3 i x hx
  exact ⟨ad, e2, hb, AtKeep.keep w w' _ x (fun p hp => hk p (by rw [hp, block_add]; exact hb)) ha⟩
theorem Rd.mono (h : Rd At sz B w v xs) (hB : B ≤ B') : Rd At sz B' w v xs := by
  obtain ⟨A, cap, e, h1, h2, h3⟩ := h
  exact ⟨A, cap, e, h1, h2, fun i x hx => by obtain ⟨ad, e2, hb, ha⟩ := h3 i x hx; exact ⟨ad, e2, by omega, ha⟩⟩
theorem Rd.below [AtKeep At] (h : Rd At sz B w v xs) (hb : Below B w w') : Rd At sz B w' v xs := h.keep fun _ hp => hb.cell hp
theorem Rd.qt [AtKeep At] (h : Rd At sz B w v xs) (hb : Qt w w') : Rd At sz B w' v xs := h.below (hb.below B)
/-- cells that a slice reads stay where each cell that there is stays -/
theorem Rd.stay [AtKeep At] (h : Rd At sz B w v xs) (hk : ∀ (b : Nat) (c : Array Value) (e : TypeId) (f : Nat × Nat), b < B → w.heap[b]? = some (.cells c e f) → w'.heap[b]? = some (.cells c e f)) : Rd At sz B w' v xs := by
  obtain ⟨A, cap, e, h1, h2, h3⟩ := h
  refine ⟨A, cap, e, h1, h2, fun i x hx => ?_⟩
  obtain ⟨ad, e2, hb, ha⟩ := h3 i x hx
  refine ⟨ad, e2, hb, AtKeep.keep w w' _ x (fun p hp => ?_) ha⟩
  obtain ⟨v, hv⟩ := AtKeep.some_ w _ x ha
  rw [block_add] at hp
  have hb' : p.block < B := by omega
  unfold World.cell? at hv ⊢
  rw [block_add, ← hp] at hv
  cases ho : w.heap[p.block]? with
  | none => simp [ho] at hv
  | some o =>
    cases o with
    | cells c e f => rw [hk _ _ _ _ hb' ho]
    | _ => simp [ho] at hv
theorem Rd.alloc [AtKeep At] (h : Rd At sz B w v xs) (hB : B ≤ w.heap.size) (o : Obj) : Rd At sz B (w.alloc o) v xs := h.keep fun p hp => World.cell?_alloc_lt w o p (by omega)
theorem Rd.setCell [AtKeep At] (h : Rd At sz B w v xs) {p : Addr} (hB : B ≤ p.block) (u : Value) : Rd At sz B (w.setCell p u) v xs :=
  h.keep fun q hq => World.cell?_setCell_other w p q u (fun e => by subst e; omega)
theorem Rd.grown [AtKeep At] (h : Rd At sz B w v xs) {row : Option Nat} (hg : w.grownBy w' row) (hB : B ≤ w.heap.size) (hr : ∀ g, row = some g → B ≤ g) : Rd At sz B w' v xs :=
  h.keep fun p hp => World.cell?_of_block (hg.block p.block (by omega) (fun e => by have := hr _ e.symm; omega))
theorem Rd.nil (B : Nat) (w : World) : Rd At sz B w (.slice none 0 0) ([] : List α) := ⟨none, 0, rfl, by simp, by omega, by simp⟩
theorem Rd.len (h : Rd At sz B w v xs) : xs.length ≤ 9223372036854775807 := by
  obtain ⟨A, cap, e, h1, h2, h3⟩ := h
  omega
end
theorem Rd.int {B i : Nat} {w : World} {A : Option Addr} {n cap : Nat} {xs : List Int} (h : Rd IntAt 1 B w (.slice A n cap) xs) (hi : i < xs.length) :
    ∃ ad, A = some ad ∧ ad.block < B ∧ w.cell? (ad.add i) = some (.int .i64 (xs[i]?.getD 0)) := by
  obtain ⟨A', cap', e, h1, h2, h3⟩ := h
  obtain ⟨ad, e2, hb, ha⟩ := h3 i xs[i] (List.getElem?_eq_getElem hi)
  injection e with e e' e''
  subst e
  exact ⟨ad, e2, hb, by rw [Nat.mul_one] at ha; simpa [List.getElem?_eq_getElem hi, IntAt] using ha⟩
theorem Rd.ord {B i : Nat} {w : World} {A : Option Addr} {n cap : Nat} {xs : List OrdR} (h : Rd OrdAt 4 B w (.slice A n cap) xs) (hi : i < xs.length) :
    ∃ ad, A = some ad ∧ ad.block < B ∧ OrdAt w (ad.add (i * 4)) (xs[i]?.getD default) := by
  obtain ⟨A', cap', e, h1, h2, h3⟩ := h
  obtain ⟨ad, e2, hb, ha⟩ := h3 i xs[i] (List.getElem?_eq_getElem hi)
  injection e with e e' e''
  subst e
  exact ⟨ad, e2, hb, by simpa [List.getElem?_eq_getElem hi] using ha⟩
theorem Rd.part {B i : Nat} {w : World} {A : Option Addr} {n cap : Nat} {xs : List PartR} (h : Rd PartAt 4 B w (.slice A n cap) xs) (hi : i < xs.length) :
    ∃ ad, A = some ad ∧ ad.block < B ∧ PartAt w (ad.add (i * 4)) (xs[i]?.getD default) := by
  obtain ⟨A', cap', e, h1, h2, h3⟩ := h
  obtain ⟨ad, e2, hb, ha⟩ := h3 i xs[i] (List.getElem?_eq_getElem hi)
  injection e with e e' e''
  subst e
  exact ⟨ad, e2, hb, by simpa [List.getElem?_eq_getElem hi] using ha⟩

/-- a literal slice of one number, in a new block -/
theorem Rd.one (w : World) (x : Int) : Rd IntAt 1 (w.heap.size + 1) (w.alloc (.cells #[.int .i64 x] 3)) (.slice (some ⟨w.heap.size, 0, none⟩) 1 1) [x] := by
  refine ⟨_, _, rfl, by simp, by omega, fun i y hy => ?_⟩
  match i, hy with
  | 0, hy =>
    simp at hy
    subst hy
    exact ⟨_, rfl, by simp, (cell_of_row _ _ 0 _ _ _ (heap_alloc_new w _)).trans rfl⟩
/-- a shop, by value -/
def RdShop (B : Nat) (w : World) (v : Value) (s : ShopR) : Prop :=
  ∃ vh vp vo, v = .agg #[vh, vp, vo] ∧ Rd IntAt 1 B w vh s.hours ∧ Rd PartAt 4 B w vp s.parts ∧ Rd OrdAt 4 B w vo s.orders
section
variable {B B' : Nat} {w w' : World} {v : Value} {s : ShopR}
theorem RdShop.keep (h : RdShop B w v s) (hk : ∀ p : Addr, p.block < B → w'.cell? p = w.cell? p) : RdShop B w' v s := by
  obtain ⟨vh, vp, vo, e, h1, h2, h3⟩ := h
  exact ⟨vh, vp, vo, e, h1.keep hk, h2.keep hk, h3.keep hk⟩
theorem RdShop.mono (h : RdShop B w v s) (hB : B ≤ B') : RdShop B' w v s := by
  obtain ⟨vh, vp, vo, e, h1, h2, h3⟩ := h
  exact ⟨vh, vp, vo, e, h1.mono hB, h2.mono hB, h3.mono hB⟩
theorem RdShop.below (h : RdShop B w v s) (hb : Below B w w') : RdShop B w' v s := h.keep fun _ hp => hb.cell hp
theorem RdShop.qt (h : RdShop B w v s) (hb : Qt w w') : RdShop B w' v s := h.below (hb.below B)
theorem RdShop.alloc (h : RdShop B w v s) (hB : B ≤ w.heap.size) (o : Obj) : RdShop B (w.alloc o) v s := h.keep fun p hp => World.cell?_alloc_lt w o p (by omega)
end
/-- a shop in a block of its own -/
theorem shop_box (w : World) (vh vp vo : Value) : ∃ W, W = w.alloc (.cells #[vh, vp, vo] 26) ∧ W.cell? ⟨w.heap.size, 0, none⟩ = some vh ∧ W.cell? ⟨w.heap.size, 1, none⟩ = some vp ∧ W.cell? ⟨w.heap.size, 2, none⟩ = some vo ∧
    W.heap.size = w.heap.size + 1 ∧ Below w.heap.size w W ∧ W.heap[w.heap.size]? = some (.cells #[vh, vp, vo] 26) := by
  have h : (w.alloc (.cells #[vh, vp, vo] 26)).heap[w.heap.size]? = some (.cells #[vh, vp, vo] 26) := heap_alloc_new w _
  exact ⟨_, rfl, (cell_of_row _ _ 0 _ _ _ h).trans rfl, (cell_of_row _ _ 1 _ _ _ h).trans rfl, (cell_of_row _ _ 2 _ _ _ h).trans rfl, by simp, (Below.refl _ _).alloc (Nat.le_refl _) _, h⟩
/-- any new block -/
theorem box_any (w : World) (cs : Array Value) (t : TypeId) : ∃ W, W = w.alloc (.cells cs t) ∧ W.heap[w.heap.size]? = some (.cells cs t) ∧ W.heap.size = w.heap.size + 1 ∧ Below w.heap.size w W :=
  ⟨_, rfl, heap_alloc_new w _, by simp, (Below.refl _ _).alloc (Nat.le_refl _) _⟩
theorem cellOf {w : World} {b : Nat} {cs : Array Value} {t : TypeId} (h : w.heap[b]? = some (.cells cs t)) (i : Nat) {v : Value} (hv : cs[i]? = some v) : w.cell? ⟨b, i, none⟩ = some v :=
  (cell_of_row _ _ i _ _ _ h).trans hv
/-! ### slices of the call's own -/
/-- how a thing lies in cells -/
class Enc (α : Type) (At : outParam (World → Addr → α → Prop)) (sz : outParam Nat) where
  enc : α → List Value
  len : ∀ x, (enc x).length = sz
  at_ : ∀ (w : World) (b o : Nat) (x : α), (∀ j u, (enc x)[j]? = some u → w.cell? ⟨b, o + j, none⟩ = some u) → At w ⟨b, o, none⟩ x
instance : Enc Int IntAt 1 := ⟨fun n => [.int .i64 n], fun _ => rfl, fun _ _ _ _ h => h 0 _ rfl⟩
instance : Enc ByteArray StrAt 1 := ⟨fun s => [.string s], fun _ => rfl, fun _ _ _ _ h => h 0 _ rfl⟩
instance : Enc OrdR OrdAt 4 := ⟨fun o => [.int .i64 o.part, .int .i64 o.many, .int .i64 o.due, .int .i64 o.worth], fun _ => rfl, fun _ _ _ _ h => ⟨h 0 _ rfl, h 1 _ rfl, h 2 _ rfl, h 3 _ rfl⟩⟩
instance : Enc PartR PartAt 4 := ⟨fun o => [.string o.name, .int .i64 o.batch, .int .i64 o.long, .int .i64 o.stock], fun _ => rfl, fun _ _ _ _ h => ⟨h 0 _ rfl, h 1 _ rfl, h 2 _ rfl, h 3 _ rfl⟩⟩
instance : Enc (Int × Int) CastAt 2 := ⟨fun c => [.int .i64 c.1, .int .i64 c.2], fun _ => rfl, fun _ _ _ _ h => ⟨h 0 _ rfl, h 1 _ rfl⟩⟩

section
variable {α : Type} {At : World → Addr → α → Prop} {sz : Nat} [E : Enc α At sz]
theorem flat_len (xs : List α) : (xs.flatMap E.enc).length = xs.length * sz := by
  induction xs with
  | nil => simp
  | cons x xs ih => simp [ih, E.len, Nat.add_mul]; omega
theorem flat_at {xs : List α} {i : Nat} {x : α} (hx : xs[i]? = some x) {j : Nat} {u : Value} (hu : (E.enc x)[j]? = some u) : (xs.flatMap E.enc)[i * sz + j]? = some u := by
  induction xs generalizing i with
  | nil => simp at hx
  | cons y xs ih =>
    cases i with
    | zero =>
      simp at hx
      subst hx
      rw [List.flatMap_cons, List.getElem?_append_left (by have := (List.getElem?_eq_some_iff.1 hu).1; omega)]
      simpa using hu
    | succ i =>
      simp at hx
      rw [List.flatMap_cons, List.getElem?_append_right (by rw [E.len, Nat.add_mul]; omega), E.len, show (i + 1) * sz + j - sz = i * sz + j by rw [Nat.add_mul]; omega]
      exact ih hx
/-- v is a slice of the call's own, in a block from base on, that holds xs -/
def Own (base : Nat) (e : TypeId) (w : World) (v : Value) (xs : List α) : Prop := w.ownsRow base e sz v xs.length (xs.flatMap E.enc)
theorem Own.rd {base : Nat} {e : TypeId} {w : World} {v : Value} {xs : List α} (h : Own base e w v xs) : Rd At sz w.heap.size w v xs := by
  rcases id h with ⟨hl, ⟨rfl, h0⟩ | ⟨g, cap, cur, rfl, hb, hh, hn, hc, hsz, hx⟩⟩
  · have : xs = [] := List.eq_nil_of_length_eq_zero h0
    subst this
    exact Rd.nil _ _
  · refine ⟨_, _, rfl, hn, hc, fun i x hi => ⟨_, rfl, lt_of_block hh, ?_⟩⟩
    have hadd : (⟨g, 0, none⟩ : Addr).add (i * sz) = ⟨g, i * sz, none⟩ := by unfold Addr.add; split <;> simp_all
    rw [hadd]
    refine E.at_ w g _ x fun j u hu => ?_
    have hlt : i * sz + j < xs.length * sz := by
      have h1 := (List.getElem?_eq_some_iff.1 (flat_at hi hu)).1
      rwa [flat_len] at h1
    rw [World.ownsRow.cellAt h _ hlt]
    exact flat_at hi hu
theorem Own.below {base : Nat} {e : TypeId} {w w' : World} {v : Value} {xs : List α} (h : Own base e w v xs) (hb : Below w.heap.size w w') : Own base e w' v xs := by
  rcases h with ⟨hl, h0 | ⟨g, cap, cur, rfl, hbb, hh, r⟩⟩
  · exact ⟨hl, .inl h0⟩
  · exact ⟨hl, .inr ⟨g, cap, cur, rfl, hbb, (hb.block g (lt_of_block hh)).trans hh, r⟩⟩
theorem Own.alloc {base : Nat} {e : TypeId} {w : World} {v : Value} {xs : List α} (h : Own base e w v xs) (o : Obj) : Own base e (w.alloc o) v xs := h.below ((Below.refl _ _).alloc (Nat.le_refl _) _)
theorem Own.qt {base : Nat} {e : TypeId} {w w' : World} {v : Value} {xs : List α} (h : Own base e w v xs) (hb : Qt w w') : Own base e w' v xs := h.below (hb.below _)
theorem Own.nil (base : Nat) (e : TypeId) (w : World) : Own base e w (.slice none 0 0) ([] : List α) := World.ownsRow_nil w base e sz
theorem Own.mono {base base' : Nat} {e : TypeId} {w : World} {v : Value} {xs : List α} (h : Own base e w v xs) (hb : base' ≤ base) : Own base' e w v xs := by
  rcases h with ⟨hl, h0 | ⟨g, cap, cur, rfl, hbb, r⟩⟩
  · exact ⟨hl, .inl h0⟩
  · exact ⟨hl, .inr ⟨g, cap, cur, rfl, by omega, r⟩⟩
/-- behind an append -/
theorem Own.of_append {base : Nat} {e : TypeId} {w : World} {v : Value} {xs ys : List α} {n : Nat} (hn : n = xs.length + ys.length) (h : w.ownsRow base e sz v n (xs.flatMap E.enc ++ ys.flatMap E.enc)) : Own base e w v (xs ++ ys) := by
  subst hn
  unfold Own
  rwa [List.length_append, List.flatMap_append]
end
theorem Rd.str {B i : Nat} {w : World} {A : Option Addr} {n cap : Nat} {xs : List ByteArray} (h : Rd StrAt 1 B w (.slice A n cap) xs) (hi : i < xs.length) :
    ∃ ad, A = some ad ∧ ad.block < B ∧ w.cell? (ad.add i) = some (.string (xs[i]?.getD ByteArray.empty)) := by
  obtain ⟨A', cap', e, h1, h2, h3⟩ := h
  obtain ⟨ad, e2, hb, ha⟩ := h3 i xs[i] (List.getElem?_eq_getElem hi)
  injection e with e e' e''
  subst e
  exact ⟨ad, e2, hb, by rw [Nat.mul_one] at ha; simpa [List.getElem?_eq_getElem hi, StrAt] using ha⟩

/-! ### regions that draw their order and hold calls that make memory: one walk in the order of the text, in whatever world keeps all that there was -/
theorem cell_lt {w : World} {a : Addr} {v : Value} (h : w.cell? a = some v) : a.block < w.heap.size := by
  rcases Nat.lt_or_ge a.block w.heap.size with h' | h'
  · exact h'
  · simp [World.cell?, Array.getElem?_eq_none h'] at h
/-- the worlds that keep all that there was -/
def Aft (w : World) : Type := { x : World // Below w.heap.size w x }
instance (w : World) : Nonempty (Aft w) := ⟨⟨w, Below.refl _ _⟩⟩
theorem Aft.le {w : World} {B : Nat} (h : B ≤ w.heap.size) (x : Aft w) : B ≤ x.1.heap.size := Nat.le_trans h x.2.size
theorem Aft.cell {w : World} {a : Addr} {v : Value} (h : w.cell? a = some v) : ∀ x : Aft w, x.1.cell? a = some v := fun x => (x.2.cell (cell_lt h)).trans h
theorem Aft.rd {α : Type} {At : World → Addr → α → Prop} [AtKeep At] {sz B : Nat} {w : World} {v : Value} {xs : List α} (h : Rd At sz B w v xs) (hB : B ≤ w.heap.size) : ∀ x : Aft w, Rd At sz B x.1 v xs := fun x => h.below (x.2.mono hB)
theorem Aft.shop {B : Nat} {w : World} {v : Value} {s : ShopR} (h : RdShop B w v s) (hB : B ≤ w.heap.size) : ∀ x : Aft w, RdShop B x.1 v s := fun x => h.below (x.2.mono hB)
theorem Aft.call {P : Program} {f : FuncId} {args : Array Value} {w : World} {x : Aft w} {v : Value} (h : Calls P f args x.1 fun e w' => e = .returned v ∧ Below x.1.heap.size x.1 w') :
    Calls P f args x.1 fun e w' => e = .returned v ∧ ∃ y : Aft w, w' = y.1 :=
  h.mono fun _ w' ⟨he, hb⟩ => ⟨he, ⟨w', x.2.trans (hb.mono x.2.size)⟩, rfl⟩
theorem Aft.call_same {P : Program} {f : FuncId} {args : Array Value} {w : World} {x : Aft w} {v : Value} (h : Calls P f args x.1 fun e w' => e = .returned v ∧ w' = x.1) :
    Calls P f args x.1 fun e w' => e = .returned v ∧ ∃ y : Aft w, w' = y.1 :=
  h.mono fun _ _ ⟨he, hb⟩ => ⟨he, x, hb⟩
theorem Aft.call_qt {P : Program} {f : FuncId} {args : Array Value} {w : World} {x : Aft w} {v : Value} (h : Calls P f args x.1 fun e w' => e = .returned v ∧ Qt x.1 w') :
    Calls P f args x.1 fun e w' => e = .returned v ∧ ∃ y : Aft w, w' = y.1 :=
  h.mono fun _ w' ⟨he, hb⟩ => ⟨he, ⟨w', x.2.trans (hb.below _)⟩, rfl⟩
theorem wp_region_aft {P : Program} {id : Nat} {Q : Exit → Act → World → Prop} {a : Act} {w : World} {l : List Oper} (hm : P.follows .mixedOrders = true) (hB : Region.lexB .any l.toArray = true)
    (h : wpQuiet P l.toArray (fun w' => ∃ x : Aft w, w' = x.1) (fun a' => ∀ w', (∃ x : Aft w, w' = x.1) → Q .normal a' w') l a) : (Code.region id l.toArray true).wp P Q a w :=
  wp_region_quiet (C := fun w' => ∃ x : Aft w, w' = x.1) hm hB ⟨⟨w.drew, (Below.refl _ _).drew⟩, rfl⟩ (by simpa using h)
theorem getD_some {α : Type} {xs : List α} {i : Nat} {x d : α} (h : xs[i]? = some x) : xs[i]?.getD d = x := by rw [h]; rfl
end Go.Proofs.Ytkmaapkbonkjfaa
