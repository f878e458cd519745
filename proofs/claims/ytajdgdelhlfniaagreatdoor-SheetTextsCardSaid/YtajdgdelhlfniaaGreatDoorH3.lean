/- Words for the walks of the layer sheet: what a slice reads as; what a call leaves as it was. Walks of the layer sheet: out, and the library's IndexFunc and ContainsFunc with it. Walks of the layer sheet: sheet.Name and the reference's Name, Place, Fresh. -/
import Derived.Test.YtajdgdelhlfniaaGreatDoorProg
import Derived.Test.YtajdgdelhlfniaaGreatDoorH2
import Derived.WalkKit
import Derived.Deep.AppendLies
import Derived.Deep.Draws
import Derived.Deep.Quiet
import Derived.Lib.Hide
import Derived.BigQuiet
import Derived.Deep.QuietTactic
import Derived.StillTailTactics
import Derived.WalkSpells
import Derived.WalkLawsBesides
import Derived.WalkSmall
import Derived.KernelRfl
import Derived.Deep.Cut
import Derived.Laws.RangeAny
import Derived.Laws.RangeString
set_option linter.unusedSimpArgs false
set_option linter.unusedVariables false
namespace Go.Proofs.YtajdgdelhlfniaaGreatDoor
open Go.RowKit

/-- nothing but draws -/
def Qt (w w' : World) : Prop := ∃ n, w' = w.drewN n
theorem Qt.refl (w : World) : Qt w w := ⟨0, rfl⟩
theorem Qt.trans {a b c : World} (h : Qt a b) (k : Qt b c) : Qt a c := by
  obtain ⟨n, rfl⟩ := h
  obtain ⟨m, rfl⟩ := k
  exact ⟨n + m, by rw [World.drewN_drewN]⟩
theorem Qt.below {w w' : World} (h : Qt w w') (B : Nat) : Below B w w' := by
  obtain ⟨n, rfl⟩ := h
  exact below_drewN (Below.refl _ _) n

theorem Qt.cell {w w' : World} (h : Qt w w') {a : Addr} {v : Value} (hc : w.cell? a = some v) : w'.cell? a = some v := by
  obtain ⟨n, rfl⟩ := h
  exact hc
theorem Qt.drewN {w w' : World} (h : Qt w w') (n : Nat) : Qt w (w'.drewN n) := h.trans ⟨n, rfl⟩
theorem ret_int {k : IntKind} {a b : Int} (h : a = b) : Ending.returned (.int k a) = .returned (.int k b) := by rw [h]
theorem ret_bool {a b : Bool} (h : a = b) : Ending.returned (.bool a) = .returned (.bool b) := by rw [h]
theorem val_int {a b : Int} (h : a = b) : Value.int .i64 a = .int .i64 b := by rw [h]

theorem block_add (a : Addr) (n : Nat) : (a.add n).block = a.block := by unfold Addr.add; split <;> rfl

/-- what is read at an address hangs on the cells of its block alone -/
class AtKeep {α : Type} (At : World → Addr → α → Prop) : Prop where
  keep : ∀ (w w' : World) (a : Addr) (x : α), (∀ p : Addr, p.block = a.block → w'.cell? p = w.cell? p) → At w a x → At w' a x
  some_ : ∀ (w : World) (a : Addr) (x : α), At w a x → ∃ v, w.cell? a = some v

def IntAt (w : World) (a : Addr) (n : Int) : Prop := w.cell? a = some (.int .i64 n)
def StrAt (w : World) (a : Addr) (s : ByteArray) : Prop := w.cell? a = some (.string s)
def NoteAt (w : World) (a : Addr) (o : NoteR) : Prop :=
  w.cell? a = some (.int .i64 o.kind) ∧ w.cell? ⟨a.block, a.off + 1, none⟩ = some (.int .i64 o.a) ∧ w.cell? ⟨a.block, a.off + 2, none⟩ = some (.int .i64 o.b) ∧ w.cell? ⟨a.block, a.off + 3, none⟩ = some (.int .i64 o.lo) ∧ w.cell? ⟨a.block, a.off + 4, none⟩ = some (.int .i64 o.hi)
def SpanAt (w : World) (a : Addr) (c : Int × Int) : Prop :=
  w.cell? a = some (.int .i64 c.1) ∧ w.cell? ⟨a.block, a.off + 1, none⟩ = some (.int .i64 c.2)

instance : AtKeep IntAt := ⟨fun _ _ a _ h k => (h a rfl).trans k, fun _ _ _ h => ⟨_, h⟩⟩
instance : AtKeep StrAt := ⟨fun _ _ a _ h k => (h a rfl).trans k, fun _ _ _ h => ⟨_, h⟩⟩
instance : AtKeep NoteAt := ⟨fun _ _ a _ h ⟨h0, h1, h2, h3, h4⟩ => ⟨(h a rfl).trans h0, (h ⟨a.block, a.off + 1, none⟩ rfl).trans h1, (h ⟨a.block, a.off + 2, none⟩ rfl).trans h2, (h ⟨a.block, a.off + 3, none⟩ rfl).trans h3, (h ⟨a.block, a.off + 4, none⟩ rfl).trans h4⟩, fun _ _ _ h => ⟨_, h.1⟩⟩
instance : AtKeep SpanAt := ⟨fun _ _ a _ h ⟨h0, h1⟩ => ⟨(h a rfl).trans h0, (h ⟨a.block, a.off + 1, none⟩ rfl).trans h1⟩, fun _ _ _ h => ⟨_, h.1⟩⟩

/-- the slice v reads as xs, in blocks below B -/
def Rd {α : Type} (At : World → Addr → α → Prop) (sz B : Nat) (w : World) (v : Value) (xs : List α) : Prop :=
  ∃ A cap, v = .slice A xs.length cap ∧ xs.length ≤ cap ∧ cap ≤ 9223372036854775807 ∧ ∀ i x, xs[i]? = some x → ∃ ad, A = some ad ∧ ad.block < B ∧ At w (ad.add (i * sz)) x

section
variable {α : Type} {At : World → Addr → α → Prop} {sz B B' : Nat} {w w' : World} {v : Value} {xs : List α}
theorem Rd.keep [AtKeep At] (h : Rd At sz B w v xs) (hk : ∀ p : Addr, p.block < B → w'.cell? p = w.cell? p) : Rd At sz B w' v xs := by
  obtain ⟨A, cap, e, h1, h2, h3⟩ := h
  refine ⟨A, cap, e, h1, h2, fun i x hx => ?_⟩
  obtain ⟨ad, e2, hb, ha⟩ := h3 i x hx
  exact ⟨ad, e2, hb, AtKeep.keep w w' _ x (fun p hp => hk p (by rw [hp, block_add]; exact hb)) ha⟩
theorem Rd.mono (h : Rd At sz B w v xs) (hB : B ≤ B') : Rd At sz B' w v xs := by
  obtain ⟨A, cap, e, h1, h2, h3⟩ := h
  exact ⟨A, cap, e, h1, h2, fun i x hx => by obtain ⟨ad, e2, hb, ha⟩ := h3 i x hx; exact ⟨ad, e2, by omega, ha⟩⟩
theorem Rd.below [AtKeep At] (h : Rd At sz B w v xs) (hb : Below B w w') : Rd At sz B w' v xs := h.keep fun _ hp => hb.cell hp
theorem Rd.qt [AtKeep At] (h : Rd At sz B w v xs) (hb : Qt w w') : Rd At sz B w' v xs := h.below (hb.below B)
/-- cells that a slice reads stay where each cell that there is stays -/
theorem Rd.stay [AtKeep At] (h : Rd At sz B w v xs) (hk : ∀ (b : Nat) (c : Array Value) (e : TypeId) (f : Nat × Nat), b < B → w.heap[b]? = some (.cells c e f) → w'.heap[b]? = some (.cells c e f)) : Rd At sz B w' v xs := by
  obtain ⟨A, cap, e, h1, h2, h3⟩ := h
  refine ⟨A, cap, e, h1, h2, fun i x hx => ?_⟩
  obtain ⟨ad, e2, hb, ha⟩ := h3 i x hx
  refine ⟨ad, e2, hb, AtKeep.keep w w' _ x (fun p hp => ?_) ha⟩
  obtain ⟨v, hv⟩ := AtKeep.some_ w _ x ha
  rw [block_add] at hp
  have hb' : p.block < B := by omega
  unfold World.cell? at hv ⊢
  rw [block_add, ← hp] at hv
  cases ho : w.heap[p.block]? with
  | none => simp [ho] at hv
  | some o =>
    cases o with
    | cells c e f => rw [hk _ _ _ _ hb' ho]
    | _ => simp [ho] at hv
theorem Rd.alloc [AtKeep At] (h : Rd At sz B w v xs) (hB : B ≤ w.heap.size) (o : Obj) : Rd At sz B (w.alloc o) v xs := h.keep fun p hp => World.cell?_alloc_lt w o p (by omega)
theorem Rd.setCell [AtKeep At] (h : Rd At sz B w v xs) {p : Addr} (hB : B ≤ p.block) (u : Value) : Rd At sz B (w.setCell p u) v xs :=
  h.keep fun q hq => World.cell?_setCell_other w p q u (fun e => by subst e; omega)
theorem Rd.grown [AtKeep At] (h : Rd At sz B w v xs) {row : Option Nat} (hg : w.grownBy w' row) (hB : B ≤ w.heap.size) (hr : ∀ g, row = some g → B ≤ g) : Rd At sz B w' v xs :=
  h.keep fun p hp => World.cell?_of_block (hg.block p.block (by omega) (fun e => by have := hr _ e.symm; omega))
theorem Rd.nil (B : Nat) (w : World) : Rd At sz B w (.slice none 0 0) ([] : List α) := ⟨none, 0, rfl, by simp, by omega, by simp⟩
theorem Rd.len (h : Rd At sz B w v xs) : xs.length ≤ 9223372036854775807 := by
  obtain ⟨A, cap, e, h1, h2, h3⟩ := h
  omega
end
theorem Rd.int {B i : Nat} {w : World} {A : Option Addr} {n cap : Nat} {xs : List Int} (h : Rd IntAt 1 B w (.slice A n cap) xs) (hi : i < xs.length) :
    ∃ ad, A = some ad ∧ ad.block < B ∧ w.cell? (ad.add i) = some (.int .i64 (xs[i]?.getD 0)) := by
  obtain ⟨A', cap', e, h1, h2, h3⟩ := h
  obtain ⟨ad, e2, hb, ha⟩ := h3 i xs[i] (List.getElem?_eq_getElem hi)
  injection e with e e' e''
  subst e
  exact ⟨ad, e2, hb, by rw [Nat.mul_one] at ha; simpa [List.getElem?_eq_getElem hi, IntAt] using ha⟩
theorem Rd.note {B i : Nat} {w : World} {A : Option Addr} {n cap : Nat} {xs : List NoteR} (h : Rd NoteAt 5 B w (.slice A n cap) xs) (hi : i < xs.length) :
    ∃ ad, A = some ad ∧ ad.block < B ∧ NoteAt w (ad.add (i * 5)) (xs[i]?.getD default) := by
  obtain ⟨A', cap', e, h1, h2, h3⟩ := h
  obtain ⟨ad, e2, hb, ha⟩ := h3 i xs[i] (List.getElem?_eq_getElem hi)
  injection e with e e' e''
  subst e
  exact ⟨ad, e2, hb, by simpa [List.getElem?_eq_getElem hi] using ha⟩
theorem Rd.span {B i : Nat} {w : World} {A : Option Addr} {n cap : Nat} {xs : List (Int × Int)} (h : Rd SpanAt 2 B w (.slice A n cap) xs) (hi : i < xs.length) :
    ∃ ad, A = some ad ∧ ad.block < B ∧ SpanAt w (ad.add (i * 2)) (xs[i]?.getD default) := by
  obtain ⟨A', cap', e, h1, h2, h3⟩ := h
  obtain ⟨ad, e2, hb, ha⟩ := h3 i xs[i] (List.getElem?_eq_getElem hi)
  injection e with e e' e''
  subst e
  exact ⟨ad, e2, hb, by simpa [List.getElem?_eq_getElem hi] using ha⟩

/-- a literal slice of one number, in a new block -/
theorem Rd.one (w : World) (x : Int) : Rd IntAt 1 (w.heap.size + 1) (w.alloc (.cells #[.int .i64 x] 3)) (.slice (some ⟨w.heap.size, 0, none⟩) 1 1) [x] := by
  refine ⟨_, _, rfl, by simp, by omega, fun i y hy => ?_⟩
  match i, hy with
  | 0, hy =>
    simp at hy
    subst hy
    exact ⟨_, rfl, by simp, (cell_of_row _ _ 0 _ _ _ (heap_alloc_new w _)).trans rfl⟩
/-- a sheet, by value -/
def RdSh (B : Nat) (w : World) (v : Value) (s : ShR) : Prop :=
  ∃ vp vn, v = .agg #[.int .i64 s.iv, vp, vn] ∧ Rd StrAt 1 B w vp s.pts ∧ Rd NoteAt 5 B w vn s.notes
section
variable {B B' : Nat} {w w' : World} {v : Value} {s : ShR}
theorem RdSh.keep (h : RdSh B w v s) (hk : ∀ p : Addr, p.block < B → w'.cell? p = w.cell? p) : RdSh B w' v s := by
  obtain ⟨vp, vo, e, h2, h3⟩ := h
  exact ⟨vp, vo, e, h2.keep hk, h3.keep hk⟩
theorem RdSh.mono (h : RdSh B w v s) (hB : B ≤ B') : RdSh B' w v s := by
  obtain ⟨vp, vo, e, h2, h3⟩ := h
  exact ⟨vp, vo, e, h2.mono hB, h3.mono hB⟩
theorem RdSh.below (h : RdSh B w v s) (hb : Below B w w') : RdSh B w' v s := h.keep fun _ hp => hb.cell hp
theorem RdSh.qt (h : RdSh B w v s) (hb : Qt w w') : RdSh B w' v s := h.below (hb.below B)
theorem RdSh.alloc (h : RdSh B w v s) (hB : B ≤ w.heap.size) (o : Obj) : RdSh B (w.alloc o) v s := h.keep fun p hp => World.cell?_alloc_lt w o p (by omega)
end
/-- a note, by value -/
def noteV (x : NoteR) : Value := .agg #[.int .i64 x.kind, .int .i64 x.a, .int .i64 x.b, .int .i64 x.lo, .int .i64 x.hi]
/-- any new block -/
theorem box_any (w : World) (cs : Array Value) (t : TypeId) : ∃ W, W = w.alloc (.cells cs t) ∧ W.heap[w.heap.size]? = some (.cells cs t) ∧ W.heap.size = w.heap.size + 1 ∧ Below w.heap.size w W :=
  ⟨_, rfl, heap_alloc_new w _, by simp, (Below.refl _ _).alloc (Nat.le_refl _) _⟩
theorem cellOf {w : World} {b : Nat} {cs : Array Value} {t : TypeId} (h : w.heap[b]? = some (.cells cs t)) (i : Nat) {v : Value} (hv : cs[i]? = some v) : w.cell? ⟨b, i, none⟩ = some v :=
  (cell_of_row _ _ i _ _ _ h).trans hv
/-! ### slices of the call's own -/
/-- how a thing lies in cells -/
class Enc (α : Type) (At : outParam (World → Addr → α → Prop)) (sz : outParam Nat) where
  enc : α → List Value
  len : ∀ x, (enc x).length = sz
  at_ : ∀ (w : World) (b o : Nat) (x : α), (∀ j u, (enc x)[j]? = some u → w.cell? ⟨b, o + j, none⟩ = some u) → At w ⟨b, o, none⟩ x
instance : Enc Int IntAt 1 := ⟨fun n => [.int .i64 n], fun _ => rfl, fun _ _ _ _ h => h 0 _ rfl⟩
instance : Enc ByteArray StrAt 1 := ⟨fun s => [.string s], fun _ => rfl, fun _ _ _ _ h => h 0 _ rfl⟩
instance : Enc NoteR NoteAt 5 := ⟨fun o => [.int .i64 o.kind, .int .i64 o.a, .int .i64 o.b, .int .i64 o.lo, .int .i64 o.hi], fun _ => rfl, fun _ _ _ _ h => ⟨h 0 _ rfl, h 1 _ rfl, h 2 _ rfl, h 3 _ rfl, h 4 _ rfl⟩⟩
instance : Enc (Int × Int) SpanAt 2 := ⟨fun c => [.int .i64 c.1, .int .i64 c.2], fun _ => rfl, fun _ _ _ _ h => ⟨h 0 _ rfl, h 1 _ rfl⟩⟩

section
variable {α : Type} {At : World → Addr → α → Prop} {sz : Nat} [E : Enc α At sz]
theorem flat_len (xs : List α) : (xs.flatMap E.enc).length = xs.length * sz := by
  induction xs with
  | nil => simp
  | cons x xs ih => simp [ih, E.len, Nat.add_mul]; omega
theorem flat_at {xs : List α} {i : Nat} {x : α} (hx : xs[i]? = some x) {j : Nat} {u : Value} (hu : (E.enc x)[j]? = some u) : (xs.flatMap E.enc)[i * sz + j]? = some u := by
  induction xs generalizing i with
  | nil => simp at hx
  | cons y xs ih =>
    cases i with
    | zero =>
      simp at hx
      subst hx
      rw [List.flatMap_cons, List.getElem?_append_left (by have := (List.getElem?_eq_some_iff.1 hu).1; omega)]
      simpa using hu
    | succ i =>
      simp at hx
      rw [List.flatMap_cons, List.getElem?_append_right (by rw [E.len, Nat.add_mul]; omega), E.len, show (i + 1) * sz + j - sz = i * sz + j by rw [Nat.add_mul]; omega]
      exact ih hx
/-- v is a slice of the call's own, in a block from base on, that holds xs -/
def Own (base : Nat) (e : TypeId) (w : World) (v : Value) (xs : List α) : Prop := w.ownsRow base e sz v xs.length (xs.flatMap E.enc)
theorem Own.rd {base : Nat} {e : TypeId} {w : World} {v : Value} {xs : List α} (h : Own base e w v xs) : Rd At sz w.heap.size w v xs := by
  rcases id h with ⟨hl, ⟨rfl, h0⟩ | ⟨g, cap, cur, rfl, hb, hh, hn, hc, hsz, hx⟩⟩
  · have : xs = [] := List.eq_nil_of_length_eq_zero h0
    subst this
    exact Rd.nil _ _
  · refine ⟨_, _, rfl, hn, hc, fun i x hi => ⟨_, rfl, lt_of_block hh, ?_⟩⟩
    have hadd : (⟨g, 0, none⟩ : Addr).add (i * sz) = ⟨g, i * sz, none⟩ := by unfold Addr.add; split <;> simp_all
    rw [hadd]
    refine E.at_ w g _ x fun j u hu => ?_
    have hlt : i * sz + j < xs.length * sz := by
      have h1 := (List.getElem?_eq_some_iff.1 (flat_at hi hu)).1
      rwa [flat_len] at h1
    rw [World.ownsRow.cellAt h _ hlt]
    exact flat_at hi hu
theorem Own.below {base : Nat} {e : TypeId} {w w' : World} {v : Value} {xs : List α} (h : Own base e w v xs) (hb : Below w.heap.size w w') : Own base e w' v xs := by
  rcases h with ⟨hl, h0 | ⟨g, cap, cur, rfl, hbb, hh, r⟩⟩
  · exact ⟨hl, .inl h0⟩
  · exact ⟨hl, .inr ⟨g, cap, cur, rfl, hbb, (hb.block g (lt_of_block hh)).trans hh, r⟩⟩
theorem Own.alloc {base : Nat} {e : TypeId} {w : World} {v : Value} {xs : List α} (h : Own base e w v xs) (o : Obj) : Own base e (w.alloc o) v xs := h.below ((Below.refl _ _).alloc (Nat.le_refl _) _)
theorem Own.qt {base : Nat} {e : TypeId} {w w' : World} {v : Value} {xs : List α} (h : Own base e w v xs) (hb : Qt w w') : Own base e w' v xs := h.below (hb.below _)
theorem Own.nil (base : Nat) (e : TypeId) (w : World) : Own base e w (.slice none 0 0) ([] : List α) := World.ownsRow_nil w base e sz
theorem Own.mono {base base' : Nat} {e : TypeId} {w : World} {v : Value} {xs : List α} (h : Own base e w v xs) (hb : base' ≤ base) : Own base' e w v xs := by
  rcases h with ⟨hl, h0 | ⟨g, cap, cur, rfl, hbb, r⟩⟩
  · exact ⟨hl, .inl h0⟩
  · exact ⟨hl, .inr ⟨g, cap, cur, rfl, by omega, r⟩⟩
/-- behind an append -/
theorem Own.of_append {base : Nat} {e : TypeId} {w : World} {v : Value} {xs ys : List α} {n : Nat} (hn : n = xs.length + ys.length) (h : w.ownsRow base e sz v n (xs.flatMap E.enc ++ ys.flatMap E.enc)) : Own base e w v (xs ++ ys) := by
  subst hn
  unfold Own
  rwa [List.length_append, List.flatMap_append]
end
theorem Rd.str {B i : Nat} {w : World} {A : Option Addr} {n cap : Nat} {xs : List ByteArray} (h : Rd StrAt 1 B w (.slice A n cap) xs) (hi : i < xs.length) :
    ∃ ad, A = some ad ∧ ad.block < B ∧ w.cell? (ad.add i) = some (.string (xs[i]?.getD ByteArray.empty)) := by
  obtain ⟨A', cap', e, h1, h2, h3⟩ := h
  obtain ⟨ad, e2, hb, ha⟩ := h3 i xs[i] (List.getElem?_eq_getElem hi)
  injection e with e e' e''
  subst e
  exact ⟨ad, e2, hb, by rw [Nat.mul_one] at ha; simpa [List.getElem?_eq_getElem hi, StrAt] using ha⟩

/-! ### regions that draw their order and hold calls that make memory: one walk in the order of the text, in whatever world keeps all that there was -/
theorem cell_lt {w : World} {a : Addr} {v : Value} (h : w.cell? a = some v) : a.block < w.heap.size := by
  rcases Nat.lt_or_ge a.block w.heap.size with h' | h'
  · exact h'
  · simp [World.cell?, Array.getElem?_eq_none h'] at h
/-- the worlds that keep all that there was -/
def Aft (w : World) : Type := { x : World // Below w.heap.size w x }
instance (w : World) : Nonempty (Aft w) := ⟨⟨w, Below.refl _ _⟩⟩
theorem Aft.le {w : World} {B : Nat} (h : B ≤ w.heap.size) (x : Aft w) : B ≤ x.1.heap.size := Nat.le_trans h x.2.size
theorem Aft.cell {w : World} {a : Addr} {v : Value} (h : w.cell? a = some v) : ∀ x : Aft w, x.1.cell? a = some v := fun x => (x.2.cell (cell_lt h)).trans h
theorem Aft.rd {α : Type} {At : World → Addr → α → Prop} [AtKeep At] {sz B : Nat} {w : World} {v : Value} {xs : List α} (h : Rd At sz B w v xs) (hB : B ≤ w.heap.size) : ∀ x : Aft w, Rd At sz B x.1 v xs := fun x => h.below (x.2.mono hB)
theorem Aft.sheet {B : Nat} {w : World} {v : Value} {s : ShR} (h : RdSh B w v s) (hB : B ≤ w.heap.size) : ∀ x : Aft w, RdSh B x.1 v s := fun x => h.below (x.2.mono hB)
theorem Aft.call {P : Program} {f : FuncId} {args : Array Value} {w : World} {x : Aft w} {v : Value} (h : Calls P f args x.1 fun e w' => e = .returned v ∧ Below x.1.heap.size x.1 w') :
    Calls P f args x.1 fun e w' => e = .returned v ∧ ∃ y : Aft w, w' = y.1 :=
  h.mono fun _ w' ⟨he, hb⟩ => ⟨he, ⟨w', x.2.trans (hb.mono x.2.size)⟩, rfl⟩
theorem Aft.call_same {P : Program} {f : FuncId} {args : Array Value} {w : World} {x : Aft w} {v : Value} (h : Calls P f args x.1 fun e w' => e = .returned v ∧ w' = x.1) :
    Calls P f args x.1 fun e w' => e = .returned v ∧ ∃ y : Aft w, w' = y.1 :=
  h.mono fun _ _ ⟨he, hb⟩ => ⟨he, x, hb⟩
theorem Aft.call_qt {P : Program} {f : FuncId} {args : Array Value} {w : World} {x : Aft w} {v : Value} (h : Calls P f args x.1 fun e w' => e = .returned v ∧ Qt x.1 w') :
    Calls P f args x.1 fun e w' => e = .returned v ∧ ∃ y : Aft w, w' = y.1 :=
  h.mono fun _ w' ⟨he, hb⟩ => ⟨he, ⟨w', x.2.trans (hb.below _)⟩, rfl⟩
theorem wp_region_aft {P : Program} {id : Nat} {Q : Exit → Act → World → Prop} {a : Act} {w : World} {l : List Oper} (hm : P.follows .mixedOrders = true) (hB : Region.lexB .any l.toArray = true)
    (h : wpQuiet P l.toArray (fun w' => ∃ x : Aft w, w' = x.1) (fun a' => ∀ w', (∃ x : Aft w, w' = x.1) → Q .normal a' w') l a) : (Code.region id l.toArray true).wp P Q a w :=
  wp_region_quiet (C := fun w' => ∃ x : Aft w, w' = x.1) hm hB ⟨⟨w.drew, (Below.refl _ _).drew⟩, rfl⟩ (by simpa using h)
theorem getD_some {α : Type} {xs : List α} {i : Nat} {x d : α} (h : xs[i]? = some x) : xs[i]?.getD d = x := by rw [h]; rfl
end Go.Proofs.YtajdgdelhlfniaaGreatDoor
namespace Go.Proofs.YtajdgdelhlfniaaGreatDoor
open Go.RowKit

theorem in_any (a b c : Int) (w : World) : Calls Tryz.prog 62 #[.int .i64 a, .int .i64 b, .int .i64 c] w fun e w' => e = .returned (.bool (inB a b c)) ∧ w' = w := by
  go_enter Tryz.func62, Tryz.ntmps62
  go_wp2
  all_goals go_ret
  all_goals exact ⟨ret_bool (by simp [inB]; omega), rfl⟩

def idxOf (n : Nat) (p : Nat → Bool) : Int := match fst? n p with | some k => (k : Int) | none => -1
theorem idxOf_some {n k : Nat} {p : Nat → Bool} (h : fst? n p = some k) : idxOf n p = k := by unfold idxOf; rw [h]
theorem idxOf_none {n : Nat} {p : Nat → Bool} (h : fst? n p = none) : idxOf n p = -1 := by unfold idxOf; rw [h]
theorem idxOf_any {α : Type} (l : List α) (p : α → Bool) (q : Nat → Bool) (h : ∀ i (hi : i < l.length), q i = p l[i]) : decide (0 ≤ idxOf l.length q) = l.any p := by
  cases e : fst? l.length q with
  | some k =>
    rw [idxOf_some e]
    have := fst?_spec e
    have h2 : l.any p = true := List.any_eq_true.2 ⟨l[k]'this.1, List.getElem_mem _, by rw [← h]; exact this.2.1⟩
    rw [h2]
    simp
  | none =>
    rw [idxOf_none e]
    have h2 : l.any p = false := by
      rw [List.any_eq_false]
      intro x hx
      obtain ⟨i, hi, rfl⟩ := List.getElem_of_mem hx
      have := fst?_none_spec e i hi
      rw [h i hi] at this
      simp [this]
    rw [h2]
    simp

def outP (lo hi n : Int) : Bool := decide (n < lo) || decide (hi < n)

theorem out1_any (n lo hi : Int) (a b : Addr) (w : World) (ha : w.cell? a = some (.int .i64 lo)) (hb : w.cell? b = some (.int .i64 hi)) :
    Calls Tryz.prog 91 #[.int .i64 n, .pointer (some a), .pointer (some b)] w fun e w' => e = .returned (.bool (outP lo hi n)) ∧ w' = w := by
  by_cases h : n < lo
  · go_enter Tryz.func91, Tryz.ntmps91
    go_wp2
    go_ret
    exact ⟨ret_bool (by simp [outP, h]), rfl⟩
  · by_cases h2 : hi < n
    · go_enter Tryz.func91, Tryz.ntmps91
      go_wp2
      go_ret
      exact ⟨ret_bool (by simp [outP, h2]), rfl⟩
    · go_enter Tryz.func91, Tryz.ntmps91
      go_wp2
      go_ret
      exact ⟨ret_bool (by simp [outP, h, h2]), rfl⟩

theorem idxOut_any {B : Nat} {w : World} {v : Value} {xs : List Int} (lo hi : Int) (a b : Addr) (hv : Rd IntAt 1 B w v xs) (ha : w.cell? a = some (.int .i64 lo)) (hb : w.cell? b = some (.int .i64 hi)) :
    Calls Tryz.prog 116 #[v, .func (.func 91) #[] #[.pointer (some a), .pointer (some b)]] w fun e w' => e = .returned (.int .i64 (idxOf xs.length fun i => outP lo hi (xs[i]?.getD 0))) ∧ w' = w := by
  have hlen := hv.len
  obtain ⟨A, cap, rfl, h1, h2, _⟩ := id hv
  go_enter Tryz.func116, Tryz.ntmps116
  go_wp2
  go_loop [8] (fun i => ∃ k : Nat, k ≤ xs.length ∧ i = .int .i64 k ∧ (∀ j, j < k → outP lo hi (xs[j]?.getD 0) = false)) (fun i => xs.length - (intOf i).toNat)
  case atStart => exact ⟨0, Nat.zero_le _, rfl, fun _ h => by omega⟩
  case round =>
    obtain ⟨k, hk, rfl, hno⟩ := hrel
    have Hno := Lib.hid hno
    clear hno
    by_cases hlt : k < xs.length
    · obtain ⟨ad, rfl, _, hc⟩ := hv.int hlt
      clear hv
      by_cases ho : outP lo hi (xs[k]?.getD 0) = true
      · have hr := Lib.hid (idxOf_some (fst?_some hlt (p := fun i => outP lo hi (xs[i]?.getD 0)) ho Hno.out))
        generalize xs[k]?.getD 0 = x at ho hc
        go_wp2_with (go_at_call 91; refine (out1_any _ lo hi a b _ ha hb).mono ?_; rintro e w' ⟨rfl, rfl⟩)
        go_ret
        exact ⟨ret_int hr.out.symm, rfl⟩
      · have ho := Bool.eq_false_iff.2 ho
        have Ho := Lib.hid ho
        generalize xs[k]?.getD 0 = x at ho hc
        go_wp2_with (go_at_call 91; refine (out1_any _ lo hi a b _ ha hb).mono ?_; rintro e w' ⟨rfl, rfl⟩)
        go_round
        case rel => exact ⟨k + 1, by omega, by go_num, fun j hj => by
          by_cases h : j < k
          · exact Hno.out j h
          · obtain rfl : j = k := by omega
            exact Ho.out⟩
        case measure => simp [intOf]; omega
    · have hr := Lib.hid (idxOf_none (fst?_none (n := xs.length) (p := fun i => outP lo hi (xs[i]?.getD 0)) (fun j hj => Hno.out j (by omega))))
      clear hv
      go_wp2
      go_ret
      exact ⟨ret_int hr.out.symm, rfl⟩

theorem outB_idx (lo hi : Int) (xs : List Int) : decide (0 ≤ idxOf xs.length fun i => outP lo hi (xs[i]?.getD 0)) = outB lo hi xs :=
  idxOf_any xs (outP lo hi) _ fun i hi => by simp [List.getElem?_eq_getElem hi]

theorem contOut_any {B : Nat} {w : World} {v : Value} {xs : List Int} (lo hi : Int) (a b : Addr) (hv : Rd IntAt 1 B w v xs) (ha : w.cell? a = some (.int .i64 lo)) (hb : w.cell? b = some (.int .i64 hi)) :
    Calls Tryz.prog 90 #[v, .func (.func 91) #[] #[.pointer (some a), .pointer (some b)]] w fun e w' => e = .returned (.bool (outB lo hi xs)) ∧ w' = w := by
  have e := Lib.hid (outB_idx lo hi xs)
  have h := Lib.hid (idxOut_any lo hi a b hv ha hb)
  generalize (idxOf xs.length fun i => outP lo hi (xs[i]?.getD 0)) = n at *
  go_enter Tryz.func90, Tryz.ntmps90
  go_wp2_with (go_at_call 116; refine h.out.mono ?_; rintro e w' ⟨rfl, rfl⟩)
  go_ret
  exact ⟨ret_bool e.out, rfl⟩

theorem out_any {B : Nat} {w : World} {v : Value} {xs : List Int} (lo hi : Int) (hv : Rd IntAt 1 B w v xs) (hB : B ≤ w.heap.size) :
    Calls Tryz.prog 56 #[.int .i64 lo, .int .i64 hi, v] w fun e w' => e = .returned (.bool (outB lo hi xs)) ∧ Below w.heap.size w w' := by
  obtain ⟨W1, hW1, r1, z1, b1⟩ := box_any w #[.int .i64 lo] 3
  obtain ⟨W2, hW2, r2, z2, b2⟩ := box_any W1 #[.int .i64 hi] 3
  have c1 := (b2.cell (p := ⟨w.heap.size, 0, none⟩) (by simp; omega)).trans (cellOf r1 0 rfl)
  have c2 := cellOf r2 0 rfl
  have hv2 := hv.below ((b1.mono hB).trans (b2.mono (by omega)))
  have hbb := b1.trans (b2.mono (by omega : w.heap.size ≤ W1.heap.size))
  rw [z1] at c2
  have h := Lib.hid (contOut_any lo hi _ _ hv2 c1 c2)
  go_enter Tryz.func56, Tryz.ntmps56
  go_upto_region 1 with (fail)
  rw [← hW1, ← hW2]
  clear hW1 hW2
  go_wp2_with (go_at_call 90; refine h.out.mono ?_; rintro e w' ⟨rfl, rfl⟩)
  go_ret
  exact ⟨rfl, hbb⟩
end Go.Proofs.YtajdgdelhlfniaaGreatDoor
namespace Go.Proofs.YtajdgdelhlfniaaGreatDoor
open Go.RowKit

def okAt (l : List UInt8) (k : Nat) : Bool := if k = 0 then loB (l.getD 0 0) else restB (l.getD k 0)
theorem nameL_iff (l : List UInt8) : nameL l = true ↔ 0 < l.length ∧ (∀ k, k < l.length → okAt l k = true) ∧ l.length ≤ 16 := by
  cases l with
  | nil => simp [nameL]
  | cons c r =>
    simp only [nameL, Bool.and_eq_true, decide_eq_true_eq, List.all_eq_true, List.length_cons]
    constructor
    · rintro ⟨⟨h1, h2⟩, h3⟩
      refine ⟨by omega, fun k hk => ?_, h3⟩
      unfold okAt
      cases k with
      | zero => simpa using h1
      | succ k =>
        have h3 : k < r.length := by simpa using hk
        simpa [h3] using h2 _ (List.getElem_mem h3)
    · rintro ⟨_, h2, h3⟩
      refine ⟨⟨by simpa [okAt] using h2 0 (by omega), fun x hx => ?_⟩, h3⟩
      obtain ⟨i, hi, rfl⟩ := List.getElem_of_mem hx
      have := h2 (i + 1) (by omega)
      simpa [okAt, hi] using this
theorem okAt_iff {l : List UInt8} {k : Nat} : okAt l k = true ↔ (97 ≤ (l.getD k 0).toNat ∧ (l.getD k 0).toNat ≤ 122) ∨ (0 < k ∧ ((48 ≤ (l.getD k 0).toNat ∧ (l.getD k 0).toNat ≤ 57) ∨ (l.getD k 0).toNat = 45)) := by
  unfold okAt
  split
  · rename_i h; subst h; simp [loB]
  · simp [loB, restB]; omega
theorem byte_at (s : ByteArray) {k : Nat} (h : k < s.size) : (s[k]'h).toNat = (s.data.toList.getD k 0).toNat := by
  have h' : k < s.data.size := h
  rw [getD_at (by simpa using h') 0]
  simp
  rfl

set_option maxHeartbeats 1000000 in
theorem name_any (s : ByteArray) (w : World) (hs : s.size ≤ 9223372036854775807) :
    Calls Tryz.prog 18 #[.string s] w fun e w' => e = .returned (.bool (nameB s)) ∧ Below w.heap.size w w' := by
  have hsz : s.data.toList.length = s.size := by simp
  have Hiff := Lib.hid (nameL_iff s.data.toList)
  rw [hsz] at Hiff
  have Hsz := Lib.hid hsz
  clear hsz
  go_enter Tryz.func18, Tryz.ntmps18
  go_wp2
  go_loopw [] (fun wr => ∃ k : Nat, k ≤ s.size ∧ wr = w.iter s k ∧ (∀ j, j < k → okAt s.data.toList j = true)) (fun wr => s.size - wr.iterPos w.heap.size)
  case atStart => exact ⟨0, by omega, rfl, fun _ h => by omega⟩
  case round =>
    obtain ⟨k, hk, rfl, hno⟩ := hrel
    have Hno := Lib.hid hno
    clear hno
    by_cases hlt : k < s.size
    · have hb := byte_at s hlt
      have Hok := Lib.hid (okAt_iff (l := s.data.toList) (k := k))
      by_cases ha : (s[k]'hlt).toNat < 128
      · have hn := fun ty => run_next_ascii (P := Tryz.prog) w s k ty hlt ha
        rw [hb] at ha
        rw [hb] at hn
        clear hb
        generalize s.data.toList.getD k 0 = c at ha hn Hok
        obtain ⟨b45, e45, f45⟩ : ∃ b, ((c.toNat : Int) == 45) = b ∧ (b = true ↔ c.toNat = 45) := ⟨_, rfl, by simp; omega⟩
        by_cases hok : okAt s.data.toList k = true
        · have hc := Hok.out.1 hok
          have HO := Lib.hid hok
          clear hok
          have hend : (∃ k_1, k_1 ≤ s.size ∧ w.iter s (k + 1) = w.iter s k_1 ∧ ∀ (j : Nat), j < k_1 → okAt s.data.toList j = true) ∧ s.size - (w.iter s (k + 1)).iterPos w.heap.size < s.size - (w.iter s k).iterPos w.heap.size :=
            ⟨⟨k + 1, by omega, rfl, fun j hj => by
              by_cases h : j < k
              · exact Hno.out j h
              · obtain rfl : j = k := by omega
                exact HO.out⟩, by simp; omega⟩
          have Hend := Lib.hid hend
          clear hend
          cases b45 with
          | true =>
            have h0 : 0 < k := by have := f45.1 rfl; omega
            have h1 : c.toNat < 48 := by have := f45.1 rfl; omega
            clear f45 hc
            go_wp2
            all_goals exact Hend.out
          | false =>
            have h1 : ¬ c.toNat = 45 := fun h => by simpa using f45.2 h
            clear f45
            go_wp2
            all_goals exact Hend.out
        · have hc : ¬ _ := fun h => hok (Hok.out.2 h)
          have hres := Lib.hid (show nameB s = false from Bool.eq_false_iff.2 fun h => hok ((Hiff.out.1 h).2.1 k hlt))
          clear hok
          have hc1 : ¬ (97 ≤ c.toNat ∧ c.toNat ≤ 122) := fun h => hc (.inl h)
          have hc2 : ¬ (0 < k ∧ ((48 ≤ c.toNat ∧ c.toNat ≤ 57) ∨ c.toNat = 45)) := fun h => hc (.inr h)
          clear hc
          cases b45 with
          | true =>
            have h0 : ¬ 0 < k := fun h => hc2 ⟨h, .inr (f45.1 rfl)⟩
            have h1 : c.toNat < 48 := by have := f45.1 rfl; omega
            clear f45 hc2 hc1
            go_wp2
            go_ret
            exact ⟨ret_bool hres.out.symm, (Below.refl _ _).alloc (Nat.le_refl _) _⟩
          | false =>
            have h1 : ¬ c.toNat = 45 := fun h => by simpa using f45.2 h
            rcases (show c.toNat < 97 ∨ 122 < c.toNat by omega) with g1 | g1 <;> rcases (show ¬ 0 < k ∨ (0 < k ∧ c.toNat < 48) ∨ (0 < k ∧ 57 < c.toNat) by omega) with g2 | ⟨g2, g3⟩ | ⟨g2, g3⟩
            all_goals
              clear f45 hc2 hc1 h1
              try have d1 : decide ((c.toNat : Int) ≤ 122) = false := by simp; omega
              try have d2 : decide ((c.toNat : Int) ≤ 57) = false := by simp; omega
              go_wp2
              all_goals go_ret
              all_goals exact ⟨ret_bool hres.out.symm, (Below.refl _ _).alloc (Nat.le_refl _) _⟩
      · have hn := fun ty => run_next_any (P := Tryz.prog) w s k ty hlt
        have hd := decode_high s k hlt (by omega)
        have hres := Lib.hid (show nameB s = false from Bool.eq_false_iff.2 fun h => by
          have := Hok.out.1 ((Hiff.out.1 h).2.1 k hlt)
          rw [← hb] at this
          omega)
        clear hb ha Hok
        obtain ⟨h1, h2⟩ := hd
        have e45 : ((((Utf8.decode s k).1 : Nat) : Int) == 45) = false := by simp; omega
        generalize (Utf8.decode s k).1 = r at *
        generalize (Utf8.decode s k).2 = m at *
        have d1 : decide ((r : Int) ≤ 122) = false := by simp; omega
        have d2 : decide ((r : Int) ≤ 57) = false := by simp; omega
        by_cases g2 : 0 < k
        all_goals go_wp2
        all_goals go_ret
        all_goals exact ⟨ret_bool hres.out.symm, (Below.refl _ _).alloc (Nat.le_refl _) _⟩
    · have hn := fun ty => run_next_end (P := Tryz.prog) w s k ty hlt
      have hk2 := Lib.hid (show k = s.size by omega)
      have hres : nameB s = (!s.toList.isEmpty && decide ((s.size : Int) ≤ 16)) := by
        have h0 : s.toList.isEmpty = decide (s.size = 0) := by
          have : s.toList.length = s.size := by rw [ByteArray.toList_eq]; simp
          rw [← this]
          cases s.toList <;> simp
        rw [h0, Bool.eq_iff_iff]
        simp only [Bool.and_eq_true, Bool.not_eq_true', decide_eq_false_iff_not, decide_eq_true_eq]
        have := Hiff.out
        constructor
        · intro h
          have := this.1 h
          omega
        · rintro ⟨h1, h2⟩
          exact this.2 ⟨by omega, fun j hj => Hno.out j (by rw [hk2.out]; exact hj), by omega⟩
      have Hres := Lib.hid hres
      clear hres
      go_wp2
      · have h : s.toList = [] := by assumption
        go_ret
        exact ⟨ret_bool (by rw [Hres.out, h]; rfl), (Below.refl _ _).alloc (Nat.le_refl _) _⟩
      · go_ret
        exact ⟨ret_bool Hres.out.symm, (Below.refl _ _).alloc (Nat.le_refl _) _⟩
end Go.Proofs.YtajdgdelhlfniaaGreatDoor
