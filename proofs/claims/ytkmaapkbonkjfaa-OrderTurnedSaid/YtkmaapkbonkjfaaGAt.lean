/- The contracts of the layer, at literal lists of orders. -/
import Derived.Test.YtkmaapkbonkjfaaGSmall
import Derived.Test.YtkmaapkbonkjfaaGPromise
import Derived.Test.YtkmaapkbonkjfaaGKept
import Derived.Test.YtkmaapkbonkjfaaGCosts
set_option linter.unusedSimpArgs false
set_option linter.unusedVariables false
namespace Go.Proofs.Ytkmaapkbonkjfaa
open Go.RowKit

def litC (xs : List Int) : Array Value := (xs.map fun n => Value.int .i64 n).toArray
theorem lit_rd (w : World) (xs : List Int) (hn : xs.length ≤ 1000) : Rd IntAt 1 (w.heap.size + 1) (w.alloc (.cells (litC xs) 3)) (.slice (some ⟨w.heap.size, 0, none⟩) xs.length xs.length) xs := by
  have h := own_lit (α := Int) (w := w.alloc (.cells (litC xs) 3)) (b := w.heap.size) (e := 3) xs hn (by rw [enc_ints]; exact heap_alloc_new w _)
  have := h.rd
  simpa using this
theorem Rd.next {α : Type} {At : World → Addr → α → Prop} [AtKeep At] {sz : Nat} {w w' : World} {v : Value} {xs : List α} (h : Rd At sz w.heap.size w v xs) (hb : Below w.heap.size w w') : Rd At sz w'.heap.size w' v xs := (h.below hb).mono hb.size

section
variable {B : Nat} {w : World} {v : Value} {s : ShopR}
theorem given_lit (hs : RdShop B w v s) (hnm : ∀ p ∈ s.parts, p.name.size ≤ 9223372036854775807) (hB : B ≤ w.heap.size) (xs : List Int) (hn : xs.length ≤ 1000) :
    Given (w.heap.size + 1) (w.alloc (.cells (litC xs) 3)) v (.slice (some ⟨w.heap.size, 0, none⟩) xs.length xs.length) s xs :=
  ⟨(hs.alloc hB _).mono (by omega), lit_rd w xs hn, hnm, by simp⟩
theorem alloc_below {w w' : World} {o : Obj} (h : Below (w.alloc o).heap.size (w.alloc o) w') : Below w.heap.size w w' := ((Below.refl _ _).alloc (Nat.le_refl _) _).trans (h.mono (by simp))
variable (hs : RdShop B w v s) (hnm : ∀ p ∈ s.parts, p.name.size ≤ 9223372036854775807) (hB : B ≤ w.heap.size) (xs : List Int) (hx : xs.length ≤ 1000) {cs : Array Value} (hcs : litC xs = cs) {n : Nat} (hn : xs.length = n)
include hs hnm hB hx hcs hn
theorem late_at {a b c : Int} (hr : lateF s xs = (a, b, c)) : Calls Try.prog 18 #[v, .slice (some ⟨w.heap.size, 0, none⟩) n n] (w.alloc (.cells cs 3)) fun e w' => e = .returned (.tuple #[.int .i64 a, .int .i64 b, .int .i64 c]) ∧ Below w.heap.size w w' := by
  subst hcs hn
  refine (plate_any (given_lit hs hnm hB xs hx)).mono ?_
  rintro e w' ⟨rfl, hb⟩
  exact ⟨by rw [lateFV_eq hr], alloc_below hb⟩
theorem needed_at {l : List Int} {m : Nat} (hr : neededF s xs = (l, 0)) (hm : l.length = m) : Calls Try.prog 20 #[v, .slice (some ⟨w.heap.size, 0, none⟩) n n] (w.alloc (.cells cs 3)) fun e w' => ∃ A c, e = .returned (.tuple #[.slice A m c, .int .i64 0]) ∧ Rd IntAt 1 w'.heap.size w' (.slice A m c) l ∧ Below w.heap.size w w' := by
  subst hcs hn hm
  unfold neededF at hr
  by_cases he : takenErr s xs = 0
  · rw [if_neg (by simp [he])] at hr
    simp only [Prod.mk.injEq, and_true] at hr
    refine (pneeded_ok (given_lit hs hnm hB xs hx) he).mono ?_
    rintro e w' ⟨A, c, rfl, h2, hb⟩
    rw [hr] at h2
    have hl : l.length = s.parts.length := by rw [← hr, neededL_len]
    exact ⟨A, c, by rw [hl], by rw [hl]; exact h2, alloc_below hb⟩
  · rw [if_pos he] at hr
    simp only [Prod.mk.injEq] at hr
    exact absurd hr.2 he
theorem plan_at {l : List (Int × Int)} {m : Nat} {q : Int} (hr : planF s xs = (l, q)) (hm : l.length = m) : Calls Try.prog 24 #[v, .slice (some ⟨w.heap.size, 0, none⟩) n n] (w.alloc (.cells cs 3)) fun e w' => ∃ A c, e = .returned (.tuple #[.slice A m c, .int .i64 q]) ∧ Rd CastAt 2 w'.heap.size w' (.slice A m c) l ∧ Below w.heap.size w w' := by
  subst hcs hn hm
  refine (pplan_any (given_lit hs hnm hB xs hx)).mono ?_
  rintro e w' ⟨A, c, he, h2, hb⟩
  rw [hr] at he h2
  exact ⟨A, c, he, h2, alloc_below hb⟩
theorem kept_at (part : Int) {l : List Int} {m : Nat} {q : Int} (hr : keptF s xs part = (l, q)) (hm : l.length = m) : Calls Try.prog 27 #[v, .slice (some ⟨w.heap.size, 0, none⟩) n n, .int .i64 part] (w.alloc (.cells cs 3)) fun e w' => ∃ A c, e = .returned (.tuple #[.slice A m c, .int .i64 q]) ∧ Rd IntAt 1 w'.heap.size w' (.slice A m c) l ∧ Below w.heap.size w w' := by
  subst hcs hn hm
  refine (pkept_any (given_lit hs hnm hB xs hx) part).mono ?_
  rintro e w' ⟨A, c, he, h2, hb⟩
  rw [hr] at he h2
  exact ⟨A, c, he, h2, alloc_below hb⟩
theorem promise_at (part many : Int) {a b : Int} (hr : promiseF s xs part many = (a, b)) : Calls Try.prog 29 #[v, .slice (some ⟨w.heap.size, 0, none⟩) n n, .int .i64 part, .int .i64 many] (w.alloc (.cells cs 3)) fun e w' => e = .returned (.tuple #[.int .i64 a, .int .i64 b]) ∧ Below w.heap.size w w' := by
  subst hcs hn
  refine (ppromise_any (given_lit hs hnm hB xs hx) part many).mono ?_
  rintro e w' ⟨rfl, hb⟩
  exact ⟨by rw [promiseFV_eq hr], alloc_below hb⟩
end
section
variable {B : Nat} {w : World} {v : Value} {s : ShopR} (hs : RdShop B w v s) (hnm : ∀ p ∈ s.parts, p.name.size ≤ 9223372036854775807) (hB : B ≤ w.heap.size)
include hs hnm hB
theorem best_at {l : List Int} {m : Nat} {a b : Int} (hr : bestF s = (l, a, b)) (hm : l.length = m) : Calls Try.prog 31 #[v] w fun e w' => ∃ A c, e = .returned (.tuple #[.slice A m c, .int .i64 a, .int .i64 b]) ∧ Rd IntAt 1 w'.heap.size w' (.slice A m c) l ∧ Below w.heap.size w w' := by
  subst hm
  refine (pbest_any hs hnm hB).mono ?_
  rintro e w' ⟨A, c, he, h2, hb⟩
  rw [hr] at he h2
  exact ⟨A, c, he, h2, hb⟩
theorem costs_at (o : Int) {a b : Int} (hr : costsF s o = (a, b)) : Calls Try.prog 33 #[v, .int .i64 o] w fun e w' => e = .returned (.tuple #[.int .i64 a, .int .i64 b]) ∧ Below w.heap.size w w' := by
  refine (pcosts_any hs hnm hB o).mono ?_
  rintro e w' ⟨rfl, hb⟩
  exact ⟨by rw [costsFV_eq hr], hb⟩
end

/-- what the examples' shop is, in a world -/
structure AwS (w0 : World) (B tb : Nat) (a b c : Addr) (W : World) : Prop where
  shop : RdShop B W (.agg #[.slice (some a) 5 5, .slice (some b) 2 2, .slice (some c) 4 4]) shopX
  hB : B ≤ W.heap.size
  box : W.heap[tb]? = some (.cells #[.slice (some a) 5 5, .slice (some b) 2 2, .slice (some c) 4 4] 26)
  below : Below w0.heap.size w0 W
theorem AwS.next {w0 : World} {B tb : Nat} {a b c : Addr} {W W' : World} (h : AwS w0 B tb a b c W) (hb : Below W.heap.size W W') : AwS w0 B tb a b c W' :=
  ⟨h.shop.below (hb.mono h.hB), Nat.le_trans h.hB hb.size, (hb.block _ (lt_of_block h.box)).trans h.box, h.below.trans (hb.mono h.below.size)⟩
theorem AwS.cells {w0 : World} {B tb : Nat} {a b c : Addr} {W : World} (h : AwS w0 B tb a b c W) : W.cell? ⟨tb, 0, none⟩ = some (.slice (some a) 5 5) ∧ W.cell? ⟨tb, 1, none⟩ = some (.slice (some b) 2 2) ∧ W.cell? ⟨tb, 2, none⟩ = some (.slice (some c) 4 4) :=
  ⟨cellOf h.box 0 rfl, cellOf h.box 1 rfl, cellOf h.box 2 rfl⟩
theorem shopX_names : ∀ p ∈ shopX.parts, p.name.size ≤ 9223372036854775807 := by
  intro p hp
  simp [shopX] at hp
  rcases hp with rfl | rfl <;> decide
end Go.Proofs.Ytkmaapkbonkjfaa
