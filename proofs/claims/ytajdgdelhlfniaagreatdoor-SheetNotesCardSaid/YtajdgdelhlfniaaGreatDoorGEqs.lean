/- When two spans, or two notes, are equal. When two bounds are equal, as whole arrays. -/
import Derived.Test.YtajdgdelhlfniaaGreatDoorGPure
import Derived.Laws.StructEq
import Derived.Test.YtajdgdelhlfniaaGreatDoorGBind
set_option linter.unusedSimpArgs false
set_option linter.unusedVariables false
namespace Go.Proofs.YtajdgdelhlfniaaGreatDoor
open Go.RowKit

theorem eqIn_int (d : Nat) (a b : Int) (w : World) : (Op.equalIn (d + 1) 3 (.int .i64 a) (.int .i64 b)).run Tryz.prog w = .ok (a == b) w := run_equalIn_int w d 3 .i64 .i64 a b Tryz.underlying3
theorem eqIn_span (d : Nat) (a b c e : Int) (w : World) : (Op.equalIn (d + 1 + 1) 40 (.agg #[.int .i64 a, .int .i64 b]) (.agg #[.int .i64 c, .int .i64 e])).run Tryz.prog w = .ok (a == c && b == e) w := by
  rw [run_equalIn_struct w (d + 1) 40 _ _ (by kernel_rfl) (by kernel_rfl)]
  have hf : (Tryz.prog.fieldsOf 40) = (match Tryz.prog.underlying 40 with | some (.struct fs) => fs | _ => #[]) := by kernel_rfl
  rw [hf, Tryz.underlying40]
  have p0 : ∀ (x y : Int), (part 3 #[.int .i64 x, .int .i64 y] 0).run Tryz.prog w = .ok (.int .i64 x) w := fun x y => by kernel_rfl
  have p1 : ∀ (x y : Int), (part 3 #[.int .i64 x, .int .i64 y] 1).run Tryz.prog w = .ok (.int .i64 y) w := fun x y => by kernel_rfl
  simp [Op.eqFields, Sem.run_bind, p0, p1, eqIn_int]
  by_cases h1 : a = c <;> by_cases h2 : b = e <;> simp [h1, h2]
theorem run_eql_span (a b c d : Int) (w : World) : (binOp .eql 40 (.agg #[.int .i64 a, .int .i64 b]) (.agg #[.int .i64 c, .int .i64 d])).run Tryz.prog w = .ok (.bool (a == c && b == d)) w := by
  rw [run_eql_struct, show (10000 : Nat) = 9998 + 1 + 1 from rfl, eqIn_span]
  rfl
theorem run_neq_span (a b c d : Int) (w : World) : (binOp .neq 40 (.agg #[.int .i64 a, .int .i64 b]) (.agg #[.int .i64 c, .int .i64 d])).run Tryz.prog w = .ok (.bool (!(a == c && b == d))) w := by
  rw [run_neq_struct, show (10000 : Nat) = 9998 + 1 + 1 from rfl, eqIn_span]
  rfl
theorem eqIn_note (x y : NoteR) (w : World) : (Op.equalIn 10000 69 (noteV x) (noteV y)).run Tryz.prog w = .ok (x == y) w := by
  obtain ⟨k, a, b, lo, hi⟩ := x
  obtain ⟨k', a', b', lo', hi'⟩ := y
  unfold noteV
  simp only
  rw [show (10000 : Nat) = 9997 + 1 + 1 + 1 from rfl, run_equalIn_struct w (9997 + 1 + 1) 69 _ _ (by kernel_rfl) (by kernel_rfl)]
  have hf : (Tryz.prog.fieldsOf 69) = (match Tryz.prog.underlying 69 with | some (.struct fs) => fs | _ => #[]) := by kernel_rfl
  rw [hf, Tryz.underlying69]
  have p0 : ∀ (x y z u v : Int), (part 3 #[.int .i64 x, .int .i64 y, .int .i64 z, .int .i64 u, .int .i64 v] 0).run Tryz.prog w = .ok (.int .i64 x) w := fun x y z u v => by kernel_rfl
  have p1 : ∀ (x y z u v : Int), (part 3 #[.int .i64 x, .int .i64 y, .int .i64 z, .int .i64 u, .int .i64 v] 1).run Tryz.prog w = .ok (.int .i64 y) w := fun x y z u v => by kernel_rfl
  have p2 : ∀ (x y z u v : Int), (part 3 #[.int .i64 x, .int .i64 y, .int .i64 z, .int .i64 u, .int .i64 v] 2).run Tryz.prog w = .ok (.int .i64 z) w := fun x y z u v => by kernel_rfl
  have p3 : ∀ (x y z u v : Int), (part 40 #[.int .i64 x, .int .i64 y, .int .i64 z, .int .i64 u, .int .i64 v] 3).run Tryz.prog w = .ok (.agg #[.int .i64 u, .int .i64 v]) w := fun x y z u v => by kernel_rfl
  simp only [Op.eqFields, Sem.run_bind, p0, p1, p2, p3, eqIn_int, eqIn_span, Result.andThen_ok, Sem.run_ite, Sem.run_pure]
  have hb : ∀ (p q : NoteR), (p == q) = decide (p = q) := fun _ _ => rfl
  rw [hb]
  by_cases h1 : k = k' <;> by_cases h2 : a = a' <;> by_cases h3 : b = b' <;> by_cases h4 : lo = lo' <;> by_cases h5 : hi = hi' <;> simp [h1, h2, h3, h4, h5]
theorem run_eql_note (x y : NoteR) (w : World) : (binOp .eql 69 (noteV x) (noteV y)).run Tryz.prog w = .ok (.bool (x == y)) w := by
  have := eqIn_note x y w
  unfold noteV at *
  rw [run_eql_struct, this]
  rfl
theorem run_neq_note (x y : NoteR) (w : World) : (binOp .neq 69 (noteV x) (noteV y)).run Tryz.prog w = .ok (.bool (!(x == y))) w := by
  have := eqIn_note x y w
  unfold noteV at *
  rw [run_neq_struct, this]
  rfl
end Go.Proofs.YtajdgdelhlfniaaGreatDoor
namespace Go.Proofs.YtajdgdelhlfniaaGreatDoor
open Go.RowKit

theorem eqIn_arr {P : Program} {w : World} (d : Nat) (t elem : TypeId) (len n : Nat) (xs ys : Array Value) (ht : P.underlying t = some (.array len elem)) (hs : (Go.sizeOf elem).run P w = .ok n w)
    (px py : Nat → Value) (f : Nat → Bool) (hx : ∀ i, i < len → (part elem xs (i * n)).run P w = .ok (px i) w) (hy : ∀ i, i < len → (part elem ys (i * n)).run P w = .ok (py i) w)
    (hf : ∀ i, i < len → (Op.equalIn d elem (px i) (py i)).run P w = .ok (f i) w) : (Op.equalIn (d + 1) t (.agg xs) (.agg ys)).run P w = .ok ((List.range len).all f) w := by
  rw [Op.equalIn]
  simp only [Sem.run_bind, run_underlying ht, Result.andThen_ok, hs]
  simp only [Std.Legacy.Range.forIn_eq_forIn_range', Std.Legacy.Range.size]
  have key : ∀ (L : List Nat), (∀ i ∈ L, i < len) → (forIn L ((none : Option Bool), ()) fun i (_ : Option Bool × Unit) => (do
      let a ← part elem xs (i * n)
      let b ← part elem ys (i * n)
      let r ← Op.equalIn d elem a b
      if (!r) = true then pure (ForInStep.done (some false, ())) else pure (ForInStep.yield (none, ())) : Sem _)).run P w = .ok (if L.all f = true then (none, ()) else (some false, ())) w := by
    intro L
    induction L with
    | nil => intro _; simp
    | cons i L ih =>
      intro h
      have hi := h i (by simp)
      rw [List.forIn_cons]
      simp only [Sem.run_bind, hx i hi, hy i hi, hf i hi, Result.andThen_ok]
      cases hfi : f i with
      | true =>
        simp only [Bool.not_true, Bool.false_eq_true, if_false, Sem.run_pure, Result.andThen_ok]
        rw [ih fun j hj => h j (by simp [hj])]
        simp [hfi]
      | false =>
        simp only [Bool.not_false, if_true, Sem.run_pure, Result.andThen_ok]
        simp [hfi]
  have hr : List.range' 0 ((len - 0 + 1 - 1) / 1) = List.range len := by simp [List.range_eq_range']
  rw [hr]
  rw [key (List.range len) (fun i hi => List.mem_range.1 hi)]
  simp only [Result.andThen_ok]
  by_cases h : (List.range len).all f = true
  · rw [if_pos h, h]; rfl
  · rw [if_neg h]
    have h : (List.range len).all f = false := by simpa using h
    rw [h]; rfl

theorem u91 : Tryz.prog.underlying 91 = some (.array 9 3) := by kernel_rfl
/-- a row of nine numbers -/
def rowC (f : Nat → Int) : Array Value := ((List.range 9).map fun k => Value.int .i64 (f k)).toArray
theorem rowC_get (f : Nat → Int) {k : Nat} (hk : k < 9) : (rowC f)[k]? = some (.int .i64 (f k)) := by
  unfold rowC
  rw [List.getElem?_toArray, List.getElem?_map, List.getElem?_range hk]
  rfl
theorem size3 (w : World) : (Go.sizeOf 3).run Tryz.prog w = .ok 1 w := by kernel_rfl
theorem size91 (w : World) : (Go.sizeOf 91).run Tryz.prog w = .ok 9 w := by kernel_rfl
theorem agg3 (w : World) : (isAgg 3).run Tryz.prog w = .ok false w := by kernel_rfl
theorem agg91 (w : World) : (isAgg 91).run Tryz.prog w = .ok true w := by kernel_rfl
theorem part_row (f : Nat → Int) {k : Nat} (hk : k < 9) (w : World) : (part 3 (rowC f) (k * 1)).run Tryz.prog w = .ok (.int .i64 (f k)) w := by
  unfold part
  rw [Nat.mul_one]
  simp only [Sem.run_bind, agg3, Result.andThen_ok, rowC_get f hk]
  rfl
theorem part_mat (b : Mat) {i : Nat} (hi : i < 9) (w : World) : (part 91 (matC b) (i * 9)).run Tryz.prog w = .ok (.agg (rowC (b i))) w := by
  unfold part
  simp only [Sem.run_bind, agg91, size91, Result.andThen_ok]
  have : (matC b).extract (i * 9) (i * 9 + 9) = rowC (b i) := by
    apply Array.ext_getElem?
    intro k
    rw [Array.getElem?_extract]
    by_cases hk : k < 9
    · rw [if_pos (by have := matC_size b; omega), matC_at b hi hk, rowC_get _ hk]
    · rw [if_neg (by have := matC_size b; omega), Array.getElem?_eq_none (by simp [rowC]; omega)]
  simp [this]
/-- whether two bounds are equal -/
def matEq (b c : Mat) : Bool := (List.range 9).all fun i => (List.range 9).all fun k => b i k == c i k
theorem matEq_iff {b c : Mat} : matEq b c = true ↔ ∀ i k, i < 9 → k < 9 → b i k = c i k := by
  simp only [matEq, List.all_eq_true, List.mem_range, beq_iff_eq]
  exact ⟨fun h i k hi hk => h i hi k hk, fun h i hi k hk => h i k hi hk⟩
theorem matC_congr {b c : Mat} (h : ∀ i k, i < 9 → k < 9 → b i k = c i k) : matC b = matC c := by
  apply Array.ext_getElem?
  intro n
  by_cases hn : n < 81
  · rw [matC_get _ hn, matC_get _ hn, h _ _ (by omega) (by omega)]
  · have h1 := matC_size b
    have h2 := matC_size c
    rw [Array.getElem?_eq_none (by omega), Array.getElem?_eq_none (by omega)]
theorem eqIn_row (f g : Nat → Int) (w : World) : (Op.equalIn 9999 91 (.agg (rowC f)) (.agg (rowC g))).run Tryz.prog w = .ok ((List.range 9).all fun k => f k == g k) w :=
  eqIn_arr 9998 91 3 9 1 _ _ u91 (size3 w) (fun k => .int .i64 (f k)) (fun k => .int .i64 (g k)) _ (fun _ hk => part_row f hk w) (fun _ hk => part_row g hk w) (fun _ _ => eqIn_int 9997 _ _ w)
theorem eqIn_mat (b c : Mat) (w : World) : (Op.equalIn 10000 93 (.agg (matC b)) (.agg (matC c))).run Tryz.prog w = .ok (matEq b c) w :=
  eqIn_arr 9999 93 91 9 9 _ _ u93 (size91 w) (fun i => .agg (rowC (b i))) (fun i => .agg (rowC (c i))) _ (fun _ hi => part_mat b hi w) (fun _ hi => part_mat c hi w) (fun _ _ => eqIn_row _ _ w)
theorem run_neq_mat (b c : Mat) (w : World) : (binOp .neq 93 (.agg (matC b)) (.agg (matC c))).run Tryz.prog w = .ok (.bool (!matEq b c)) w := by
  rw [run_neq_struct, eqIn_mat]
  rfl
end Go.Proofs.YtajdgdelhlfniaaGreatDoor
