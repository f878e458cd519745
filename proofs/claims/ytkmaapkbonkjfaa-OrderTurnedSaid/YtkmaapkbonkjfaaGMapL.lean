/- The map of castings that are known: keys are arrays of three numbers. -/
import Derived.Test.YtkmaapkbonkjfaaGBase
import Derived.Test.YtkmaapkbonkjfaaGPure
import Derived.Laws.StructEq
import Derived.RangeFuncRecord
set_option linter.unusedSimpArgs false
set_option linter.unusedVariables false
namespace Go.Proofs.Ytkmaapkbonkjfaa
open Go.RowKit

def encP (f : Nat → Int) : Value := .agg #[.int .i64 (f 0), .int .i64 (f 1), .int .i64 (f 2)]

theorem u123 : Try.prog.underlying 123 = some (.map 93 93) := by kernel_rfl
theorem u93 : Try.prog.underlying 93 = some (.array 3 3) := by kernel_rfl
theorem u3 : Try.prog.underlying 3 = some (.int .i64) := by kernel_rfl

theorem run_key (e : Bool) (f : Nat → Int) (w : World) : (Instr.checkKey e 10000 93 (encP f)).run Try.prog w = .ok () w := by kernel_rfl
theorem run_eq (f g : Nat → Int) (w : World) : (Op.equal 93 (encP f) (encP g)).run Try.prog w = .ok (f 0 == g 0 && (f 1 == g 1 && f 2 == g 2)) w := by
  have s3 : (sizeOf 3).run Try.prog w = .ok 1 w := by kernel_rfl
  have p0 : ∀ (f : Nat → Int), (part 3 #[.int .i64 (f 0), .int .i64 (f 1), .int .i64 (f 2)] 0).run Try.prog w = .ok (.int .i64 (f 0)) w := fun f => by kernel_rfl
  have p1 : ∀ (f : Nat → Int), (part 3 #[.int .i64 (f 0), .int .i64 (f 1), .int .i64 (f 2)] 1).run Try.prog w = .ok (.int .i64 (f 1)) w := fun f => by kernel_rfl
  have p2 : ∀ (f : Nat → Int), (part 3 #[.int .i64 (f 0), .int .i64 (f 1), .int .i64 (f 2)] 2).run Try.prog w = .ok (.int .i64 (f 2)) w := fun f => by kernel_rfl
  unfold Op.equal encP
  rw [show Op.maxDepth = 9998 + 1 + 1 from rfl, Op.equalIn]
  have e3 : ∀ a b : Int, (Op.equalIn (9998 + 1) 3 (.int .i64 a) (.int .i64 b)).run Try.prog w = .ok (a == b) w := fun a b => run_equalIn_int w 9998 3 .i64 .i64 a b u3
  simp only [Sem.run_bind, run_underlying u93, Result.andThen_ok, s3]
  simp [Std.Legacy.Range.forIn_eq_forIn_range', Std.Legacy.Range.size, List.range', List.forIn_cons, Sem.run_bind, p0, p1, p2, e3, Result.andThen_ok]
  by_cases h0 : f 0 = g 0 <;> by_cases h1 : f 1 = g 1 <;> by_cases h2 : f 2 = g 2 <;> first | (simp [h0, h1, h2]; done) | simp [p0, p1, p2, e3, h0, h1, h2, Sem.run_bind, Result.andThen_ok]

theorem encP_congr {f g : Nat → Int} (h0 : f 0 = g 0) (h1 : f 1 = g 1) (h2 : f 2 = g 2) : encP f = encP g := by unfold encP; rw [h0, h1, h2]

/-- entries of the map: each key's castings -/
def EntOK (c : (Nat → Int) → Nat → Int) (e : MapEntry) : Prop := ∃ f, e.key = encP f ∧ e.val = encP (c f)

theorem findAsking_run (c : (Nat → Int) → Nat → Int) (f : Nat → Int) : ∀ (es : List MapEntry) (i : Nat), (∀ e ∈ es, EntOK c e) →
    ∃ r, (∀ w, (Instr.findAsking 93 (encP f) es i).run Try.prog w = .ok r w) ∧ (r = none ∨ ∃ j e, r = some (i + j, e.val) ∧ es[j]? = some e ∧ e.key = encP f) := by
  intro es
  induction es with
  | nil => exact fun i _ => ⟨none, fun w => by simp [Instr.findAsking], .inl rfl⟩
  | cons e es ih =>
    intro i h
    obtain ⟨g, hk, hv⟩ := h e (by simp)
    by_cases hq : f 0 = g 0 ∧ f 1 = g 1 ∧ f 2 = g 2
    · refine ⟨some (i, e.val), fun w => ?_, .inr ⟨0, e, by simp, by simp, by rw [hk]; exact (encP_congr hq.1 hq.2.1 hq.2.2).symm⟩⟩
      simp [Instr.findAsking, Sem.run_bind, hk, run_eq, Result.andThen_ok, hq.1, hq.2.1, hq.2.2]
    · obtain ⟨r, hr, hc⟩ := ih (i + 1) fun x hx => h x (by simp [hx])
      refine ⟨r, fun w => ?_, ?_⟩
      · have : (f 0 == g 0 && (f 1 == g 1 && f 2 == g 2)) = false := by
          rw [Bool.eq_false_iff]
          intro hh
          simp only [Bool.and_eq_true, beq_iff_eq] at hh
          exact hq hh
        simp only [Instr.findAsking, Sem.run_bind, hk, run_eq, Result.andThen_ok, this]
        exact hr w
      · rcases hc with rfl | ⟨j, e', hr', he', hk'⟩
        · exact .inl rfl
        · exact .inr ⟨j + 1, e', by rw [hr']; congr 2; omega, by simpa using he', hk'⟩

theorem findKey_run (c : (Nat → Int) → Nat → Int) (f : Nat → Int) (es : List MapEntry) (h : ∀ e ∈ es, EntOK c e) :
    ∃ r, (∀ w, (Instr.findKey 93 (encP f) es).run Try.prog w = .ok r w) ∧ (r = none ∨ ∃ (j : Nat) (e : MapEntry), r = some (j, e.val) ∧ es[j]? = some e ∧ e.key = encP f) := by
  cases es with
  | nil => exact ⟨none, fun w => by simp [Instr.findKey, Sem.run_bind, run_underlying u93, Result.andThen_ok, Instr.findNow, Sem.run_pure], .inl rfl⟩
  | cons e es =>
    obtain ⟨r, hr, hc⟩ := findAsking_run c f (e :: es) 0 h
    refine ⟨r, fun w => ?_, ?_⟩
    · have : Instr.findNow (.array 3 3) (encP f) (e :: es) 0 = none := by simp [Instr.findNow, Instr.sameNow]
      simp only [Instr.findKey, Sem.run_bind, run_underlying u93, Result.andThen_ok, this]
      exact hr w
    · simpa using hc

/-- block b is a map of the castings -/
def MapAt (c : (Nat → Int) → Nat → Int) (w : World) (b : Nat) : Prop := ∃ es clk, w.heap[b]? = some (.map es clk) ∧ ∀ e ∈ es.toList, EntOK c e

theorem lookup_run {c : (Nat → Int) → Nat → Int} {w : World} {b : Nat} (h : MapAt c w b) (f : Nat → Int) :
    ∃ v ok, (∀ wx : World, wx.heap[b]? = w.heap[b]? → (Instr.lookup 123 (.map (some b)) (encP f) true).run Try.prog wx = .ok (.tuple #[v, .bool ok]) wx) ∧ ((ok = true ∧ ∃ g, encP g = encP f ∧ v = encP (c g)) ∨ (ok = false ∧ v = encP fun _ => 0)) := by
  obtain ⟨es, clk, hh, hes⟩ := h
  obtain ⟨r, hr, hc⟩ := findKey_run c f es.toList hes
  have hget : ∀ wx : World, wx.heap[b]? = w.heap[b]? → (getObj b).run Try.prog wx = .ok (.map es clk) wx := fun wx hx => by rw [hh] at hx; simp [getObj, Sem.run, hx]
  have hz : ∀ wx, (zeroValue 93).run Try.prog wx = .ok (encP fun _ => 0) wx := fun wx => by kernel_rfl
  rcases hc with rfl | ⟨j, e, rfl, he, hk⟩
  · refine ⟨_, false, fun wx hx => ?_, .inr ⟨rfl, rfl⟩⟩
    simp only [Instr.lookup, Sem.run_bind, run_underlying u123, Result.andThen_ok, hget wx hx, run_key, hr, hz, Sem.run_pure, if_true]
  · obtain ⟨g, hk2, hv⟩ := hes e (List.mem_of_getElem? he)
    refine ⟨_, true, fun wx hx => ?_, .inl ⟨rfl, g, by rw [← hk2, hk], hv⟩⟩
    simp only [Instr.lookup, Sem.run_bind, run_underlying u123, Result.andThen_ok, hget wx hx, run_key, hr, Sem.run_pure, if_true]

theorem same_bits (f : Nat → Int) : Instr.sameBits 10000 (encP f) (encP f) = true := by
  rw [show (10000 : Nat) = 9998 + 1 + 1 from rfl]
  simp [Instr.sameBits, encP]

theorem update_run {c : (Nat → Int) → Nat → Int} {w : World} {b : Nat} (h : MapAt c w b) (f : Nat → Int) {v : Value} (hv : v = encP (c f)) :
    ∃ es clk, (∀ wx : World, wx.heap[b]? = w.heap[b]? → (Instr.mapUpdate 123 (.map (some b)) (encP f) v).run Try.prog wx = .ok () (wx.putObj b (.map es clk))) ∧ ∀ e ∈ es.toList, EntOK c e := by
  obtain ⟨es, clk, hh, hes⟩ := h
  obtain ⟨r, hr, hc⟩ := findKey_run c f es.toList hes
  have hget : ∀ wx : World, wx.heap[b]? = w.heap[b]? → (getObj b).run Try.prog wx = .ok (.map es clk) wx := fun wx hx => by rw [hh] at hx; simp [getObj, Sem.run, hx]
  have hset : ∀ (wx : World) o, wx.heap[b]? = w.heap[b]? → (setObj b o).run Try.prog wx = .ok () (wx.putObj b o) := fun wx o hx => by rw [hh] at hx; simp [setObj, Sem.run, hx, World.putObj]
  rcases hc with rfl | ⟨j, e, rfl, he, hk⟩
  · refine ⟨es.push { key := encP f, val := v, born := clk }, clk + 1, fun wx hx => ?_, fun e he => ?_⟩
    · simp only [Instr.mapUpdate, Sem.run_bind, run_underlying u123, Result.andThen_ok, hget wx hx, run_key, hr, hset wx _ hx]
    · rw [Array.toList_push, List.mem_append] at he
      rcases he with he | he
      · exact hes e he
      · simp at he
        subst he
        exact ⟨f, rfl, hv⟩
  · have he' : es[j]? = some e := by rw [← Array.getElem?_toList]; exact he
    refine ⟨es.modify j fun e => { e with key := encP f, val := v }, clk, fun wx hx => ?_, fun x hx => ?_⟩
    · simp only [Instr.mapUpdate, Sem.run_bind, run_underlying u123, Result.andThen_ok, hget wx hx, run_key, hr, hset wx _ hx, he', Option.map_some, Option.getD_some, hk, Instr.keyThatStays, same_bits, if_true, Sem.run_pure]
    · obtain ⟨i, hi, rfl⟩ := List.getElem_of_mem hx
      rw [Array.length_toList, Array.size_modify] at hi
      rw [Array.getElem_toList, Array.getElem_modify]
      split
      · exact ⟨f, rfl, hv⟩
      · exact hes _ (by rw [← Array.getElem_toList]; exact List.getElem_mem _)
end Go.Proofs.Ytkmaapkbonkjfaa
