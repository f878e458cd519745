/- Walks of the layer order: Promise of the program, with its closure. -/
import Derived.Test.YtkmaapkbonkjfaaP4
import Derived.Test.YtkmaapkbonkjfaaLeast
import Derived.ArgAppend
import Derived.Deep.RegionHeld3
namespace Go.Proofs.Ytkmaapkbonkjfaa
open Go.RowKit

theorem flat_ords {w : World} {B : Nat} {A : Option Addr} {n c : Nat} {xs : List OrdR} (h : Rd OrdAt 4 B w (.slice A n c) xs) (ad : Addr) (hA : A = some ad) :
    ∀ j u, (xs.flatMap (Enc.enc (α := OrdR)))[j]? = some u → w.cell? (ad.add j) = some u := by
  intro j u hj
  have hlt := (List.getElem?_eq_some_iff.1 hj).1
  rw [flat_len] at hlt
  have hi : j / 4 < xs.length := by omega
  obtain ⟨A', cap', e, h1, h2, h3⟩ := h
  obtain ⟨ad', e2, hb, ha⟩ := h3 (j / 4) xs[j / 4] (List.getElem?_eq_getElem hi)
  injection e with e e' e''
  subst e
  rw [hA] at e2
  injection e2 with e2
  subst e2
  have hlt4 : j % 4 < 4 := Nat.mod_lt _ (by omega)
  have hfl : ∃ v, (Enc.enc (α := OrdR) xs[j / 4])[j % 4]? = some v := ⟨_, List.getElem?_eq_getElem (by rw [Enc.len]; exact hlt4)⟩
  obtain ⟨v, hv⟩ := hfl
  have := flat_at (xs := xs) (i := j / 4) (List.getElem?_eq_getElem hi) hv
  rw [show j / 4 * 4 + j % 4 = j by omega, hj] at this
  cases this
  have hadd : ∀ k, 0 < k → (⟨(ad.add (j / 4 * 4)).block, (ad.add (j / 4 * 4)).off + k, none⟩ : Addr) = ad.add (j / 4 * 4 + k) := by
    intro k hk
    unfold Addr.add
    rw [if_neg (show ¬ j / 4 * 4 + k = 0 by omega)]
    split
    · rename_i h0; simp [h0]
    · simp [Nat.add_assoc]
  obtain ⟨a0, a1, a2, a3⟩ := ha
  rw [hadd 1 (by omega)] at a1
  rw [hadd 2 (by omega)] at a2
  rw [hadd 3 (by omega)] at a3
  have hj4 : j = j / 4 * 4 + j % 4 := by omega
  generalize xs[j / 4] = o at *
  generalize hq : j / 4 * 4 = q at *
  generalize hr : j % 4 = r at *
  subst hj4
  match r, hlt4, hv with
  | 0, _, hv => simp [Enc.enc] at hv; subst hv; exact a0
  | 1, _, hv => simp [Enc.enc] at hv; subst hv; exact a1
  | 2, _, hv => simp [Enc.enc] at hv; subst hv; exact a2
  | 3, _, hv => simp [Enc.enc] at hv; subst hv; exact a3

/-- an order behind a slice that has no room: a new row -/
theorem append_over {B : Nat} {w : World} {A : Option Addr} {c : Nat} {xs : List OrdR} (h : Rd OrdAt 4 B w (.slice A xs.length c) xs) (x : OrdR) (hn : xs.length ≤ 1000) (hB : B ≤ w.heap.size) :
    ∃ A' c' w', (Builtin.append_ #[24, 24] 24 #[.slice A xs.length xs.length, .slice (some ⟨w.heap.size, 0, none⟩) 1 1]).run Try.prog (w.alloc (.cells #[.int .i64 x.part, .int .i64 x.many, .int .i64 x.due, .int .i64 x.worth] 60)) = .ok (.slice A' (xs.length + 1) c') w' ∧
      Own w.heap.size 60 w' (.slice A' (xs.length + 1) c') (xs ++ [x]) ∧ Below w.heap.size w w' := by
  cases A with
  | none =>
    have hy : xs = [] := by
      obtain ⟨A0, c0, e0, _, _, hcell⟩ := h
      injection e0 with e1 e2 e3
      subst e1
      cases xs with
      | nil => rfl
      | cons y ys => obtain ⟨ad, e, _⟩ := hcell 0 y rfl; cases e
    subst hy
    obtain ⟨A', c', w', h1, h2, h3, _⟩ := append_ord (Own.nil w.heap.size 60 w) x (by simp) (Nat.le_refl _)
    exact ⟨A', c', w', h1, h2, h3⟩
  | some ad =>
    obtain ⟨i, hi, hi2⟩ := Option.map_eq_some_iff.1 (show (Try.prog.info? 60).map (fun i => (i.size, i.bytes, i.zero.map (·.cells.size))) = some (4, 32, some 4) by kernel_rfl)
    simp only [Prod.mk.injEq] at hi2
    obtain ⟨hsize, hby, hz0⟩ := hi2
    obtain ⟨z, hz, hzs⟩ := Option.map_eq_some_iff.1 hz0
    have ht : Try.prog.underlying 24 = some (.slice 60) := by kernel_rfl
    obtain ⟨v', w', hrun, hown, hgr⟩ := run_append_arg_grows (P := Try.prog) (w.alloc (.cells #[.int .i64 x.part, .int .i64 x.many, .int .i64 x.due, .int .i64 x.worth] 60)) 24 24 60 i z 4 32 ht hi hz hsize hby hzs (by omega)
      ad xs.length xs.length (xs.flatMap Enc.enc) (by rw [flat_len]) (flat_ords (h.alloc hB _) ad rfl) ⟨w.heap.size, 0, none⟩ 1 1 (Enc.enc x) (by rw [Enc.len])
      (fun j u hu => by
        have hadd : (⟨w.heap.size, 0, none⟩ : Addr).add j = ⟨w.heap.size, j, none⟩ := by unfold Addr.add; split <;> simp_all
        rw [hadd]
        exact (cell_of_row _ _ j _ _ _ (heap_alloc_new w _)).trans (by simpa [Enc.enc] using hu))
      (by omega) (by unfold maxLen; omega) (by omega)
    have h4 : Own (w.alloc (.cells #[.int .i64 x.part, .int .i64 x.many, .int .i64 x.due, .int .i64 x.worth] 60)).heap.size 60 w' v' (xs ++ [x]) := Own.of_append (n := xs.length + 1) (by simp) (by simpa using hown)
    have h5 := h4.mono (base' := w.heap.size) (by simp)
    obtain ⟨A', c', rfl, hc1, hc2⟩ := h5.form
    rw [List.length_append, List.length_singleton] at hrun h5
    exact ⟨A', c', w', hrun, h5, ((Below.refl _ _).alloc (Nat.le_refl _) _).trans (Below.mono (B := (w.alloc (.cells #[.int .i64 x.part, .int .i64 x.many, .int .i64 x.due, .int .i64 x.worth] 60)).heap.size) ⟨hgr.os, hgr.tape, hgr.output, hgr.size, fun k hk => hgr.block k hk (by simp)⟩ (by simp))⟩

theorem slice3_ords (A : Option Addr) (n c : Nat) (hc : n ≤ c) (w : World) : (Instr.slice 24 (.slice A n c) none (some (.int .i64 n)) (some (.int .i64 n))).run Try.prog w = .ok (.slice A n n) w := by
  have ht : Try.prog.underlying 24 = some (.slice (Try.prog.elem 24)) := by kernel_rfl
  have hs : (sizeOf (Try.prog.elem 24)).run Try.prog w = .ok 4 w := by kernel_rfl
  rw [run_slice_hm (w := w) 24 A n c ht .i64 .i64 n n (by omega) (by omega) (by omega), hs]
  simp [Result.andThen, sliced]
  intro hn
  cases A <;> simp [Addr.add]
end Go.Proofs.Ytkmaapkbonkjfaa
