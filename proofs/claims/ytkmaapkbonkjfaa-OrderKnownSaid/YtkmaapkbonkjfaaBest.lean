/- Walks of the layer order: Best of the program. -/
import Derived.Test.YtkmaapkbonkjfaaSetsLaw
import Derived.Test.YtkmaapkbonkjfaaCmp
namespace Go.Proofs.Ytkmaapkbonkjfaa
open Go.RowKit Go.Shelf
attribute [local go_sem] Oper.semAt_some

def bestTo (s : ShopR) (k : Nat) : List Nat × Int := ((setsOf s 0 0).take k).foldl (better s) ([], 0)
theorem setsOf_len (s : ShopR) (a b : Nat) : (setsOf s a b).length = (setNs s a b).length := by rw [← setNs_sets, List.length_map]
theorem setsOf_take (s : ShopR) (a b k : Nat) (hk : k < (setNs s a b).length) : (setsOf s a b).take (k + 1) = (setsOf s a b).take k ++ [bitsOf s.orders.length ((setNs s a b).getD k 0)] := by
  rw [List.take_succ_eq_append_getElem (by rw [setsOf_len]; exact hk)]
  congr 2
  rw [getD_at hk]
  simp [← setNs_sets]
theorem bestTo_succ (s : ShopR) (k : Nat) (hk : k < (setNs s 0 0).length) : bestTo s (k + 1) = better s (bestTo s k) (bitsOf s.orders.length ((setNs s 0 0).getD k 0)) := by
  unfold bestTo
  rw [setsOf_take s 0 0 k hk, List.foldl_append]
  rfl
theorem setN_lt {s : ShopR} {a b k : Nat} (hk : k < (setNs s a b).length) : (setNs s a b).getD k 0 < 2 ^ s.orders.length ∧ takeP s a b ((setNs s a b).getD k 0) = true := by
  have := getD_mem hk 0
  unfold setNs at this
  simpa [setNs] using this
theorem bits_worth {s : ShopR} (hg : Good s) (x : Nat) : 0 ≤ worthOf s (bitsOf s.orders.length x) ∧ worthOf s (bitsOf s.orders.length x) ≤ 80000 := by
  have h := worth_bd hg (X := bitsOf s.orders.length x) fun i hi => (bits_mem hi).1
  have := bits_len s.orders.length x
  have := hg.olen
  omega
theorem bestTo_bd {s : ShopR} (hg : Good s) (k : Nat) (hk : k ≤ (setNs s 0 0).length) : 0 ≤ (bestTo s k).2 ∧ (bestTo s k).2 ≤ 80000 ∧ (bestTo s k).1.length ≤ 8 := by
  induction k with
  | zero => simp [bestTo]
  | succ k ih =>
    have h1 := ih (by omega)
    have h2 := bits_worth hg ((setNs s 0 0).getD k 0)
    have h3 := bits_len s.orders.length ((setNs s 0 0).getD k 0)
    have := hg.olen
    rw [bestTo_succ s k (by omega)]
    unfold better
    split
    · simp only; omega
    · exact h1
theorem bestTo_end (s : ShopR) : bestTo s (setNs s 0 0).length = bestL s := by
  unfold bestTo bestL
  rw [List.take_of_length_le (by rw [setsOf_len]; exact Nat.le_refl _)]
theorem better_yes {s : ShopR} {b : List Nat × Int} {x : List Nat} (h : b.2 < worthOf s x ∨ (worthOf s x = b.2 ∧ x < b.1)) : better s b x = (x, worthOf s x) := by unfold better; rw [if_pos h]
theorem better_no {s : ShopR} {b : List Nat × Int} {x : List Nat} (h : ¬ (b.2 < worthOf s x ∨ (worthOf s x = b.2 ∧ x < b.1))) : better s b x = b := by unfold better; rw [if_neg h]

theorem results31 {w : World} {a b : Addr} {u : Value} {v n : Int} {tmps : Array Value} (hu : ∃ A l c, u = .slice A l c) (h1 : w.cell? a = some u) (h2 : w.cell? b = some (.int .i64 v)) (t1 : tmps[2]?.getD undef = .pointer (some a)) (t2 : tmps[3]?.getD undef = .pointer (some b)) (t3 : tmps[4]?.getD undef = .int .i64 n) :
    (results Try.f31 tmps).run Try.prog w = .ok (.tuple #[u, .int .i64 v, .int .i64 n]) w := by
  obtain ⟨A, l, c, rfl⟩ := hu
  simp [results, Try.results31, t1, t2, t3, go_sem, h1, h2]

/-- what holds between two rounds -/
structure BestE (s : ShopR) (w : World) (B0 B base p bm tb wb k : Nat) (W : World) : Prop where
  below : Below w.heap.size w W
  shop : ShopSep B0 B base W p bm s
  hB : B ≤ W.heap.size
  tk : ∃ A c, W.heap[tb]? = some (.cells #[.slice A (bestTo s k).1.length c] 22) ∧ Rd IntAt 1 W.heap.size W (.slice A (bestTo s k).1.length c) ((bestTo s k).1.map Int.ofNat)
  wo : W.heap[wb]? = some (.cells #[.int .i64 (bestTo s k).2] 3)
theorem BestE.stay {s : ShopR} {w : World} {B0 B base p bm tb wb k T : Nat} {A W : World} (h : BestE s w B0 B base p bm tb wb k A) (hs : Stay s bm w.heap.size T A W) (hz : A.heap.size ≤ W.heap.size) : BestE s w B0 B base p bm tb wb k W := by
  obtain ⟨A1, c1, h1, h2⟩ := h.tk
  exact ⟨h.below.trans hs.below, h.shop.cells hs.cells (hs.map h.shop.map), Nat.le_trans h.hB hz, ⟨A1, c1, hs.cells _ _ _ _ h1, (h2.stay fun b c e f _ hc => hs.cells _ _ _ _ hc).mono hz⟩, hs.cells _ _ _ _ h.wo⟩
end Go.Proofs.Ytkmaapkbonkjfaa
