/- Parts of the proof of TpP: Arr. -/
import Derived.Test.YthnimhnlnddnoaaGreatDoorH9
import Derived.Test.YthnimhnlnddnoaaGreatDoorH3
import Derived.Laws.Tables
import Derived.WalkKit
import Derived.Deep.Quiet
set_option linter.unusedSimpArgs false
set_option linter.unusedVariables false
set_option maxRecDepth 100000
set_option maxHeartbeats 8000000
namespace Go.Proofs.YthnimhnlnddnoaaGreatDoor
open Go.RowKit
theorem u93 : Tryz.prog.underlying 82 = some (.array 9 80) := by kernel_rfl
theorem size93 : (Tryz.prog.info? 82).map (·.size) = some 81 := by kernel_rfl
def zeroM : Mat := fun _ _ => 0
theorem matC_one (b : Mat) : (matC b).all (·.oneCell') = true := by
 rw [Array.all_eq_true_iff_forall_mem]
 intro x hx
 simp only [matC, List.mem_toArray, List.mem_map] at hx
 obtain ⟨n, _, rfl⟩ := hx
 rfl
theorem load_mat {w : World} {g : Nat} {T : TypeId} {b : Mat} (hm : MatAt w g T b) : (loadVar 82 ⟨g, 0, none⟩).run Tryz.prog w = .ok (.agg (matC b)) w :=
 run_loadVar_row w g T 82 (matC b) (0, 0) _ hm u93 rfl (by rw [size93, matC_size])
theorem wpList_load_mat {ops : Array Oper} {rest : List Oper} {o : Oper} {a : Act} {w : World} {Q : Exit → Act → World → Prop} (hgd : o.guard = none) (x : Operand) (ho : o.op = .load 82 x)
  {g : Nat} (hx : a.eval x = .pointer (some ⟨g, 0, none⟩)) {T : TypeId} {b : Mat} (hm : MatAt w g T b) (h : wpList Tryz.prog ops Q rest (a.put o.dst (.agg (matC b))) w) : wpList Tryz.prog ops Q (o :: rest) a w :=
 wpList_load_row hgd 82 x ho g hx T (matC b) (0, 0) _ hm u93 rfl (by rw [size93, matC_size]) h
theorem setRow_mat {w : World} {g : Nat} {T : TypeId} {b b' : Mat} (hm : MatAt w g T b) : MatAt (w.setRow g (matC b')) g T b' ∧ w.grownBy (w.setRow g (matC b')) (some g) := by
 unfold MatAt at *
 refine ⟨?_, rfl, rfl, rfl, by simp, fun k _ hk => ?_⟩
 ·simp [World.setRow, Array.getElem?_modify, hm]
 ·have : g ≠ k := by intro e; subst e; exact hk rfl
  simp [World.setRow, Array.getElem?_modify, this]
theorem wpList_store_mat {ops : Array Oper} {rest : List Oper} {o : Oper} {a : Act} {w : World} {Q : Exit → Act → World → Prop} (hgd : o.guard = none) (x y : Operand) (ho : o.op = .store 82 x y)
  {g : Nat} (hx : a.eval x = .pointer (some ⟨g, 0, none⟩)) {T : TypeId} {b b' : Mat} (hy : a.eval y = .agg (matC b')) (hm : MatAt w g T b)
  (h : ∀ w', MatAt w' g T b' → w.grownBy w' (some g) → wpList Tryz.prog ops Q rest (a.put o.dst undef) w') : wpList Tryz.prog ops Q (o :: rest) a w :=
 wpList_store_row hgd 82 x y ho g (matC b') hx hy T (matC b) hm (by rw [size93, matC_size]) (by rw [matC_size, matC_size]) (matC_one b') (h _ (setRow_mat hm).1 (setRow_mat hm).2)
theorem run_alloc93 (w : World) : (Instr.alloc 82 true (.tuple #[])).run Tryz.prog w = .ok (.pointer (some ⟨w.heap.size, 0, none⟩)) (w.alloc (.cells (matC zeroM) 82)) := by kernel_rfl
theorem wpList_alloc_mat {ops : Array Oper} {rest : List Oper} {o : Oper} {a : Act} {w : World} {Q : Exit → Act → World → Prop} (hgd : o.guard = none) (ho : o.op = .alloc 82)
  (h : ∀ w', w' = w.alloc (.cells (matC zeroM) 82) → MatAt w' w.heap.size 82 zeroM → Below w.heap.size w w' → w'.heap.size = w.heap.size + 1 → wpList Tryz.prog ops Q rest (a.put o.dst (.pointer (some ⟨w.heap.size, 0, none⟩))) w') : wpList Tryz.prog ops Q (o :: rest) a w := by
 refine wpList_plain hgd fun K hK => ?_
 unfold Oper.wp execOp
 rw [ho]
 simp only [Sem.run_bind, Sem.run_pure, run_alloc93, Result.andThen_ok]
 exact hK _ _ (h _ rfl (heap_alloc_new w _) ((Below.refl _ _).alloc (Nat.le_refl _) _) (by simp))
theorem MatAt.grown {w w' : World} {g : Nat} {T : TypeId} {b : Mat} (h : MatAt w g T b) {row : Option Nat} (hg : w.grownBy w' row) (hne : some g ≠ row) : MatAt w' g T b := (hg.block g (lt_of_block h) hne).trans h
theorem MatAt.below {w w' : World} {g : Nat} {T : TypeId} {b : Mat} (h : MatAt w g T b) (hg : Below w.heap.size w w') : MatAt w' g T b := (hg.block g (lt_of_block h)).trans h
def mixF (n : Nat) : Mat := fun i k => if i * 9 + k < n then freeM i k else 0
theorem mixF_zero : mixF 0 = zeroM := by funext i k; simp [mixF, zeroM]
theorem mixF_step {i k : Nat} (hk : k < 9) (h : freeM i k = 9000) : (matC (mixF (i * 9 + k))).setIfInBounds (i * 9 + k) (.int .i64 9000) = matC (mixF (i * 9 + k + 1)) := by
 apply Array.ext_getElem?
 intro n
 by_cases hn : n < 81
 ·rw [Array.getElem?_setIfInBounds, matC_get _ hn, matC_get _ hn, matC_size]
  by_cases e : i * 9 + k = n
  ·subst e
   rw [if_pos rfl, if_pos (by omega), show (i * 9 + k) / 9 = i by omega, show (i * 9 + k) % 9 = k by omega]
   unfold mixF
   rw [if_pos (by omega), h]
  ·rw [if_neg e]
   unfold mixF
   have e2 : n / 9 * 9 + n % 9 = n := by omega
   rw [e2]
   by_cases h2 : n < i * 9 + k
   ·rw [if_pos h2, if_pos (by omega)]
   ·rw [if_neg h2, if_neg (by omega)]
 ·have h1 := matC_size (mixF (i * 9 + k))
  have h2 := matC_size (mixF (i * 9 + k + 1))
  rw [Array.getElem?_eq_none (by simp; omega), Array.getElem?_eq_none (by omega)]
theorem mixF_same {i k : Nat} (hk : k < 9) (h : freeM i k = 0) : mixF (i * 9 + k) = mixF (i * 9 + k + 1) ∨ matC (mixF (i * 9 + k)) = matC (mixF (i * 9 + k + 1)) := by
 right
 apply Array.ext_getElem?
 intro n
 by_cases hn : n < 81
 ·rw [matC_get _ hn, matC_get _ hn]
  unfold mixF
  have e2 : n / 9 * 9 + n % 9 = n := by omega
  rw [e2]
  by_cases h2 : n < i * 9 + k
  ·rw [if_pos h2, if_pos (by omega)]
  ·rw [if_neg h2]
   by_cases e : i * 9 + k = n
   ·subst e
    rw [if_pos (by omega), show (i * 9 + k) / 9 = i by omega, show (i * 9 + k) % 9 = k by omega, h]
   ·rw [if_neg (by omega)]
 ·have h1 := matC_size (mixF (i * 9 + k))
  have h2 := matC_size (mixF (i * 9 + k + 1))
  rw [Array.getElem?_eq_none (by omega), Array.getElem?_eq_none (by omega)]
theorem mixF_all : matC (mixF 81) = matC freeM := by
 apply Array.ext_getElem?
 intro n
 by_cases hn : n < 81
 ·rw [matC_get _ hn, matC_get _ hn]
  unfold mixF
  rw [if_pos (by omega)]
 ·have h1 := matC_size (mixF 81)
  have h2 := matC_size freeM
  rw [Array.getElem?_eq_none (by omega), Array.getElem?_eq_none (by omega)]
theorem free_any (w : World) : Calls Tryz.prog 62 #[] w fun e w' => e = .returned (.agg (matC freeM)) ∧ Below w.heap.size w w' := by
 go_enter Tryz.func62, Tryz.ntmps62
 go_wp2_with (refine wpList_alloc_mat rfl rfl ?_; intro W hW hm hb hz)
 rw [← hW]
 clear hW
 have Hb := Lib.hid hb
 have Hm := Lib.hid hm
 have Hz := Lib.hid hz
 clear hb hm hz
 go_loopw [3, 1, 2] (fun i _ _ wr => ∃ n : Nat, n ≤ 9 ∧ i = .int .i64 n ∧ MatAt wr w.heap.size 82 (mixF (n * 9)) ∧ W.grownBy wr (some w.heap.size)) (fun i _ _ _ => 9 - (intOf i).toNat)
 case atStart => exact ⟨0, Nat.zero_le _, rfl, by rw [Nat.zero_mul, mixF_zero]; exact Hm.out, World.grownBy.refl _ _⟩
 case round =>
  obtain ⟨i, hi, rfl, hmr, hg⟩ := hrel
  have HM := Lib.hid hmr
  have HG := Lib.hid hg
  clear hmr hg
  by_cases hlt : i < 9
  ·go_wp2
   obtain ⟨wo, rfl⟩ : ∃ wo : World, wo = wr := ⟨_, rfl⟩
   go_loopw [6, 2] (fun k _ wr => ∃ n : Nat, n ≤ 9 ∧ k = .int .i64 n ∧ MatAt wr w.heap.size 82 (mixF (i * 9 + n)) ∧ W.grownBy wr (some w.heap.size)) (fun k _ _ => 9 - (intOf k).toNat)
   case atStart => exact ⟨0, Nat.zero_le _, rfl, HM.out, HG.out⟩
   case round =>
    obtain ⟨k, hk, rfl, hmr, hg⟩ := hrel
    have HM2 := Lib.hid hmr
    have HG2 := Lib.hid hg
    by_cases hkl : k < 9
    ·have d0 := hmr.cell hlt hkl
     have fz := hmr.frozen (i * 9 + k)
     clear hmr hg
     by_cases e1 : i = k
     ·have hf : freeM i k = 0 := by unfold freeM; rw [if_pos (.inl e1)]
      have hs := Lib.hid ((mixF_same hkl hf).elim (fun e => by rw [e]) id)
      have hb1 : ((i : Int) != (k : Int)) = false := by simp [e1]
      have E1 := Lib.hid e1
      clear e1 hf
      go_wp2
      go_roundw
      case rel => exact ⟨k + 1, by omega, by go_num, by have := HM2.out; unfold MatAt at this ⊢; rw [this, hs.out]; rfl, HG2.out⟩
      case measure => simp [intOf]; omega
     ·have hb1 : ((i : Int) != (k : Int)) = true := by simp; omega
      by_cases e2 : k = 8
      ·have hf : freeM i k = 0 := by unfold freeM; rw [if_pos (.inr e2)]
       have hs := Lib.hid ((mixF_same hkl hf).elim (fun e => by rw [e]) id)
       have hb2 : ((k : Int) != 8) = false := by simp [e2]
       have E2 := Lib.hid e2
       clear e1 e2 hf
       go_wp2
       go_roundw
       case rel => exact ⟨k + 1, by omega, by go_num, by have := HM2.out; unfold MatAt at this ⊢; rw [this, hs.out]; rfl, HG2.out⟩
       case measure => simp [intOf]; omega
      ·have hf : freeM i k = 9000 := by unfold freeM; rw [if_neg (by omega)]
       have hs := Lib.hid (mixF_step hkl hf)
       have hb2 : ((k : Int) != 8) = true := by simp; omega
       clear e1 e2 hf
       go_wp2
       go_roundw
       case rel => exact ⟨k + 1, by omega, by go_num, by unfold MatAt; rw [← Nat.add_assoc, ← hs.out]; exact heap_setCell_row HM2.out _, HG2.out.trans (grown_setCell _ _ _ _)⟩
       case measure => simp [intOf]; omega
    ·have hk9 : k = 9 := by omega
     subst hk9
     clear hmr hg
     go_wp2
     go_roundw
     case rel => exact ⟨i + 1, by omega, by go_num, by rw [Nat.add_mul]; exact HM2.out, HG2.out⟩
     case measure => simp [intOf]; omega
  ·have hi9 : i = 9 := by omega
   subst hi9
   have hm9 := HM.out
   go_wp2_with (first | (refine wpList_load_mat rfl _ rfl rfl hm9 ?_) | (refine wpList_store_mat rfl _ _ rfl rfl rfl hm9 ?_; intro w2 hm2 hg2))
   have hm3 : MatAt w2 w.heap.size 82 freeM := by unfold MatAt at hm2 ⊢; rw [← mixF_all]; exact hm2
   refine bodyPost_ret (v := .agg (matC freeM)) (results_cell_row rfl _ w2 w.heap.size 82 (matC freeM) (0, 0) _ rfl hm3 u93 rfl (by rw [size93, matC_size])) rfl ⟨rfl, ?_⟩
   exact Hb.out.trans ((grown_below HG.out (Nat.le_refl _) (by have := Hz.out; omega)).trans (grown_below hg2 (Nat.le_refl _) (by have := Hz.out; have := HG.out.size; omega)))
end Go.Proofs.YthnimhnlnddnoaaGreatDoor
