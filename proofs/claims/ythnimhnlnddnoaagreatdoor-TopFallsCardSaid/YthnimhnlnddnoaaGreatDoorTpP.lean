/- The statement TopFalls: for any rivers, any heights that run down, whatever is off and whatever was cut otherwise, the law returns true, and all arguments read as they did. Its condition: the listed variables of the library's own read as the program's text lays them. -/
import Derived.Test.YthnimhnlnddnoaaGreatDoorH4
import Derived.Test.YthnimhnlnddnoaaGreatDoorTie
import Derived.Test.YthnimhnlnddnoaaGreatDoorCards
import Derived.Test.YthnimhnlnddnoaaGreatDoorH48
import Derived.Test.YthnimhnlnddnoaaGreatDoorH49
set_option linter.unusedSimpArgs false
set_option linter.unusedVariables false
set_option maxRecDepth 100000
set_option maxHeartbeats 8000000
namespace Go.Proofs.YthnimhnlnddnoaaGreatDoor
open Go.ChangeShapes Go.WideShapes Go.ChangeAt Go.RowKit
theorem falls_lifted (os : Os) (started : os.Started) (H : Type) (enc : TypeId × Value → H) :
  ReturnsInHanded {} Tryz.checked os 3 .any (fun w args => (Rows.topFallsSpec.pre enc Tryz.prog Tryz.f3 Rows.topFallsRow.domain false w args ∧ laidMetH Tryz.prog laidX w) ∧ sizedMet enc Tryz.prog Tryz.f3 (OpenSpec.ofChange Rows.topFallsSpec) false w args)
   (Rows.topFallsSpec.post enc Tryz.prog Tryz.f3 false true false false) := by
 refine returns_laid (C := Tryz.checked) (X := fun w _ => laidMetH Tryz.prog laidX w) (fun _ _ _ hh h => h.of_heap hh) ownX started (by kernel_rfl) Tryz.func3
  (ChangeSpec.witness_shaped (enc := enc) (C := Tryz.checked) (os := os) (X := fun w _ => laidMetH Tryz.prog laidX w) false (World.laidAll Tryz.prog os laidX) #[.slice none 0 0, .agg #[.slice none 0 0, .slice none 0 0, .slice none 0 0], .int .u16 0] 8 (World.laidAll_os _ _ _)
   (World.shaped_of_ZipB (by kernel_rfl) (by kernel_rfl)) (by kernel_rfl) (by kernel_rfl) (by kernel_rfl)
   (by rw [MakeChecks.laidMetH_plain _ _ _ laid_plain]; exact laidMet_laidAll _ (by kernel_rfl) (by kernel_rfl))) ?_
 intro W base args ds gs before hval0 hW hsz hL hsh
 have hval : ∀ (j : Nat) t v, Tryz.f3.params[j]? = some t → args[j]? = some v → Value.okWide Tryz.prog W .any base t v := hval0
 have hgl := glob_of hL hsh
 have hdb := dbt_of hL
 have hW' := hW
 obtain ⟨p, q, hA0, hV, rfl, hfz, hnd⟩ := hW
 have hA : DataW.TrodAll enc Tryz.prog W 0 (fun _ => true) true Tryz.f3.params.toList args.toList ds p := hA0
 have hA' := hA
 rw [Tryz.params3] at hA hval hsz
 obtain ⟨v0, v1, v2, d0, d1, d2, p0, p1, p2, rfl, rfl, rfl, h0, h1, h2⟩ := trodAll_three hA
 obtain ⟨rfl, rfl⟩ := trodVars_none hV
 obtain ⟨r, hs, hn⟩ := open_rivers (hval 0 22 v0 rfl rfl) h0
 obtain ⟨x0, x1, x2, rfl, ⟨l0, hx0, hy0⟩, ⟨l1, hx1, hy1⟩, l2, hx2, hy2⟩ := open_three (hval 1 24 v1 rfl rfl) h1
 obtain ⟨bt, rfl, hbt⟩ := open_bits (hval 2 25 v2 rfl rfl) h2
 clear hA0 hval0
 simp only [List.append_nil] at hW'
 have hlt : ∀ x ∈ p0 ++ p1 ++ p2, x.block < W.heap.size := fun x hx => hW'.lt x hx
 refine (falls_any hs (Nat.le_refl _) hx0 (Nat.le_refl _) hx1 (Nat.le_refl _) hx2 (Nat.le_refl _) hy0 hy1 hy2 hbt hgl hdb hn).mono fun e W' ⟨he, hb⟩ => ?_
 subst he
 exact ⟨_, rfl, post_true (pa := p0 ++ p1 ++ p2) (pv := []) hW' (by kernel_rfl) rfl hb (fun sp hsp => args_stay hb (by rw [Tryz.params3]; intro t ht; simp at ht; rcases ht with rfl | rfl | rfl <;> exact ⟨by kernel_rfl, of_decide_eq_true (by kernel_rfl)⟩) hA' hlt sp hsp) (fun _ _ => rfl) (by simp)⟩
theorem falls_over : Rows.TopFallsSaid :=
 OpenClaim.holds_of_wide 3 Tryz.f3 rfl rfl rfl rfl rfl rfl rfl ⟨rfl, rfl, rfl, rfl, rfl⟩ rfl rfl rfl rfl rfl (by kernel_rfl) Tryz.func3 (by kernel_rfl)
  (of_decide_eq_true (by kernel_rfl)) (by unfold Func.isWrapper; first | (rw [if_pos (by decide +kernel)]; kernel_rfl) | (rw [if_neg (by decide +kernel)]; exact ⟨rfl, rfl⟩))
  (fun os started H enc _ => falls_lifted os started H enc)
theorem falls_holds : Rows.TopFallsCardSaid :=
 Claim7.holds_tied_plain_at .later [] [.data, .data, .data, .data, .sentinel, .sentinel, .pinned] true (true, "b9a18ca89c423eba613fd60120d00540ba1ba07ebca667831ee48837c50dd267") true falls_over (fun _ h => by cases h) (by kernel_rfl) (fun _ h => by cases h) topFalls_row_tie rfl ⟨rfl, rfl⟩ (by kernel_rfl) rfl
  (fun f fn hf hfn => by
   obtain rfl : f = 3 := Option.some.inj ((show Tryz.prog.funcNamed "hachure/hachuretop.TopFalls" = some 3 by kernel_rfl).symm.trans hf) |>.symm
   obtain rfl : fn = Tryz.f3 := (Option.some.inj (Tryz.func3.symm.trans hfn)).symm
   exact ⟨by kernel_rfl, fun j t ht => by
    rw [Tryz.params3] at ht
    have hm : t ∈ [22,24,25] := by simpa using Array.mem_of_getElem? ht
    have hall : ([22,24,25].all fun u => !Tryz.prog.wantsStandIn u) = true := by kernel_rfl
    exact (show Tryz.prog.wantsStandIn t = false by simpa using List.all_eq_true.1 hall t hm)⟩)
  (by kernel_rfl)
#print axioms falls_holds
end Go.Proofs.YthnimhnlnddnoaaGreatDoor
