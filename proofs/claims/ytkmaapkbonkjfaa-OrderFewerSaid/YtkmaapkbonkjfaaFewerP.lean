/- The statement OrderFewer: what could be kept still can, where it is made easier; Best is worth no less. No condition. -/
import Derived.Test.YtkmaapkbonkjfaaRows
import Derived.Test.YtkmaapkbonkjfaaLawE
import Derived.Test.YtkmaapkbonkjfaaEasier
set_option linter.unusedSimpArgs false
set_option linter.unusedVariables false
namespace Go.Proofs.Ytkmaapkbonkjfaa
open Go.ChangeShapes Go.WideShapes Go.ChangeAt Go.RowKit

set_option maxRecDepth 100000 in
theorem fewer_lifted (os : Os) (started : os.Started) (H : Type) (enc : TypeId × Value → H) :
    ReturnsInHanded {} Try.checked os 13 .any (Rows.orderFewerSpec.pre6 enc Try.prog Try.f13 Rows.orderFewerRow.domain false) (Rows.orderFewerSpec.post enc Try.prog Try.f13 false true false false) := by
  refine returnsInHanded_of_change (C := Try.checked) ownX started (by kernel_rfl) Try.func13
    (ChangeSpec.witness6 (enc := enc) (C := Try.checked) false ⟨#[], #[.agg #[.slice none 0 0, .slice none 0 0, .slice none 0 0], .int .u8 0, .agg #[.int .u8 0, .int .u8 0, .int .u8 0, .int .u8 0, .int .u8 0, .int .u8 0, .int .u8 0]], []⟩ 8 (by kernel_rfl) (by kernel_rfl) (by kernel_rfl) (by kernel_rfl)) ?_
  intro W base args ds gs before hval0 hW hcnd _
  have hval : ∀ (j : Nat) t v, Try.f13.params[j]? = some t → args[j]? = some v → Value.okWide Try.prog W .any base t v := hval0
  have hW' := hW
  obtain ⟨p, q, hA0, hV, rfl, hfz, hnd⟩ := hW
  have hA : DataW.TrodAll enc Try.prog W 0 (fun _ => true) true Try.f13.params.toList args.toList ds p := hA0
  have hA' := hA
  rw [Try.params13] at hA hval
  obtain ⟨v0, v1, v2, d0, d1, d2, p0, p1, p2, rfl, rfl, rfl, h0, h1, h2⟩ := trodAll_three hA
  obtain ⟨rfl, rfl⟩ := trodVars_none hV
  obtain ⟨s, hs, hn⟩ := open_shop (hval 0 26 v0 rfl rfl) h0
  obtain ⟨x, rfl, hx⟩ := open_byte (hval 1 5 v1 rfl rfl) h1
  obtain ⟨a, b, c, e, f, g, i, rfl, hbd⟩ := open_easier (hval 2 71 v2 rfl rfl) h2
  clear hA0 hval0
  simp only [List.append_nil] at hW'
  have hlt : ∀ x ∈ p0 ++ p1 ++ p2, x.block < W.heap.size := fun x hx => hW'.lt x hx
  refine (fewer_walk hs hn (Nat.le_refl _) x a b c e f g i hx hbd).mono fun e W' ⟨he, hb⟩ => ?_
  subst he
  exact ⟨_, rfl, post_true (pa := p0 ++ p1 ++ p2) (pv := []) hW' (by kernel_rfl) rfl hb (fun sp hsp => args_stay hb (by rw [Try.params13]; intro t ht; simp at ht; rcases ht with rfl | rfl | rfl <;> exact ⟨by kernel_rfl, of_decide_eq_true (by kernel_rfl)⟩) hA' hlt sp hsp) (fun _ _ => rfl) (by simp)⟩

theorem fewer_over : Rows.orderFewerRow.holds Try.pinned (OpenSpec.ofChange Rows.orderFewerSpec) :=
  OpenClaim.holds_of_wide 13 Try.f13 rfl rfl rfl rfl rfl rfl rfl ⟨rfl, rfl, rfl, rfl, rfl⟩ rfl rfl rfl rfl rfl (by kernel_rfl) Try.func13 (by kernel_rfl)
    (of_decide_eq_true (by kernel_rfl)) (by unfold Func.isWrapper; first | (rw [if_pos (by decide +kernel)]; kernel_rfl) | (rw [if_neg (by decide +kernel)]; exact ⟨rfl, rfl⟩))
    (fun os started H enc _ => fewer_lifted os started H enc)

theorem fewer_holds : Rows.OrderFewerSaid := fewer_over
#print axioms fewer_holds
end Go.Proofs.Ytkmaapkbonkjfaa
