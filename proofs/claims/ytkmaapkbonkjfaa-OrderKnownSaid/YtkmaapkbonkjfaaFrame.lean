/- The last step of a claim of the layer order: a law returned true, and left all that there was. -/
import Derived.Test.YtkmaapkbonkjfaaProg
import Derived.Below
import Derived.ChangeSame
import Derived.ProofKit
import Derived.OpenShut
namespace Go.Proofs.Ytkmaapkbonkjfaa
open Go.RowKit Go.WideShapes Go.ChangeShapes Go.ChangeAt

theorem ownX : ownKnob Try.prog.godebug = none := by kernel_rfl

set_option maxRecDepth 100000 in
/-- A call that returned true and left every old block as it was meets the specification that says so. -/
theorem post_true {H : Type} {enc : TypeId × Value → H} {f : Func} {s : ChangeSpec} {apart fresh handsOn again : Bool} {W W' : World} {args : Array Value} {ds gs : List (DataW H)} {before pa pv : List MemPlace}
    (hW : DataW.Whole enc Try.prog f.params.toList s.vars apart W args.toList ds gs before) (hf : f.resultTypes = #[4]) (hs : (s.fn H (ds ++ gs)).results = [.lit (.bool true)]) (hb : Below W.heap.size W W')
    (hargs : ∀ sp : Nat → Bool, (∀ p ∈ before, sp p.block = true) → DataW.TrodAll enc Try.prog W' 0 sp true f.params.toList args.toList (s.fn H (ds ++ gs)).args pa)
    (hvars : ∀ sp : Nat → Bool, (∀ p ∈ before, sp p.block = true) → DataW.TrodVars enc Try.prog W' sp s.vars (s.fn H (ds ++ gs)).vars pv) (hps : before = pa ++ pv) :
    s.post enc Try.prog f apart fresh handsOn again W args (.bool true) W' := by
  have old : ∀ p ∈ before, p.block < W.heap.size := fun p hp => hW.lt p hp
  have res : ∀ (b : Nat) (sp : Nat → Bool) (hd : Bool), DataW.TrodAll enc Try.prog W' b sp hd f.resultTypes.toList ((Value.bool true).resultList f.resultTypes.size) (s.fn H (ds ++ gs)).results [] := fun b sp hd => by
    rw [hs, hf]
    exact trodAll_cons_mk (shut_bool Try.underlying4 _) trodAll_mk0
  have seen := hargs (fun b => decide (b < W.heap.size)) fun p hp => decide_eq_true (old p hp)
  have vars := hvars (fun b => decide (b < W.heap.size)) fun p hp => decide_eq_true (old p hp)
  refine ⟨ds, gs, before, [], pa, pv, hW, res _ _ _, seen, vars, World.keptBut_mono (fun p hp => ⟨hp, .inr ?_⟩) (hb.frame (· ∈ before)), fun _ => ?_⟩
  · exact List.mem_append.1 (hps ▸ hp)
  · obtain ⟨_, _, _, _, _, frozen, apart'⟩ := hW
    have whole : [] ++ pa ++ pv = before := by rw [hps, List.nil_append]
    refine ⟨?_, _, _, [] ++ pa ++ pv, ⟨[] ++ pa, pv, trodAll_append (hargs _ fun _ _ => rfl) (res _ _ _), hvars _ fun _ _ => rfl, rfl, ?_, ?_⟩, fun p hp _ => whole ▸ hp⟩
    · exact ok_one hf rfl (okWide_bool_mk Try.underlying4 _)
    · intro b off hp
      rw [whole] at hp
      exact (hb.frozen (p := ⟨b, off, none⟩) (old _ hp)).trans (frozen b off hp)
    · intro ha
      rw [whole]
      exact apart' ha
end Go.Proofs.Ytkmaapkbonkjfaa
