/- Walks of the layer order: Plan of the program, whose castings lie in new memory. -/
import Derived.Test.YtkmaapkbonkjfaaGPlan
set_option linter.unusedSimpArgs false
set_option linter.unusedVariables false
namespace Go.Proofs.Ytkmaapkbonkjfaa
open Go.RowKit

theorem slFrom_nil {b : Nat} : SlFrom b (.slice none 0 0) := fun _ _ _ h => by cases h
def PlanF (w : World) (s : ShopR) (t : List Int) (e : Ending) (w' : World) : Prop :=
  ∃ A c, e = .returned (.tuple #[.slice A (planF s t).1.length c, .int .i64 (planF s t).2]) ∧ Rd CastAt 2 w'.heap.size w' (.slice A (planF s t).1.length c) (planF s t).1 ∧ SlFrom w.heap.size (.slice A (planF s t).1.length c) ∧ Below w.heap.size w w'
theorem planFr_eq {w w' : World} {s : ShopR} {t : List Int} {e : Ending} {l : List (Int × Int)} {n : Int} (h : planF s t = (l, n)) {A : Option Addr} {c : Nat} (he : e = .returned (.tuple #[.slice A l.length c, .int .i64 n])) (hr : Rd CastAt 2 w'.heap.size w' (.slice A l.length c) l) (hf : SlFrom w.heap.size (.slice A l.length c)) (hb : Below w.heap.size w w') : PlanF w s t e w' := by
  unfold PlanF
  rw [h]
  exact ⟨A, c, he, hr, hf, hb⟩

theorem pplan_from {B : Nat} {w : World} {v vt : Value} {s : ShopR} {t : List Int} (h : Given B w v vt s t) :
    Calls Try.prog 24 #[v, vt] w (PlanF w s t) := by
  obtain ⟨Ah, ch, Ap, cp, Ao, co, At_, ct, rfl, rfl⟩ := h.form
  obtain ⟨W, hW, c0, c1, c2, hz, hb, _⟩ := shop_box w (.slice Ah s.hours.length ch) (.slice Ap s.parts.length cp) (.slice Ao s.orders.length co)
  go_enter Try.func24, Try.ntmps24
  go_upto_region 1 with (fail)
  rw [← hW]
  have hG := Lib.hid (h.below hb)
  have Hb := Lib.hid hb
  clear hW hz hb h
  by_cases he : takenErr s t = 0
  · have hq := Lib.hid (enter_ok hG.out he)
    obtain ⟨_, hg, hf, _⟩ := fit_of he
    have He := Lib.hid he
    clear he
    cases hc : canB s (ofL s t) with
    | false =>
      have e := Lib.hid (show planF s t = ([], 9) by unfold planF; rw [if_neg (by simp [He.out]), hc]; rfl)
      have hc' := Lib.hid hc
      clear hc
      go_wp2_with (first | (go_at_call 52; refine hq.out.mono ?_; rintro e wx ⟨p, bm, A, c, rfl, hE⟩; have HE := Lib.hid hE; clear hE) | (go_at_call 60; refine (pcan_any HE.out.shop HE.out.ls hg hf (Nat.le_refl _)).mono ?_; rw [hc'.out]; rintro e wy ⟨rfl, hk, _⟩; have HK := Lib.hid (Hb.out.trans ((HE.out.after hk).mono Hb.out.size)); clear hk))
      go_ret2
      exact planFr_eq e.out rfl (Rd.nil _ _) slFrom_nil HK.out
    | true =>
      have e := Lib.hid (show planF s t = (castsL s (ofL s t), 0) by unfold planF; rw [if_neg (by simp [He.out]), hc]; rfl)
      have hc' := Lib.hid hc
      clear hc
      go_wp2_with (first | (go_at_call 52; refine hq.out.mono ?_; rintro e wx ⟨p, bm, A, c, rfl, hE⟩; have HE := Lib.hid hE; clear hE) | (go_at_call 60; refine (pcan_any HE.out.shop HE.out.ls hg hf (Nat.le_refl _)).mono ?_; rw [hc'.out]; rintro e wy ⟨rfl, hk, hm⟩; have HK := Lib.hid hk; have HM := Lib.hid hm; clear hk hm) | (go_at_call 61; refine (plan_any (HE.out.shop.keep HK.out HM.out) (HE.out.ls.keepM HK.out HE.out.shop.map) hg hf hc'.out HK.out.size).mono ?_; rintro e wz ⟨A3, c3, rfl, hr3, hk3, _, hsf⟩; have HF := Lib.hid hsf; clear hsf; have HR := Lib.hid hr3; have HK3 := Lib.hid hk3; clear hr3 hk3))
      go_ret2
      exact planFr_eq e.out rfl HR.out (HF.out.mono (by have h1 := Hb.out.size; have h2 := HE.out.bl.size; have h3 := HK.out.size; omega)) (Hb.out.trans ((HE.out.after (HK.out.trans HK3.out)).mono Hb.out.size))
  · have hq := Lib.hid (enter_bad hG.out he)
    have e := Lib.hid (show planF s t = ([], takenErr s t) by unfold planF; rw [if_pos he])
    have hne : (takenErr s t != 0) = true := by simpa using he
    clear he
    go_wp2_with (go_at_call 52; refine hq.out.mono ?_; rintro e wx ⟨rfl, hbx⟩)
    go_ret2
    exact planFr_eq e.out rfl (Rd.nil _ _) slFrom_nil (Hb.out.trans (hbx.mono Hb.out.size))
end Go.Proofs.Ytkmaapkbonkjfaa
