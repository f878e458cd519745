/- Walks of the layer order: Casts of the reference. Walks of the layer order: More and Left of the reference. Walks of the layer order: Plan of the reference. Walks of the layer order: Promise of the reference. -/
import Derived.Test.YtkmaapkbonkjfaaLawF
import Derived.Test.YtkmaapkbonkjfaaAskL
import Derived.Deep.RegionHeld3
import Derived.Test.YtkmaapkbonkjfaaLawP
set_option linter.unusedSimpArgs false
set_option linter.unusedVariables false
namespace Go.Proofs.Ytkmaapkbonkjfaa
open Go.RowKit

/-- the castings ahead of the j-th new one of part i on day d -/
def preL (s : ShopR) (l : List OrdR) (d i j : Nat) : List (Int × Int) := listTo s l d ++ newsOf s l d i ++ List.replicate j ((i : Int), (d : Int))
theorem preL_zero (s : ShopR) (l : List OrdR) (d : Nat) : preL s l d 0 0 = listTo s l d := by simp [preL, newsOf]
theorem preL_snoc (s : ShopR) (l : List OrdR) (d i j : Nat) : preL s l d i (j + 1) = preL s l d i j ++ [((i : Int), (d : Int))] := by
  unfold preL
  rw [List.replicate_succ', List.append_assoc, List.append_assoc, List.append_assoc]
theorem preL_part (s : ShopR) (l : List OrdR) (d i : Nat) : preL s l d i (newBy s l d i).toNat = preL s l d (i + 1) 0 := by
  unfold preL
  rw [newsOf_succ]; simp
theorem preL_day (s : ShopR) (l : List OrdR) (d : Nat) : preL s l d s.parts.length 0 = listTo s l (d + 1) := by
  unfold preL
  rw [listTo_succ]; simp
theorem rep_split {n m : Nat} (h : n ≤ m) (x : Int × Int) : ∃ r, List.replicate m x = List.replicate n x ++ r := ⟨List.replicate (m - n) x, by rw [List.replicate_append_replicate]; congr 1; omega⟩
theorem news_split (s : ShopR) (l : List OrdR) (d : Nat) {i n : Nat} (h : i ≤ n) : ∃ r, newsOf s l d n = newsOf s l d i ++ r := by
  obtain ⟨k, rfl⟩ : ∃ k, n = i + k := ⟨n - i, by omega⟩
  clear h
  induction k with
  | zero => exact ⟨[], by simp⟩
  | succ k ih =>
    obtain ⟨r, hr⟩ := ih
    refine ⟨r ++ List.replicate (newBy s l d (i + k)).toNat (((i + k : Nat) : Int), (d : Int)), ?_⟩
    rw [← List.append_assoc, ← hr]
    exact newsOf_succ s l d (i + k)
theorem preL_split {s : ShopR} (l : List OrdR) {d i j : Nat} (hd : d < s.hours.length) (hi : i ≤ s.parts.length) (hj : j = 0 ∨ i < s.parts.length ∧ j ≤ (newBy s l d i).toNat) : ∃ r, listTo s l s.hours.length = preL s l d i j ++ r := by
  obtain ⟨r1, h1⟩ := listTo_split s l (d := d + 1) (n := s.hours.length) (by omega)
  rw [listTo_succ] at h1
  rcases hj with rfl | ⟨hi2, hj⟩
  · obtain ⟨r2, h2⟩ := news_split s l d hi
    exact ⟨r2 ++ r1, by rw [h1, h2]; unfold preL; simp⟩
  · obtain ⟨r2, h2⟩ := news_split s l d (i := i + 1) (n := s.parts.length) (by omega)
    obtain ⟨r3, h3⟩ := rep_split hj ((i : Int), (d : Int))
    exact ⟨r3 ++ r2 ++ r1, by rw [h1, h2, newsOf_succ, h3]; unfold preL; simp⟩
theorem preL_used {s : ShopR} {l : List OrdR} (hg : Good s) (hf : Fit s l) (hc : canB s l = true) {d i j : Nat} (hd : d < s.hours.length) (hi : i ≤ s.parts.length) (hj : j = 0 ∨ i < s.parts.length ∧ j ≤ (newBy s l d i).toNat) :
    0 ≤ usedOf s (preL s l d i j) ∧ usedOf s (preL s l d i j) ≤ worked s (s.hours.length - 1) ∧ (preL s l d i j).length ≤ 1350 := by
  have hh := hg.hlen
  obtain ⟨r, hr⟩ := preL_split l hd hi hj
  have h1 := used_takes hg hf (s.hours.length - 1)
  have h2 := can_spec hc (d := s.hours.length - 1) (by omega)
  rw [show s.hours.length - 1 + 1 = s.hours.length by omega] at h1
  have h3 := list_bd hg hf s.hours.length
  have hm : ∀ x ∈ preL s l d i j ++ r, 0 ≤ x.1 ∧ x.1 < s.parts.length := fun x hx => by rw [← hr] at hx; have := list_mem hx; omega
  rw [hr] at h1 h3
  rw [used_append] at h1
  rw [List.length_append] at h3
  have h4 := usedOf_bd hg (xs := r) fun x hx => hm x (by simp [hx])
  have h5 := usedOf_bd hg (xs := preL s l d i j) fun x hx => hm x (by simp [hx])
  omega
theorem used_pre (s : ShopR) (l : List OrdR) (d i j : Nat) : usedOf s (preL s l d i (j + 1)) = usedOf s (preL s l d i j) + (s.parts.getD i default).long := by
  rw [preL_snoc, usedOf_snoc]; rfl
theorem casts_pre (s : ShopR) (l : List OrdR) (d i j : Nat) : castsC s 0 (preL s l d i (j + 1)) = castsC s 0 (preL s l d i j) ++ [((i : Int), (done s (usedOf s (preL s l d i (j + 1))) : Int))] := by
  rw [used_pre, preL_snoc, castsC_snoc, Int.zero_add]; rfl
theorem casts_pre_len (s : ShopR) (l : List OrdR) (d i j : Nat) : (castsC s 0 (preL s l d i j)).length = (preL s l d i j).length := castsC_len s _ _

theorem by_int {B : Nat} {w : World} {v vl : Value} {s : ShopR} {l : List OrdR} (hs : RdShop B w v s) (hl : Rd OrdAt 4 B w vl l) (hg : Good s) (hf : Fit s l) (i : Nat) (hi : i < s.parts.length) (hB : B ≤ w.heap.size) (z D : Int) (hz : z = D) :
    Calls Try.prog 58 #[v, vl, .int .i64 i, .int .i64 z] w fun e w' => e = .returned (.int .i64 (byy s l i D)) ∧ Below w.heap.size w w' := by subst hz; exact by_any hs hl hg hf i z hi hB
theorem worked_int {B : Nat} {w : World} {v : Value} {s : ShopR} (hs : RdShop B w v s) (hg : Good s) (d : Nat) (hd : d < s.hours.length) (hB : B ≤ w.heap.size) (z : Int) (hz : z = d) :
    Calls Try.prog 39 #[v, .int .i64 z] w fun e w' => e = .returned (.int .i64 (worked s d)) ∧ Below w.heap.size w w' := by subst hz; exact worked_any hs hg d hd hB

set_option maxRecDepth 100000 in
set_option maxHeartbeats 4000000 in
theorem rcasts_any {B : Nat} {w : World} {v vl : Value} {s : ShopR} {l : List OrdR} (hs : RdShop B w v s) (hl : Rd OrdAt 4 B w vl l) (hg : Good s) (hf : Fit s l) (hc : canB s l = true) (hnm : ∀ p ∈ s.parts, p.name.size ≤ 9223372036854775807) (hB : B ≤ w.heap.size) :
    Calls Try.prog 63 #[v, vl] w fun e w' => ∃ A c, e = .returned (.slice A (castsL s l).length c) ∧ Own w.heap.size 55 w' (.slice A (castsL s l).length c) (castsL s l) ∧ Below w.heap.size w w' := by
  obtain ⟨vh, vp, vo, rfl, ⟨Ah, ch, rfl, _⟩, ⟨Ap, cp, rfl, _⟩, ⟨Ao, co, rfl, _⟩⟩ := id hs
  obtain ⟨Al, cl, rfl, _⟩ := id hl
  obtain ⟨W, hW⟩ : ∃ W, W = w.alloc (.cells #[.slice Ah s.hours.length ch, .slice Ap s.parts.length cp, .slice Ao s.orders.length co] 26) := ⟨_, rfl⟩
  have HS := Lib.hid (ShS.start hs hnm hB)
  rw [← hW] at HS
  have hhl := hg.hlen
  have hpl := hg.plen
  have hwl := worked_bd hg (d := s.hours.length - 1) (by omega)
  have HL := Lib.hid (hl.below (HS.out.below.mono hB))
  have hBz := HS.out.hB
  have Hg := Lib.hid hg
  have Hf := Lib.hid hf
  have Hc := Lib.hid hc
  clear hs hl hnm hg hf hc
  go_enter Try.func63, Try.ntmps63
  go_upto_region 1 with (fail)
  rw [← hW]
  clear hW
  go_wp2
  go_loopw [5, 6, 7] (fun ov uv dv wr => ∃ (d : Nat) (A : Option Addr) (c : Nat), d ≤ s.hours.length ∧ dv = .int .i64 d ∧ uv = .int .i64 (usedOf s (listTo s l d)) ∧ ov = .slice A (castsC s 0 (listTo s l d)).length c ∧ Own W.heap.size 55 wr (.slice A (castsC s 0 (listTo s l d)).length c) (castsC s 0 (listTo s l d)) ∧ Below W.heap.size W wr) (fun _ _ dv _ => s.hours.length - (intOf dv).toNat)
  case atStart => exact ⟨0, none, 0, Nat.zero_le _, rfl, rfl, rfl, Own.nil _ _ _, Below.refl _ _⟩
  case round =>
    obtain ⟨d, A, c, hd, rfl, rfl, rfl, hown, hbr⟩ := hrel
    have HR := Lib.hid (HS.out.next hbr)
    have Hown := Lib.hid hown
    have Hbr := Lib.hid hbr
    clear hown hbr
    obtain ⟨c0, c1, c2⟩ := HR.out.cells
    by_cases hdl : d < s.hours.length
    · rw [← preL_zero] at Hown ⊢
      go_wp2
      go_loopw [5, 6, 8] (fun ov uv iv wq => ∃ (i : Nat) (A : Option Addr) (c : Nat), i ≤ s.parts.length ∧ iv = .int .i64 i ∧ uv = .int .i64 (usedOf s (preL s l d i 0)) ∧ ov = .slice A (castsC s 0 (preL s l d i 0)).length c ∧ Own W.heap.size 55 wq (.slice A (castsC s 0 (preL s l d i 0)).length c) (castsC s 0 (preL s l d i 0)) ∧ Below W.heap.size W wq) (fun _ _ iv _ => s.parts.length - (intOf iv).toNat)
      case atStart => exact ⟨0, A, c, Nat.zero_le _, rfl, rfl, rfl, Hown.out, Hbr.out⟩
      case round =>
        obtain ⟨i, A, c, hi, rfl, rfl, rfl, hown, hbr⟩ := hrel
        have HR := Lib.hid (HS.out.next hbr)
        have Hown := Lib.hid hown
        have Hbr := Lib.hid hbr
        clear hown hbr c0 c1 c2
        obtain ⟨c0, c1, c2⟩ := HR.out.cells
        by_cases hil : i < s.parts.length
        · have hnb := newBy_bd Hg.out Hf.out hil d
          have hby := byy_bd Hg.out Hf.out hil (d : Int)
          have HLR := Lib.hid ((HL.out.below (Hbr.out.mono (Nat.le_trans hB (HS.out.below.size)))).mono (Nat.le_trans hB (HS.out.below.trans (Hbr.out.mono HS.out.below.size)).size))
          obtain ⟨nb, hnbe⟩ : ∃ nb, nb = newBy s l d i := ⟨_, rfl⟩
          rw [← hnbe] at hnb
          have Hnbe := Lib.hid hnbe
          clear hnbe
          by_cases hd0 : d = 0
          · have e1 : byy s l i (d : Int) = nb := by rw [Hnbe.out, hd0]; unfold newBy; rw [if_pos rfl, Int.sub_zero]
            have hdb : decide ((d : Int) > 0) = false := decide_eq_false (by omega)
            have hdb2 : decide (0 < d) = false := decide_eq_false (by omega)
            have hdl0 : Hid (d = 0) := Lib.hid hd0
            have E1 := Lib.hid e1
            clear e1 hd0
            go_upto_region 10 with (go_at_call 58; refine (by_int (HR.out.shop.mono HR.out.hB) HLR.out Hg.out Hf.out i hil (Nat.le_refl _) _ (d : Int) rfl).mono ?_; rw [E1.out]; rintro e wx ⟨rfl, hb⟩; have HR := Lib.hid (HR.out.next hb); have Hown := Lib.hid (Hown.out.below (hb.mono (Nat.le_refl _))); have Hbr := Lib.hid (Hbr.out.trans (hb.mono Hbr.out.size)); clear hb c0 c1 c2; obtain ⟨c0, c1, c2⟩ := HR.out.cells)
            clear E1 hby
            go_upto_region 12 with (fail)
            go_loopw [5, 6, 9] (fun ov uv mv wq => ∃ (j : Nat) (A : Option Addr) (c : Nat), j ≤ nb.toNat ∧ mv = .int .i64 (nb - j) ∧ uv = .int .i64 (usedOf s (preL s l d i j)) ∧ ov = .slice A (castsC s 0 (preL s l d i j)).length c ∧ Own W.heap.size 55 wq (.slice A (castsC s 0 (preL s l d i j)).length c) (castsC s 0 (preL s l d i j)) ∧ Below W.heap.size W wq) (fun _ _ mv _ => (intOf mv).toNat)
            case atStart => exact ⟨0, A, c, Nat.zero_le _, by simp, rfl, rfl, Hown.out, Hbr.out⟩
            case round =>
              obtain ⟨j, A, c, hj, rfl, rfl, rfl, hown, hbr⟩ := hrel
              have HR := Lib.hid (HS.out.next hbr)
              have Hown := Lib.hid hown
              have Hbr := Lib.hid hbr
              clear hown hbr c0 c1 c2
              obtain ⟨c0, c1, c2⟩ := HR.out.cells
              by_cases hjl : j < nb.toNat
              · have hu0 := preL_used Hg.out Hf.out Hc.out (d := d) (i := i) (j := j) hdl hi (.inr ⟨hil, by rw [← Hnbe.out]; omega⟩)
                have hu1 := preL_used Hg.out Hf.out Hc.out (d := d) (i := i) (j := j + 1) hdl hi (.inr ⟨hil, by rw [← Hnbe.out]; omega⟩)
                have hds := done_spec Hg.out hu1.2.1
                have hlo := (Hg.out.part hil).long
                have husd := used_pre s l d i j
                have hcp := casts_pre s l d i j
                have hlen := casts_pre_len s l d i j
                obtain ⟨vh', vp', vo', hv, _, hpp, _⟩ := id HR.out.shop
                cases hv
                obtain ⟨ap, rfl, _, p0, p1, p2, p3⟩ := hpp.part hil
                rw [List.getD_eq_getElem?_getD] at hlo husd
                have Hcp := Lib.hid hcp
                have Hud := Lib.hid husd
                rw [husd] at hds hu1
                rw [Hud.out] at Hcp
                have hpos : 0 < nb - (j : Int) := by omega
                have hposb : decide ((j : Int) < nb) = true := decide_eq_true (by omega)
                have hn480 : usedOf s (preL s l d i j) ≤ 480 := by omega
                have hl2 : (castsC s 0 (preL s l d i j)).length ≤ 1350 := by rw [hlen]; exact hu0.2.2
                clear hpp p0 p1 p3 hcp husd hlen
                obtain ⟨hu00, _, _⟩ := hu0
                obtain ⟨hu10, hu11, _⟩ := hu1
                generalize castsC s 0 (preL s l d i j) = cs at *
                generalize usedOf s (preL s l d i j) = us at *
                generalize (s.parts[i]?.getD default).long = lo at *
                obtain ⟨hd1, hd2, hd3⟩ := hds
                have Hd3 := Lib.hid hd3
                clear hd3
                have Hdo := Lib.hid hd1
                generalize hdn : done s (us + lo) = dn at *
                have Hdn := Lib.hid hdn
                clear hdn
                go_wp2
                go_loopw [10] (fun ev wz => ∃ e : Nat, e ≤ dn ∧ ev = .int .i64 e ∧ Below wr.heap.size wr wz) (fun ev _ => dn - (intOf ev).toNat)
                case atStart => exact ⟨0, Nat.zero_le _, rfl, Below.refl _ _⟩
                case round =>
                  obtain ⟨e', he', rfl, hbz⟩ := hrel
                  have HR := Lib.hid (HR.out.next hbz)
                  have Hbz := Lib.hid hbz
                  clear hbz c0 c1 c2
                  obtain ⟨c0, c1, c2⟩ := HR.out.cells
                  by_cases hel : e' < dn
                  · have hwk := Hd3.out e' hel
                    have hwb : decide (worked s e' < us + lo) = true := decide_eq_true hwk
                    have hel2 : e' < s.hours.length := by omega
                    go_wp2_with (go_at_call 39; refine (worked_int HR.out.shop Hg.out e' hel2 HR.out.hB _ rfl).mono ?_; rintro x wx ⟨rfl, hb⟩; have Hbz := Lib.hid (Hbz.out.trans (hb.mono Hbz.out.size)); clear hb c0 c1 c2)
                    go_roundw
                    case rel => exact ⟨e' + 1, by omega, by go_num, Hbz.out⟩
                    case measure => simp [intOf]; omega
                  · have hee : e' = dn := by omega
                    subst hee
                    have hwb : decide (worked s e' < us + lo) = false := decide_eq_false (by omega)
                    go_upto_region 18 with (go_at_call 39; refine (worked_int HR.out.shop Hg.out e' hd1 HR.out.hB _ rfl).mono ?_; rintro x wx ⟨rfl, hb⟩; have Hown := Lib.hid (Hown.out.below (Hbz.out.trans (hb.mono Hbz.out.size))); have Hbz := Lib.hid (Hbr.out.trans ((Hbz.out.trans (hb.mono Hbz.out.size)).mono Hbr.out.size)); clear hb c0 c1 c2)
                    obtain ⟨A5, n5, w5, hrun, hown5, hb5, _⟩ := append_cast Hown.out ((i : Int), (e' : Int)) (by omega) Hbz.out.size
                    have Hown5 := Lib.hid hown5
                    have Hb5 := Lib.hid (Hbz.out.trans hb5)
                    clear hown5 hb5
                    go_wp2_with (at_builtin; refine wpList_append_run rfl _ _ _ rfl rfl rfl hrun ?_)
                    go_roundw
                    case rel =>
                      refine ⟨j + 1, A5, n5, by omega, by go_num, by rw [Hud.out], ?_, ?_, Hb5.out⟩
                      · rw [Hcp.out, List.length_append, List.length_singleton]
                      · rw [Hcp.out, List.length_append, List.length_singleton]; exact Hown5.out
                    case measure => simp [intOf]; omega
              · have hje : j = nb.toNat := by omega
                subst hje
                have hz : nb - (nb.toNat : Int) = 0 := by omega
                have hpp : preL s l d i nb.toNat = preL s l d (i + 1) 0 := by rw [Hnbe.out]; exact preL_part s l _ i
                rw [hpp] at Hown ⊢
                rw [hz]
                go_wp2
                go_roundw
                case rel => exact ⟨i + 1, A, c, by omega, by go_num, rfl, rfl, Hown.out, Hbr.out⟩
                case measure => simp [intOf]; omega
          · obtain ⟨e, hde⟩ : ∃ e, d = e + 1 := ⟨d - 1, by omega⟩
            have e1 : byy s l i (d : Int) - byy s l i (e : Int) = nb := by rw [Hnbe.out, hde]; unfold newBy; rw [if_neg (by omega)]; rfl
            have hb0 := byy_bd Hg.out Hf.out hil (e : Int)
            have hdb : decide ((d : Int) > 0) = true := decide_eq_true (by omega)
            have hdb2 : decide (0 < d) = true := decide_eq_true (by omega)
            have hdm : (d : Int) - 1 = e := by omega
            have E1 := Lib.hid e1
            have Hdm := Lib.hid hdm
            clear e1 hd0 hde hdm
            go_upto_region 10 with (go_at_call 58; refine (by_int (HR.out.shop.mono HR.out.hB) HLR.out Hg.out Hf.out i hil (Nat.le_refl _) _ (d : Int) rfl).mono ?_; rintro e wx ⟨rfl, hb⟩; have HR := Lib.hid (HR.out.next hb); have HLR := Lib.hid ((HLR.out.below hb).mono hb.size); have Hown := Lib.hid (Hown.out.below (hb.mono (Nat.le_refl _))); have Hbr := Lib.hid (Hbr.out.trans (hb.mono Hbr.out.size)); clear hb c0 c1 c2; obtain ⟨c0, c1, c2⟩ := HR.out.cells)
            generalize byy s l i (d : Int) = b1 at *
            go_upto_region 12 with (go_at_call 58; refine (by_int (HR.out.shop.mono HR.out.hB) HLR.out Hg.out Hf.out i hil (Nat.le_refl _) _ (e : Int) Hdm.out).mono ?_; rintro e wx ⟨rfl, hb⟩; have HR := Lib.hid (HR.out.next hb); have Hown := Lib.hid (Hown.out.below (hb.mono (Nat.le_refl _))); have Hbr := Lib.hid (Hbr.out.trans (hb.mono Hbr.out.size)); clear hb c0 c1 c2; obtain ⟨c0, c1, c2⟩ := HR.out.cells)
            rw [E1.out]
            clear E1 hby hb0
            go_loopw [5, 6, 9] (fun ov uv mv wq => ∃ (j : Nat) (A : Option Addr) (c : Nat), j ≤ nb.toNat ∧ mv = .int .i64 (nb - j) ∧ uv = .int .i64 (usedOf s (preL s l d i j)) ∧ ov = .slice A (castsC s 0 (preL s l d i j)).length c ∧ Own W.heap.size 55 wq (.slice A (castsC s 0 (preL s l d i j)).length c) (castsC s 0 (preL s l d i j)) ∧ Below W.heap.size W wq) (fun _ _ mv _ => (intOf mv).toNat)
            case atStart => exact ⟨0, A, c, Nat.zero_le _, by simp, rfl, rfl, Hown.out, Hbr.out⟩
            case round =>
              obtain ⟨j, A, c, hj, rfl, rfl, rfl, hown, hbr⟩ := hrel
              have HR := Lib.hid (HS.out.next hbr)
              have Hown := Lib.hid hown
              have Hbr := Lib.hid hbr
              clear hown hbr c0 c1 c2
              obtain ⟨c0, c1, c2⟩ := HR.out.cells
              by_cases hjl : j < nb.toNat
              · have hu0 := preL_used Hg.out Hf.out Hc.out (d := d) (i := i) (j := j) hdl hi (.inr ⟨hil, by rw [← Hnbe.out]; omega⟩)
                have hu1 := preL_used Hg.out Hf.out Hc.out (d := d) (i := i) (j := j + 1) hdl hi (.inr ⟨hil, by rw [← Hnbe.out]; omega⟩)
                have hds := done_spec Hg.out hu1.2.1
                have hlo := (Hg.out.part hil).long
                have husd := used_pre s l d i j
                have hcp := casts_pre s l d i j
                have hlen := casts_pre_len s l d i j
                obtain ⟨vh', vp', vo', hv, _, hpp, _⟩ := id HR.out.shop
                cases hv
                obtain ⟨ap, rfl, _, p0, p1, p2, p3⟩ := hpp.part hil
                rw [List.getD_eq_getElem?_getD] at hlo husd
                have Hcp := Lib.hid hcp
                have Hud := Lib.hid husd
                rw [husd] at hds hu1
                rw [Hud.out] at Hcp
                have hpos : 0 < nb - (j : Int) := by omega
                have hposb : decide ((j : Int) < nb) = true := decide_eq_true (by omega)
                have hn480 : usedOf s (preL s l d i j) ≤ 480 := by omega
                have hl2 : (castsC s 0 (preL s l d i j)).length ≤ 1350 := by rw [hlen]; exact hu0.2.2
                clear hpp p0 p1 p3 hcp husd hlen
                obtain ⟨hu00, _, _⟩ := hu0
                obtain ⟨hu10, hu11, _⟩ := hu1
                generalize castsC s 0 (preL s l d i j) = cs at *
                generalize usedOf s (preL s l d i j) = us at *
                generalize (s.parts[i]?.getD default).long = lo at *
                obtain ⟨hd1, hd2, hd3⟩ := hds
                have Hd3 := Lib.hid hd3
                clear hd3
                have Hdo := Lib.hid hd1
                generalize hdn : done s (us + lo) = dn at *
                have Hdn := Lib.hid hdn
                clear hdn
                go_wp2
                go_loopw [10] (fun ev wz => ∃ e : Nat, e ≤ dn ∧ ev = .int .i64 e ∧ Below wr.heap.size wr wz) (fun ev _ => dn - (intOf ev).toNat)
                case atStart => exact ⟨0, Nat.zero_le _, rfl, Below.refl _ _⟩
                case round =>
                  obtain ⟨e', he', rfl, hbz⟩ := hrel
                  have HR := Lib.hid (HR.out.next hbz)
                  have Hbz := Lib.hid hbz
                  clear hbz c0 c1 c2
                  obtain ⟨c0, c1, c2⟩ := HR.out.cells
                  by_cases hel : e' < dn
                  · have hwk := Hd3.out e' hel
                    have hwb : decide (worked s e' < us + lo) = true := decide_eq_true hwk
                    have hel2 : e' < s.hours.length := by omega
                    go_wp2_with (go_at_call 39; refine (worked_int HR.out.shop Hg.out e' hel2 HR.out.hB _ rfl).mono ?_; rintro x wx ⟨rfl, hb⟩; have Hbz := Lib.hid (Hbz.out.trans (hb.mono Hbz.out.size)); clear hb c0 c1 c2)
                    go_roundw
                    case rel => exact ⟨e' + 1, by omega, by go_num, Hbz.out⟩
                    case measure => simp [intOf]; omega
                  · have hee : e' = dn := by omega
                    subst hee
                    have hwb : decide (worked s e' < us + lo) = false := decide_eq_false (by omega)
                    go_upto_region 18 with (go_at_call 39; refine (worked_int HR.out.shop Hg.out e' hd1 HR.out.hB _ rfl).mono ?_; rintro x wx ⟨rfl, hb⟩; have Hown := Lib.hid (Hown.out.below (Hbz.out.trans (hb.mono Hbz.out.size))); have Hbz := Lib.hid (Hbr.out.trans ((Hbz.out.trans (hb.mono Hbz.out.size)).mono Hbr.out.size)); clear hb c0 c1 c2)
                    obtain ⟨A5, n5, w5, hrun, hown5, hb5, _⟩ := append_cast Hown.out ((i : Int), (e' : Int)) (by omega) Hbz.out.size
                    have Hown5 := Lib.hid hown5
                    have Hb5 := Lib.hid (Hbz.out.trans hb5)
                    clear hown5 hb5
                    go_wp2_with (at_builtin; refine wpList_append_run rfl _ _ _ rfl rfl rfl hrun ?_)
                    go_roundw
                    case rel =>
                      refine ⟨j + 1, A5, n5, by omega, by go_num, by rw [Hud.out], ?_, ?_, Hb5.out⟩
                      · rw [Hcp.out, List.length_append, List.length_singleton]
                      · rw [Hcp.out, List.length_append, List.length_singleton]; exact Hown5.out
                    case measure => simp [intOf]; omega
              · have hje : j = nb.toNat := by omega
                subst hje
                have hz : nb - (nb.toNat : Int) = 0 := by omega
                have hpp : preL s l d i nb.toNat = preL s l d (i + 1) 0 := by rw [Hnbe.out]; exact preL_part s l _ i
                rw [hpp] at Hown ⊢
                rw [hz]
                go_wp2
                go_roundw
                case rel => exact ⟨i + 1, A, c, by omega, by go_num, rfl, rfl, Hown.out, Hbr.out⟩
                case measure => simp [intOf]; omega
        · have hie : i = s.parts.length := by omega
          subst hie
          rw [preL_day] at Hown ⊢
          go_wp2
          go_roundw
          case rel => exact ⟨d + 1, A, c, by omega, by go_num, rfl, rfl, Hown.out, Hbr.out⟩
          case measure => simp [intOf]; omega
    · have hde : d = s.hours.length := by omega
      subst hde
      rw [← castsL_eq] at Hown ⊢
      go_wp2
      go_ret
      exact ⟨A, c, rfl, Hown.out.mono HS.out.below.size, HR.out.below⟩
end Go.Proofs.Ytkmaapkbonkjfaa
namespace Go.Proofs.Ytkmaapkbonkjfaa
open Go.RowKit

/-- what holds within More's statement -/
structure MoreI (W : World) (vl : Value) (tb : Nat) (ys : List OrdR) (o : OrdR) (L : Nat → Bool) (vs : Nat → Value) (X : World) : Prop where
  bel : Below W.heap.size W X
  f0 : L 0 = true → L 2 = false → ∃ g, W.heap.size ≤ g ∧ vs 0 = .slice (some ⟨g, 0, none⟩) 0 0 ∧ X.heap[g]? = some (.cells #[] 60)
  f1 : L 1 = true → vs 1 = vl
  f2 : L 2 = true → L 5 = false → ∃ A c, vs 2 = .slice A ys.length c ∧ Own W.heap.size 60 X (.slice A ys.length c) ys
  f3 : L 3 = true → vs 3 = .agg #[.int .i64 o.part, .int .i64 o.many, .int .i64 o.due, .int .i64 o.worth]
  f4 : L 4 = true → L 5 = false → ∃ g, W.heap.size ≤ g ∧ vs 4 = .slice (some ⟨g, 0, none⟩) 1 1 ∧ X.heap[g]? = some (.cells #[.int .i64 o.part, .int .i64 o.many, .int .i64 o.due, .int .i64 o.worth] 60)
  f5 : L 5 = true → ∃ A c, vs 5 = .slice A (ys.length + 1) c ∧ Own W.heap.size 60 X (.slice A (ys.length + 1) c) (ys ++ [o])
  f6 : L 6 = true → vs 6 = vs 5

set_option maxRecDepth 100000 in
set_option maxHeartbeats 1000000 in
theorem more_any {B : Nat} {w : World} {vl : Value} {l : List OrdR} (hl : Rd OrdAt 4 B w vl l) (hB : B ≤ w.heap.size) (hn : l.length ≤ 100) (o : OrdR) :
    Calls Try.prog 67 #[vl, .agg #[.int .i64 o.part, .int .i64 o.many, .int .i64 o.due, .int .i64 o.worth]] w fun e w' => ∃ A c, e = .returned (.slice A (l.length + 1) c) ∧ Own w.heap.size 60 w' (.slice A (l.length + 1) c) (l ++ [o]) ∧ Below w.heap.size w w' := by
  obtain ⟨Al, cl, rfl, _⟩ := id hl
  obtain ⟨W, hW, r, hz, hb⟩ := box_any w #[.int .i64 o.part, .int .i64 o.many, .int .i64 o.due, .int .i64 o.worth] 60
  have HL := Lib.hid (hl.below (hb.mono hB))
  have Hb := Lib.hid hb
  have hBW := Nat.le_trans hB hb.size
  have R0 := Lib.hid (cellOf r 0 (v := .int .i64 o.part) rfl)
  have R1 := Lib.hid (cellOf r 1 (v := .int .i64 o.many) rfl)
  have R2 := Lib.hid (cellOf r 2 (v := .int .i64 o.due) rfl)
  have R3 := Lib.hid (cellOf r 3 (v := .int .i64 o.worth) rfl)
  go_enter Try.func67, Try.ntmps67
  go_upto_region 1 with (fail)
  rw [← hW]
  clear hW r hz hb hl
  refine wp_region_ghost (MoreI W (.slice Al l.length cl) w.heap.size l o) (by kernel_rfl) (by kernel_rfl) ?_ ?_ ?_
  · exact ⟨(Below.refl _ _).drew, fun h => (by cases h), fun h => (by cases h), fun h => (by cases h), fun h => (by cases h), fun h => (by cases h), fun h => (by cases h), fun h => (by cases h)⟩
  · refine ⟨?_, ?_, ?_, ?_, ?_, ?_, ?_, trivial⟩
    all_goals
      intro L vs X b hL hw hcl hI hf
      have hb := hI.bel
    · have n2 : L 2 = false := not_yet hcl 2 hL rfl (by kernel_rfl)
      have n5 : L 5 = false := not_yet hcl 5 n2 rfl (by kernel_rfl)
      have n6 : L 6 = false := not_yet hcl 6 n5 rfl (by kernel_rfl)
      refine wp_of_run (v := .slice (some ⟨X.heap.size, 0, none⟩) 0 0) (w' := X.alloc (.cells #[] 60)) (by unfold execOp; go_simp) ?_
      refine ⟨hb.alloc hb.size _, fun _ _ => ⟨_, hb.size, rfl, heap_alloc_new _ _⟩, hI.f1, fun h => absurd (n2.symm.trans h) (by simp), hI.f3, fun h h' => ?_, fun h => absurd (n5.symm.trans h) (by simp), fun h => absurd (n6.symm.trans h) (by simp)⟩
      obtain ⟨g, h1, h2, h3⟩ := hI.f4 h h'
      exact ⟨g, h1, h2, (Below.heap_alloc _ _ _ (lt_of_block h3)).trans h3⟩
    · have e0 := hf.old 0 (by kernel_rfl)
      refine wp_of_run (v := .slice Al l.length cl) (w' := X) (by unfold execOp; go_simp) ?_
      exact ⟨hb, hI.f0, fun _ => rfl, hI.f2, hI.f3, hI.f4, hI.f5, hI.f6⟩
    · have n5 : L 5 = false := not_yet hcl 5 hL rfl (by kernel_rfl)
      have n6 : L 6 = false := not_yet hcl 6 n5 rfl (by kernel_rfl)
      have h0 : L 0 = true := done_of hw 0 (by kernel_rfl)
      have h1 : L 1 = true := done_of hw 1 (by kernel_rfl)
      obtain ⟨g, hg1, hg2, hg3⟩ := hI.f0 h0 hL
      have e5 := (hf.new 0 5 rfl h0 (by simp)).trans hg2
      have e6 := (hf.new 1 6 rfl h1 (by simp)).trans (hI.f1 h1)
      obtain ⟨v', w', hrun, A, c, g', rfl, hown, hb', hgg, hgr⟩ := ask1 hb HL.out hBW hg3 hg1 hn
      refine wp_append_run (.tmp 5) (.tmp 6) 24 rfl (by unfold Act.eval; simpa using e5) (by unfold Act.eval; simpa using e6) hrun ⟨_, rfl, ?_⟩
      refine ⟨hb', fun _ h => (by cases h), hI.f1, fun _ _ => ⟨A, c, rfl, hown⟩, hI.f3, fun h h' => ?_, fun h => absurd (n5.symm.trans h) (by simp), fun h => absurd (n6.symm.trans h) (by simp)⟩
      obtain ⟨g5, k1, k2, k3⟩ := hI.f4 h h'
      exact ⟨g5, k1, k2, row_kept hgg rfl hgr k3 (by simp)⟩
    · have e3 := hf.old 3 (by kernel_rfl)
      have r0 := (hb.cell (cell_lt R0.out)).trans R0.out
      have r1 := (hb.cell (cell_lt R1.out)).trans R1.out
      have r2 := (hb.cell (cell_lt R2.out)).trans R2.out
      have r3 := (hb.cell (cell_lt R3.out)).trans R3.out
      refine wp_of_run (v := .agg #[.int .i64 o.part, .int .i64 o.many, .int .i64 o.due, .int .i64 o.worth]) (w' := X) (by unfold execOp; go_simp) ?_
      exact ⟨hb, hI.f0, hI.f1, hI.f2, fun _ => rfl, hI.f4, hI.f5, hI.f6⟩
    · have n5 : L 5 = false := not_yet hcl 5 hL rfl (by kernel_rfl)
      have n6 : L 6 = false := not_yet hcl 6 n5 rfl (by kernel_rfl)
      have h3 : L 3 = true := done_of hw 3 (by kernel_rfl)
      have e8 := (hf.new 3 8 rfl h3 (by simp)).trans (hI.f3 h3)
      refine wp_of_run (v := .slice (some ⟨X.heap.size, 0, none⟩) 1 1) (w' := X.alloc (.cells #[.int .i64 o.part, .int .i64 o.many, .int .i64 o.due, .int .i64 o.worth] 60)) (by unfold execOp; go_simp) ?_
      refine ⟨hb.alloc hb.size _, fun h h' => ?_, hI.f1, fun h h' => ?_, hI.f3, fun _ _ => ⟨_, hb.size, rfl, heap_alloc_new _ _⟩, fun h => absurd (n5.symm.trans h) (by simp), fun h => absurd (n6.symm.trans h) (by simp)⟩
      · obtain ⟨g, k1, k2, k3⟩ := hI.f0 h h'
        exact ⟨g, k1, k2, (Below.heap_alloc _ _ _ (lt_of_block k3)).trans k3⟩
      · obtain ⟨A, c, k1, k2⟩ := hI.f2 h h'
        exact ⟨A, c, k1, k2.alloc _⟩
    · have n6 : L 6 = false := not_yet hcl 6 hL rfl (by kernel_rfl)
      have h2 : L 2 = true := done_of hw 2 (by kernel_rfl)
      have h4 : L 4 = true := done_of hw 4 (by kernel_rfl)
      obtain ⟨A, n, k1, k2⟩ := hI.f2 h2 hL
      obtain ⟨g, q1, q2, q3⟩ := hI.f4 h4 hL
      have e7 := (hf.new 2 7 rfl h2 (by simp)).trans k1
      have e9 := (hf.new 4 9 rfl h4 (by simp)).trans q2
      obtain ⟨v', w', hrun, A2, c2, rfl, hown, hb'⟩ := ask2 hb k2 q3 hn
      refine wp_append_run (.tmp 7) (.tmp 9) 24 rfl (by unfold Act.eval; simpa using e7) (by unfold Act.eval; simpa using e9) hrun ⟨_, rfl, ?_⟩
      exact ⟨hb', fun _ h => absurd (h2.symm.trans h) (by simp), hI.f1, fun _ h => (by cases h), hI.f3, fun _ h => (by cases h), fun _ => ⟨A2, c2, rfl, hown⟩, fun h => absurd (n6.symm.trans h) (by simp)⟩
    · have h5 : L 5 = true := done_of hw 5 (by kernel_rfl)
      obtain ⟨A, c, k1, k2⟩ := hI.f5 h5
      have e10 := (hf.new 5 10 rfl h5 (by simp)).trans k1
      refine wp_of_run (v := .slice A (l.length + 1) c) (w' := X) (by unfold execOp; go_simp) ?_
      exact ⟨hb, hI.f0, hI.f1, hI.f2, hI.f3, hI.f4, hI.f5, fun _ => k1.symm⟩
  · intro vs X hI
    obtain ⟨A, c, k1, k2⟩ := hI.f5 rfl
    have k3 := (hI.f6 rfl).trans k1
    have HX := Lib.hid k2
    have HbX := Lib.hid (Hb.out.trans (hI.bel.mono Hb.out.size))
    clear hI k2
    simp [fill, slotOf, Act.put, k3]
    simp only [Exit.inBlock, Exit.then]
    go_wp2
    go_ret
    exact ⟨A, c, rfl, HX.out.mono Hb.out.size, HbX.out⟩

theorem cntTo_snoc (xs : List (Int × Int)) (x : Int × Int) (part day : Int) : cntTo (xs ++ [x]) part day = cntTo xs part day + if x.1 = part ∧ x.2 ≤ day then 1 else 0 := by
  unfold cntTo
  rw [List.filter_append]
  by_cases h : x.1 = part <;> by_cases h2 : x.2 ≤ day <;> simp [h, h2]
theorem cntTo_len (xs : List (Int × Int)) (part day : Int) : cntTo xs part day ≤ xs.length := by
  unfold cntTo
  have := List.length_filter_le (fun x : Int × Int => x.1 == part && decide (x.2 ≤ day)) xs
  omega
set_option maxRecDepth 100000 in
set_option maxHeartbeats 1000000 in
theorem left_any {B : Nat} {w : World} {v vl vc : Value} {s : ShopR} {l : List OrdR} {cs : List (Int × Int)} (hs : RdShop B w v s) (hl : Rd OrdAt 4 B w vl l) (hcs : Rd CastAt 2 B w vc cs) (hg : Good s) (hf : Fit s l) (hn : cs.length ≤ 1350) (hB : B ≤ w.heap.size) (i : Nat) (hi : i < s.parts.length) (day : Int) :
    Calls Try.prog 64 #[v, vl, vc, .int .i64 i, .int .i64 day] w fun e w' => e = .returned (.int .i64 (leftF s l cs i day)) ∧ Below w.heap.size w w' := by
  obtain ⟨vh, vp, vo, rfl, ⟨Ah, ch, rfl, _⟩, hpp, ⟨Ao, co, rfl, _⟩⟩ := id hs
  obtain ⟨Ap, cp, rfl, _⟩ := id hpp
  obtain ⟨Al, cl, rfl, _⟩ := id hl
  obtain ⟨Ac, cc, rfl, _⟩ := id hcs
  obtain ⟨W, hW, c0, c1, c2, hz, hb, _⟩ := shop_box w (.slice Ah s.hours.length ch) (.slice Ap s.parts.length cp) (.slice Ao s.orders.length co)
  obtain ⟨ap, rfl, _, p0, p1, p2, p3⟩ := (hpp.below (hb.mono hB)).part hi
  have HL := Lib.hid (hl.below (hb.mono hB))
  have HC := Lib.hid (hcs.below (hb.mono hB))
  have Hb := Lib.hid hb
  have hpo := hg.part hi
  have hst := hpo.stock
  have hbt := hpo.batch
  have hdb := hf.due_bd i day
  have Hf := Lib.hid hf
  have hle : leftF s l cs i day = (s.parts[i]?.getD default).stock - due l i day + (s.parts[i]?.getD default).batch * cntTo (cs.take cs.length) i day := by rw [left_eq, List.take_of_length_le (Nat.le_refl _), List.getD_eq_getElem?_getD]
  rw [hle]
  rw [List.getD_eq_getElem?_getD] at hst hbt
  have Hcb : Hid (∀ k, 0 ≤ (s.parts[i]?.getD default).batch * cntTo (cs.take k) i day ∧ (s.parts[i]?.getD default).batch * cntTo (cs.take k) i day ≤ 13500) := Lib.hid fun k => by
    have h1 := cntTo_len (cs.take k) i day
    have h2 := cntTo_nn (cs.take k) i day
    rw [List.length_take] at h1
    have h4 := Int.mul_le_mul hbt.2 (show cntTo (cs.take k) i day ≤ 1350 by omega) h2 (by omega)
    exact ⟨Int.mul_nonneg (by omega) h2, by omega⟩
  clear hs hl hcs hg hf hpp hz hb p0 p2 hpo hle
  generalize (s.parts[i]?.getD default).stock = st at *
  generalize (s.parts[i]?.getD default).batch = ba at *
  generalize hdu : due l i day = du at *
  have hde := due_any (B := B) (w := W) i day HL.out Hf.out.len Hf.out.many
  rw [hdu] at hde
  have Hde := Lib.hid (fun n => due_any (B := B) (w := W.drewN n) i day (HL.out.qt ⟨n, rfl⟩) Hf.out.len Hf.out.many)
  rw [hdu] at Hde
  clear hde hdu
  go_enter Try.func64, Try.ntmps64
  go_upto_region 1 with (fail)
  rw [← hW]
  clear hW
  go_quiet ((go_at_call 84; exact Calls.quiet_of_same (Hde.out _)))
  obtain ⟨Wq, hWq⟩ : ∃ Wq, Wq = W.drewN nq := ⟨_, rfl⟩
  have c1 : Wq.cell? ⟨w.heap.size, 1, none⟩ = some (.slice (some ap) s.parts.length cp) := by rw [hWq]; exact c1
  have p1 : Wq.cell? ⟨(ap.add (i * 4)).block, (ap.add (i * 4)).off + 1, none⟩ = some (.int .i64 ba) := by rw [hWq]; exact p1
  have HC : Hid (Rd CastAt 2 B Wq (.slice Ac cs.length cc) cs) := Lib.hid (by rw [hWq]; exact HC.out.qt ⟨nq, rfl⟩)
  have Hb : Hid (Below w.heap.size w Wq) := Lib.hid (by rw [hWq]; exact below_drewN Hb.out nq)
  rw [← hWq]
  clear hWq Hde HL p3 c0 c2
  go_wp2
  go_loop [11, 12] (fun nv kv => ∃ k : Nat, k ≤ cs.length ∧ kv = .int .i64 k ∧ nv = .int .i64 (st - du + ba * cntTo (cs.take k) i day)) (fun _ kv => cs.length - (intOf kv).toNat)
  case atStart => exact ⟨0, Nat.zero_le _, rfl, by simp [cntTo]⟩
  case round =>
    obtain ⟨k, hk, rfl, rfl⟩ := hrel
    by_cases hkl : k < cs.length
    · obtain ⟨ac, rfl, _, k0, k1⟩ := HC.out.cast hkl
      have hsn : cntTo (cs.take (k + 1)) i day = cntTo (cs.take k) i day + if (cs[k]?.getD default).1 = i ∧ (cs[k]?.getD default).2 ≤ day then 1 else 0 := by
        rw [List.take_add_one, List.getElem?_eq_getElem hkl, Option.toList_some, cntTo_snoc]; rfl
      have hcb := Hcb.out k
      have hcb1 := Hcb.out (k + 1)
      rw [hsn] at hcb1
      have Hsn := Lib.hid hsn
      clear hsn
      generalize cs[k]?.getD default = x at *
      obtain ⟨x1, x2⟩ := x
      simp only at k0 k1 Hsn hcb1
      generalize cntTo (cs.take k) i day = ca at *
      by_cases h1 : x1 = i
      · have h1b : (x1 == (i : Int)) = true := by simp [h1]
        by_cases h2 : x2 ≤ day
        · have h2b : decide (x2 ≤ day) = true := decide_eq_true h2
          rw [if_pos ⟨h1, h2⟩] at Hsn hcb1
          clear h1 h2
          go_wp2
          go_round
          case rel => exact ⟨k + 1, by omega, by go_num, by rw [Hsn.out, Int.mul_add]; go_num⟩
          case measure => simp [intOf]; omega
        · have h2b : decide (x2 ≤ day) = false := decide_eq_false h2
          rw [if_neg (fun h => h2 h.2), Int.add_zero] at Hsn
          clear h1 h2 hcb1
          go_wp2
          go_round
          case rel => exact ⟨k + 1, by omega, by go_num, by rw [Hsn.out]⟩
          case measure => simp [intOf]; omega
      · have h1b : (x1 == (i : Int)) = false := beq_false_of_ne h1
        rw [if_neg (fun h => h1 h.1), Int.add_zero] at Hsn
        clear h1 hcb1
        go_wp2
        go_round
        case rel => exact ⟨k + 1, by omega, by go_num, by rw [Hsn.out]⟩
        case measure => simp [intOf]; omega
    · have hke : k = cs.length := by omega
      subst hke
      go_wp2
      go_ret
      exact ⟨rfl, Hb.out⟩
end Go.Proofs.Ytkmaapkbonkjfaa
namespace Go.Proofs.Ytkmaapkbonkjfaa
open Go.RowKit

/-- what a slice of orders is good for in the worlds behind one -/
structure OfR (w0 : World) (A : Option Addr) (n c : Nat) (l : List OrdR) (w : World) : Prop where
  bel : Below w0.heap.size w0 w
  rd : Rd OrdAt 4 w.heap.size w (.slice A n c) l
theorem OfR.next {w0 w w' : World} {A : Option Addr} {n c : Nat} {l : List OrdR} (h : OfR w0 A n c l w) (hb : Below w.heap.size w w') : OfR w0 A n c l w' := ⟨h.bel.trans (hb.mono h.bel.size), (h.rd.below hb).mono hb.size⟩

theorem rof_at {B : Nat} {w : World} {v vt : Value} {s : ShopR} {t : List Int} (h : Given B w v vt s t) (he : takenErr s t = 0) : Calls Try.prog 55 #[v, vt] w fun e w' => ∃ A c, e = .returned (.slice A t.length c) ∧ OfR w A t.length c (ofL s t) w' :=
  (rof_any h he).mono fun e w' ⟨A, c, h1, h2, h3⟩ => ⟨A, c, h1, h3, h2⟩
theorem rcan_at {B : Nat} {w0 w : World} {v vt : Value} {s : ShopR} {t : List Int} (h : Given B w0 v vt s t) (he : takenErr s t = 0) {A : Option Addr} {n c : Nat} (ho : OfR w0 A n c (ofL s t) w) :
    Calls Try.prog 62 #[v, .slice A n c] w fun e w' => e = .returned (.bool (canB s (ofL s t))) ∧ Below w.heap.size w w' := by
  obtain ⟨_, hg, hf, _⟩ := fit_of he
  exact can_any ((h.shop.below (ho.bel.mono h.le)).mono (Nat.le_trans h.le ho.bel.size)) ho.rd hg hf (Nat.le_refl _)
theorem rcasts_at {B : Nat} {w0 w : World} {v vt : Value} {s : ShopR} {t : List Int} (h : Given B w0 v vt s t) (he : takenErr s t = 0) (hc : canB s (ofL s t) = true) {A : Option Addr} {n c : Nat} (ho : OfR w0 A n c (ofL s t) w) :
    Calls Try.prog 63 #[v, .slice A n c] w fun e w' => ∃ A c, e = .returned (.slice A (castsL s (ofL s t)).length c) ∧ Own w.heap.size 55 w' (.slice A (castsL s (ofL s t)).length c) (castsL s (ofL s t)) ∧ Below w.heap.size w w' := by
  obtain ⟨_, hg, hf, _⟩ := fit_of he
  exact rcasts_any ((h.shop.below (ho.bel.mono h.le)).mono (Nat.le_trans h.le ho.bel.size)) ho.rd hg hf hc h.nm (Nat.le_refl _)
theorem planF_bad {s : ShopR} {t : List Int} (h : takenErr s t ≠ 0) : planF s t = ([], takenErr s t) := by unfold planF; rw [if_pos h]
theorem planF_no {s : ShopR} {t : List Int} (h : takenErr s t = 0) (hc : canB s (ofL s t) = false) : planF s t = ([], 9) := by unfold planF; rw [if_neg (by simp [h]), hc]; rfl
theorem planF_ok {s : ShopR} {t : List Int} (h : takenErr s t = 0) (hc : canB s (ofL s t) = true) : planF s t = (castsL s (ofL s t), 0) := by unfold planF; rw [if_neg (by simp [h]), hc]; rfl

set_option maxRecDepth 100000 in
set_option maxHeartbeats 2000000 in
theorem rplan_any {B : Nat} {w : World} {v vt : Value} {s : ShopR} {t : List Int} (h : Given B w v vt s t) :
    Calls Try.prog 25 #[v, vt] w (PlanR w s t) := by
  obtain ⟨Ah, ch, Ap, cp, Ao, co, At_, ct, rfl, rfl⟩ := h.form
  obtain ⟨W, hW, c0, c1, c2, hz, hb, _⟩ := shop_box w (.slice Ah s.hours.length ch) (.slice Ap s.parts.length cp) (.slice Ao s.orders.length co)
  go_enter Try.func25, Try.ntmps25
  go_upto_region 1 with (fail)
  rw [← hW]
  have hG := Lib.hid (h.below hb)
  have Hb := Lib.hid hb
  clear hW hz hb h
  have hq := Lib.hid (rtaken_any hG.out)
  by_cases he : takenErr s t = 0
  · rw [he] at hq
    have He := Lib.hid he
    clear he
    go_upto_region 2 with (go_at_call 41; refine hq.out.mono ?_; rintro e wx ⟨rfl, hbx⟩; have c0 := (hbx.cell (cell_lt c0)).trans c0; have c1 := (hbx.cell (cell_lt c1)).trans c1; have c2 := (hbx.cell (cell_lt c2)).trans c2; have HX := Lib.hid hbx; clear hbx)
    have hGd : Given B wx.drew _ _ s t := (hG.out.below HX.out).below (Below.refl _ _).drew
    have HGd := Lib.hid hGd
    clear hGd
    cases hcb : canB s (ofL s t) with
    | false =>
      have e := Lib.hid (planF_no He.out hcb)
      have Hc := Lib.hid hcb
      clear hcb
      go_region_held3 (fun w' => w'.cell? ⟨w.heap.size, 0, none⟩ = some (.slice Ah s.hours.length ch) ∧ w'.cell? ⟨w.heap.size, 1, none⟩ = some (.slice Ap s.parts.length cp) ∧ w'.cell? ⟨w.heap.size, 2, none⟩ = some (.slice Ao s.orders.length co))
        (first | go_keep | exact ⟨c0, c1, c2⟩)
        ((first
          | (go_at_call 55; refine (rof_at HGd.out He.out).mono ?_; rintro e w2 ⟨A, c, rfl, hr⟩; have c0 := (hr.bel.cell (cell_lt (w := wx.drew) c0)).trans c0; have c1 := (hr.bel.cell (cell_lt (w := wx.drew) c1)).trans c1; have c2 := (hr.bel.cell (cell_lt (w := wx.drew) c2)).trans c2; have HR := Lib.hid hr; clear hr)
          | (go_at_call 62; refine (rcan_at HGd.out He.out HR.out).mono ?_; rw [Hc.out]; rintro e w3 ⟨rfl, hb3⟩; have c0 := (hb3.cell (cell_lt c0)).trans c0; have c1 := (hb3.cell (cell_lt c1)).trans c1; have c2 := (hb3.cell (cell_lt c2)).trans c2; have HR := Lib.hid (HR.out.next hb3); clear hb3)))
      have hbw : Below w.heap.size w w3 := Hb.out.trans ((HX.out.trans ((((Below.refl wx.heap.size wx).drew).trans HR.out.bel).mono HX.out.size)).mono Hb.out.size)
      have Hbw := Lib.hid hbw
      clear hbw
      try simp only [Exit.inBlock, Exit.then]
      go_wp2
      go_ret2
      exact planR_eq e.out rfl (Rd.nil _ _) Hbw.out
    | true =>
      have e := Lib.hid (planF_ok He.out hcb)
      have Hc := Lib.hid hcb
      clear hcb
      go_region_held3 (fun w' => w'.cell? ⟨w.heap.size, 0, none⟩ = some (.slice Ah s.hours.length ch) ∧ w'.cell? ⟨w.heap.size, 1, none⟩ = some (.slice Ap s.parts.length cp) ∧ w'.cell? ⟨w.heap.size, 2, none⟩ = some (.slice Ao s.orders.length co))
        (first | go_keep | exact ⟨c0, c1, c2⟩)
        ((first
          | (go_at_call 55; refine (rof_at HGd.out He.out).mono ?_; rintro e w2 ⟨A, c, rfl, hr⟩; have c0 := (hr.bel.cell (cell_lt (w := wx.drew) c0)).trans c0; have c1 := (hr.bel.cell (cell_lt (w := wx.drew) c1)).trans c1; have c2 := (hr.bel.cell (cell_lt (w := wx.drew) c2)).trans c2; have HR := Lib.hid hr; clear hr)
          | (go_at_call 62; refine (rcan_at HGd.out He.out HR.out).mono ?_; rw [Hc.out]; rintro e w3 ⟨rfl, hb3⟩; have c0 := (hb3.cell (cell_lt c0)).trans c0; have c1 := (hb3.cell (cell_lt c1)).trans c1; have c2 := (hb3.cell (cell_lt c2)).trans c2; have HR := Lib.hid (HR.out.next hb3); clear hb3)))
      have hbw : Below w.heap.size w w3 := Hb.out.trans ((HX.out.trans ((((Below.refl wx.heap.size wx).drew).trans HR.out.bel).mono HX.out.size)).mono Hb.out.size)
      have Hbw := Lib.hid hbw
      have hGd : Given B w3.drew _ _ s t := (HGd.out.below HR.out.bel).below (Below.refl _ _).drew
      have HGd := Lib.hid hGd
      clear hbw hGd HR
      try simp only [Exit.inBlock, Exit.then]
      go_upto_region 6 with (fail)
      go_region_held3 (fun w' => w'.cell? ⟨w.heap.size, 0, none⟩ = some (.slice Ah s.hours.length ch) ∧ w'.cell? ⟨w.heap.size, 1, none⟩ = some (.slice Ap s.parts.length cp) ∧ w'.cell? ⟨w.heap.size, 2, none⟩ = some (.slice Ao s.orders.length co))
        (first | go_keep | exact ⟨c0, c1, c2⟩)
        ((first
          | (go_at_call 55; refine (rof_at HGd.out He.out).mono ?_; rintro e w4 ⟨A, c, rfl, hr⟩; have c0 := (hr.bel.cell (cell_lt (w := w3.drew) c0)).trans c0; have c1 := (hr.bel.cell (cell_lt (w := w3.drew) c1)).trans c1; have c2 := (hr.bel.cell (cell_lt (w := w3.drew) c2)).trans c2; have HR := Lib.hid hr; clear hr)
          | (go_at_call 63; refine (rcasts_at HGd.out He.out Hc.out HR.out).mono ?_; rintro e w5 ⟨A5, c5, rfl, hown, hb3⟩; have c0 := (hb3.cell (cell_lt c0)).trans c0; have c1 := (hb3.cell (cell_lt c1)).trans c1; have c2 := (hb3.cell (cell_lt c2)).trans c2; have HR := Lib.hid (HR.out.next hb3); have HO := Lib.hid hown; clear hb3 hown)))
      have hbw : Below w.heap.size w w5 := Hbw.out.trans ((((Below.refl w3.heap.size w3).drew).trans HR.out.bel).mono Hbw.out.size)
      have Hbw := Lib.hid hbw
      clear hbw
      try simp only [Exit.inBlock, Exit.then]
      go_wp2
      go_ret2
      exact planR_eq e.out rfl HO.out.rd Hbw.out
  · have e := Lib.hid (planF_bad he)
    have hne : (takenErr s t != 0) = true := by simpa using he
    have heq : (takenErr s t == 0) = false := by simpa using he
    clear he
    go_upto_region 2 with (go_at_call 41; refine hq.out.mono ?_; rintro e wx ⟨rfl, hbx⟩; have HX := Lib.hid hbx; clear hbx)
    go_quiet (fail)
    go_wp2
    go_ret2
    exact planR_eq e.out rfl (Rd.nil _ _) (Hb.out.trans (below_drewN (HX.out.mono Hb.out.size) _))

theorem keptF_bad {s : ShopR} {t : List Int} (part : Int) (h : takenErr s t ≠ 0) : keptF s t part = ([], takenErr s t) := by unfold keptF; rw [if_pos h]
theorem keptF_out {s : ShopR} {t : List Int} {part : Int} (h : takenErr s t = 0) (hp : inB part 0 (s.parts.length - 1) = false) : keptF s t part = ([], 4) := by unfold keptF; rw [if_neg (by simp [h]), if_pos hp]
theorem keptF_no {s : ShopR} {t : List Int} {part : Int} (h : takenErr s t = 0) (hp : inB part 0 (s.parts.length - 1) = true) (hc : canB s (ofL s t) = false) : keptF s t part = ([], 9) := by unfold keptF; rw [if_neg (by simp [h]), if_neg (by simp [hp]), hc]; rfl
theorem keptF_ok {s : ShopR} {t : List Int} {part : Nat} (h : takenErr s t = 0) (hp : inB (part : Int) 0 (s.parts.length - 1) = true) (hc : canB s (ofL s t) = true) : keptF s t part = (keptL s (ofL s t) part, 0) := by unfold keptF; rw [if_neg (by simp [h]), if_neg (by simp [hp]), hc, Int.toNat_natCast]; rfl
theorem keptL_size (s : ShopR) (l : List OrdR) (i : Nat) : (keptL s l i).length = s.hours.length := by simp [keptL]
theorem keptL_take {s : ShopR} (l : List OrdR) (i : Nat) {d : Nat} (hd : d < s.hours.length) : (keptL s l i).take (d + 1) = (keptL s l i).take d ++ [leftF s l (castsL s l) i (d : Int)] := by
  rw [List.take_add_one]
  have : (keptL s l i)[d]? = some (leftF s l (castsL s l) i (d : Int)) := by unfold keptL; rw [List.getElem?_map, List.getElem?_range hd]; rfl
  rw [this]; rfl

set_option maxRecDepth 100000 in
set_option maxHeartbeats 2000000 in
theorem rkept_any {B : Nat} {w : World} {v vt : Value} {s : ShopR} {t : List Int} (h : Given B w v vt s t) (part : Int) :
    Calls Try.prog 28 #[v, vt, .int .i64 part] w (KeptR w s t part) := by
  obtain ⟨Ah, ch, Ap, cp, Ao, co, At_, ct, rfl, rfl⟩ := h.form
  obtain ⟨W, hW, c0, c1, c2, hz, hb, _⟩ := shop_box w (.slice Ah s.hours.length ch) (.slice Ap s.parts.length cp) (.slice Ao s.orders.length co)
  go_enter Try.func28, Try.ntmps28
  go_upto_region 1 with (fail)
  rw [← hW]
  have hG := Lib.hid (h.below hb)
  have Hb := Lib.hid hb
  clear hW hz hb h
  have hq := Lib.hid (rtaken_any hG.out)
  by_cases he : takenErr s t = 0
  · rw [he] at hq
    have He := Lib.hid he
    obtain ⟨_, hg0, _, _⟩ := fit_of he
    have hpl := hg0.plen
    have hhl := hg0.hlen
    clear he hg0
    cases hin : inB part 0 (s.parts.length - 1) with
    | false =>
      have e := Lib.hid (keptF_out He.out hin)
      have Hi := Lib.hid hin
      clear hin
      go_upto_region 4 with (first | (go_at_call 41; refine hq.out.mono ?_; rintro e wx ⟨rfl, hbx⟩; have c0 := (hbx.cell (cell_lt c0)).trans c0; have c1 := (hbx.cell (cell_lt c1)).trans c1; have c2 := (hbx.cell (cell_lt c2)).trans c2; have HX := Lib.hid hbx; clear hbx) | (go_at_call 50; refine (in_any _ _ _ _).mono ?_; rw [Hi.out]; rintro e wy ⟨rfl, h0⟩; have h0 := h0.symm; subst h0))
      go_quiet (fail)
      go_wp2
      go_ret2
      exact keptR_eq e.out rfl (Rd.nil _ _) (Hb.out.trans (below_drewN (HX.out.mono Hb.out.size) _))
    | true =>
      obtain ⟨i, rfl⟩ := Int.eq_ofNat_of_zero_le (inB_iff.1 hin).1
      have hil : i < s.parts.length := by have := (inB_iff.1 hin).2; omega
      have Hi := Lib.hid hin
      clear hin
      go_upto_region 4 with (first | (go_at_call 41; refine hq.out.mono ?_; rintro e wx ⟨rfl, hbx⟩; have c0 := (hbx.cell (cell_lt c0)).trans c0; have c1 := (hbx.cell (cell_lt c1)).trans c1; have c2 := (hbx.cell (cell_lt c2)).trans c2; have HX := Lib.hid hbx; clear hbx) | (go_at_call 50; refine (in_any _ _ _ _).mono ?_; rw [Hi.out]; rintro e wy ⟨rfl, h0⟩; have h0 := h0.symm; subst h0))
      have hGd : Given B wx.drew _ _ s t := (hG.out.below HX.out).below (Below.refl _ _).drew
      have HGd := Lib.hid hGd
      clear hGd
      cases hcb : canB s (ofL s t) with
      | false =>
        have e := Lib.hid (keptF_no He.out Hi.out hcb)
        have Hc := Lib.hid hcb
        clear hcb
        go_region_held3 (fun w' => w'.cell? ⟨w.heap.size, 0, none⟩ = some (.slice Ah s.hours.length ch) ∧ w'.cell? ⟨w.heap.size, 1, none⟩ = some (.slice Ap s.parts.length cp) ∧ w'.cell? ⟨w.heap.size, 2, none⟩ = some (.slice Ao s.orders.length co))
          (first | go_keep | exact ⟨c0, c1, c2⟩)
          ((first
            | (go_at_call 55; refine (rof_at HGd.out He.out).mono ?_; rintro e w2 ⟨A, c, rfl, hr⟩; have c0 := (hr.bel.cell (cell_lt (w := wx.drew) c0)).trans c0; have c1 := (hr.bel.cell (cell_lt (w := wx.drew) c1)).trans c1; have c2 := (hr.bel.cell (cell_lt (w := wx.drew) c2)).trans c2; have HR := Lib.hid hr; clear hr)
            | (go_at_call 62; refine (rcan_at HGd.out He.out HR.out).mono ?_; rw [Hc.out]; rintro e w3 ⟨rfl, hb3⟩; have c0 := (hb3.cell (cell_lt c0)).trans c0; have c1 := (hb3.cell (cell_lt c1)).trans c1; have c2 := (hb3.cell (cell_lt c2)).trans c2; have HR := Lib.hid (HR.out.next hb3); clear hb3)))
        have hbw : Below w.heap.size w w3 := Hb.out.trans ((HX.out.trans ((((Below.refl wx.heap.size wx).drew).trans HR.out.bel).mono HX.out.size)).mono Hb.out.size)
        have Hbw := Lib.hid hbw
        clear hbw
        try simp only [Exit.inBlock, Exit.then]
        go_wp2
        go_ret2
        exact keptR_eq e.out rfl (Rd.nil _ _) Hbw.out
      | true =>
        have e := Lib.hid (keptF_ok He.out Hi.out hcb)
        have Hc := Lib.hid hcb
        clear hcb
        go_region_held3 (fun w' => w'.cell? ⟨w.heap.size, 0, none⟩ = some (.slice Ah s.hours.length ch) ∧ w'.cell? ⟨w.heap.size, 1, none⟩ = some (.slice Ap s.parts.length cp) ∧ w'.cell? ⟨w.heap.size, 2, none⟩ = some (.slice Ao s.orders.length co))
          (first | go_keep | exact ⟨c0, c1, c2⟩)
          ((first
            | (go_at_call 55; refine (rof_at HGd.out He.out).mono ?_; rintro e w2 ⟨A, c, rfl, hr⟩; have c0 := (hr.bel.cell (cell_lt (w := wx.drew) c0)).trans c0; have c1 := (hr.bel.cell (cell_lt (w := wx.drew) c1)).trans c1; have c2 := (hr.bel.cell (cell_lt (w := wx.drew) c2)).trans c2; have HR := Lib.hid hr; clear hr)
            | (go_at_call 62; refine (rcan_at HGd.out He.out HR.out).mono ?_; rw [Hc.out]; rintro e w3 ⟨rfl, hb3⟩; have c0 := (hb3.cell (cell_lt c0)).trans c0; have c1 := (hb3.cell (cell_lt c1)).trans c1; have c2 := (hb3.cell (cell_lt c2)).trans c2; have HR := Lib.hid (HR.out.next hb3); clear hb3)))
        have hbw : Below w.heap.size w w3 := Hb.out.trans ((HX.out.trans ((((Below.refl wx.heap.size wx).drew).trans HR.out.bel).mono HX.out.size)).mono Hb.out.size)
        have Hbw := Lib.hid hbw
        have hGd : Given B w3 _ _ s t := (HGd.out.below HR.out.bel)
        have HGd := Lib.hid hGd
        clear hbw hGd HR
        try simp only [Exit.inBlock, Exit.then]
        go_upto_region 9 with (go_at_call 55; refine (rof_at HGd.out He.out).mono ?_; rintro e w4 ⟨A, c, rfl, hr⟩; have HR := Lib.hid hr; have c0 := (hr.bel.cell (cell_lt c0)).trans c0; have c1 := (hr.bel.cell (cell_lt c1)).trans c1; have c2 := (hr.bel.cell (cell_lt c2)).trans c2; clear hr)
        go_upto_region 10 with (go_at_call 63; refine (rcasts_at HGd.out He.out Hc.out HR.out).mono ?_; rintro e w5 ⟨A5, c5, rfl, hown, hb3⟩; have c0 := (hb3.cell (cell_lt c0)).trans c0; have c1 := (hb3.cell (cell_lt c1)).trans c1; have c2 := (hb3.cell (cell_lt c2)).trans c2; have HR := Lib.hid (HR.out.next hb3); have HO := Lib.hid hown; clear hb3 hown)
        have hGd : Given B w5 _ _ s t := (HGd.out.below HR.out.bel)
        have HGd := Lib.hid hGd
        have Hbw : Hid (Below w.heap.size w w5) := Lib.hid (Hbw.out.trans (HR.out.bel.mono Hbw.out.size))
        have HRl := Lib.hid HR.out.rd
        have HCr := Lib.hid HO.out.rd
        have C0 := Lib.hid c0
        have C1 := Lib.hid c1
        have C2 := Lib.hid c2
        obtain ⟨_, hg0, hf0, _⟩ := fit_of He.out
        have Hg := Lib.hid hg0
        have Hf := Lib.hid hf0
        have hcl := casts_len hg0 hf0
        have Hkt := Lib.hid (fun d hd => keptL_take (s := s) (ofL s t) i (d := d) hd)
        have hkl := keptL_size s (ofL s t) i
        clear hGd HR HO c0 c1 c2 hg0 hf0
        go_wp2
        go_loopw [11, 12] (fun ov dv wr => ∃ (d : Nat) (A : Option Addr) (c : Nat), d ≤ s.hours.length ∧ dv = .int .i64 d ∧ ov = .slice A ((keptL s (ofL s t) i).take d).length c ∧ Own w5.heap.size 3 wr (.slice A ((keptL s (ofL s t) i).take d).length c) ((keptL s (ofL s t) i).take d) ∧ Below w5.heap.size w5 wr) (fun _ dv _ => s.hours.length - (intOf dv).toNat)
        case atStart => exact ⟨0, none, 0, Nat.zero_le _, rfl, rfl, Own.nil _ _ _, Below.refl _ _⟩
        case round =>
          obtain ⟨d, A6, c6, hd, rfl, rfl, hown, hbr⟩ := hrel
          have Hown := Lib.hid hown
          have Hbr := Lib.hid hbr
          have c0 := (hbr.cell (cell_lt C0.out)).trans C0.out
          have c1 := (hbr.cell (cell_lt C1.out)).trans C1.out
          have c2 := (hbr.cell (cell_lt C2.out)).trans C2.out
          have HG := Lib.hid (HGd.out.below hbr)
          have HL := Lib.hid ((HRl.out.below hbr).mono hbr.size)
          have HC := Lib.hid ((HCr.out.below hbr).mono hbr.size)
          clear hown hbr
          by_cases hdl : d < s.hours.length
          · have hk := Hkt.out d hdl
            have hl2 : ((keptL s (ofL s t) i).take d).length ≤ 100 := by rw [List.length_take, hkl]; omega
            have Hk := Lib.hid hk
            clear hk
            have Hlf := Lib.hid (left_any (HG.out.shop.mono HG.out.le) HL.out HC.out Hg.out Hf.out (by omega) (Nat.le_refl _) i hil (d : Int))
            generalize leftF s (ofL s t) (castsL s (ofL s t)) i (d : Int) = x at *
            generalize (keptL s (ofL s t) i).take d = kd at *
            go_wp2_with (first | (go_at_call 64; refine Hlf.out.mono ?_; rintro e wz ⟨rfl, hb⟩; obtain ⟨A7, c7, w7, hrun, hown7, hb7, _⟩ := append_int (Hown.out.below (hb.mono (Nat.le_refl _))) x (by omega) (Nat.le_trans Hbr.out.size hb.size); have Hown7 := Lib.hid hown7; have Hb7 := Lib.hid ((Hbr.out.trans (hb.mono Hbr.out.size)).trans hb7); clear hb hown7 hb7 c0 c1 c2) | (at_builtin; refine wpList_append_run rfl _ _ _ rfl rfl rfl hrun ?_))
            go_roundw
            case rel =>
              refine ⟨d + 1, A7, c7, by omega, by go_num, ?_, ?_, Hb7.out⟩
              · rw [Hk.out, List.length_append, List.length_singleton]
              · rw [Hk.out, List.length_append, List.length_singleton]; exact Hown7.out
            case measure => simp [intOf]; omega
          · have hde : d = s.hours.length := by omega
            subst hde
            rw [List.take_of_length_le (by omega)] at Hown ⊢
            go_wp2
            go_ret2
            exact keptR_eq e.out rfl Hown.out.rd (Hbw.out.trans (Hbr.out.mono Hbw.out.size))
  · have e := Lib.hid (keptF_bad part he)
    have hne : (takenErr s t != 0) = true := by simpa using he
    have heq : (takenErr s t == 0) = false := by simpa using he
    clear he
    go_upto_region 4 with (go_at_call 41; refine hq.out.mono ?_; rintro e wx ⟨rfl, hbx⟩; have HX := Lib.hid hbx; clear hbx)
    go_quiet (fail)
    go_wp2
    go_ret2
    exact keptR_eq e.out rfl (Rd.nil _ _) (Hb.out.trans (below_drewN (HX.out.mono Hb.out.size) _))
end Go.Proofs.Ytkmaapkbonkjfaa
namespace Go.Proofs.Ytkmaapkbonkjfaa
open Go.RowKit

theorem promiseF_err {s : ShopR} {t : List Int} (part many : Int) (h : takenErr s t ≠ 0) : promiseF s t part many = (0, takenErr s t) := by unfold promiseF; rw [if_pos h]
theorem promiseF_part {s : ShopR} {t : List Int} {part : Int} (many : Int) (h : takenErr s t = 0) (hp : inB part 0 (s.parts.length - 1) = false) : promiseF s t part many = (0, 4) := by unfold promiseF; rw [if_neg (by simp [h]), if_pos hp]
theorem promiseF_many {s : ShopR} {t : List Int} {part many : Int} (h : takenErr s t = 0) (hp : inB part 0 (s.parts.length - 1) = true) (hm : inB many 1 50 = false) : promiseF s t part many = (0, 7) := by unfold promiseF; rw [if_neg (by simp [h]), if_neg (by simp [hp]), if_pos hm]

set_option maxRecDepth 100000 in
set_option maxHeartbeats 2000000 in
theorem rpromise_any {B : Nat} {w : World} {v vt : Value} {s : ShopR} {t : List Int} (h : Given B w v vt s t) (part many : Int) :
    Calls Try.prog 30 #[v, vt, .int .i64 part, .int .i64 many] w fun e w' => e = .returned (promiseFV s t part many) ∧ Below w.heap.size w w' := by
  obtain ⟨Ah, ch, Ap, cp, Ao, co, At_, ct, rfl, rfl⟩ := h.form
  obtain ⟨W, hW, c0, c1, c2, hz, hb, _⟩ := shop_box w (.slice Ah s.hours.length ch) (.slice Ap s.parts.length cp) (.slice Ao s.orders.length co)
  go_enter Try.func30, Try.ntmps30
  go_upto_region 1 with (fail)
  rw [← hW]
  have hG := Lib.hid (h.below hb)
  have Hb := Lib.hid hb
  clear hW hz hb h
  have hq := Lib.hid (rtaken_any hG.out)
  by_cases he : takenErr s t = 0
  · rw [he] at hq
    have He := Lib.hid he
    obtain ⟨_, hg0, hf0, _⟩ := fit_of he
    have hpl := hg0.plen
    have hhl := hg0.hlen
    have Hg := Lib.hid hg0
    have Hf := Lib.hid hf0
    clear he hg0 hf0
    cases hin : inB part 0 (s.parts.length - 1) with
    | false =>
      have e := Lib.hid (promiseFV_eq (promiseF_part many He.out hin))
      have Hi := Lib.hid hin
      clear hin
      go_wp2_with (first | (go_at_call 41; refine hq.out.mono ?_; rintro e wx ⟨rfl, hbx⟩; have c0 := (hbx.cell (cell_lt c0)).trans c0; have c1 := (hbx.cell (cell_lt c1)).trans c1; have c2 := (hbx.cell (cell_lt c2)).trans c2; have HX := Lib.hid hbx; clear hbx) | (go_at_call 50; refine (in_any _ _ _ _).mono ?_; rw [Hi.out]; rintro e wy ⟨rfl, h0⟩; have h0 := h0.symm; subst h0))
      go_ret2
      exact ⟨by rw [e.out]; rfl, Hb.out.trans (HX.out.mono Hb.out.size)⟩
    | true =>
      have Hi := Lib.hid hin
      cases hmn : inB many 1 50 with
      | false =>
        have e := Lib.hid (promiseFV_eq (promiseF_many He.out hin hmn))
        have Hm := Lib.hid hmn
        clear hin hmn
        go_wp2_with (first | (go_at_call 41; refine hq.out.mono ?_; rintro e wx ⟨rfl, hbx⟩; have c0 := (hbx.cell (cell_lt c0)).trans c0; have c1 := (hbx.cell (cell_lt c1)).trans c1; have c2 := (hbx.cell (cell_lt c2)).trans c2; have HX := Lib.hid hbx; clear hbx) | (go_at_call 50; first | ((with_reducible refine (in_any part 0 _ _).mono ?_); rw [Hi.out]; rintro e wy ⟨rfl, h0⟩; have h0 := h0.symm; subst h0) | ((with_reducible refine (in_any many 1 50 _).mono ?_); rw [Hm.out]; rintro e wy ⟨rfl, h0⟩; have h0 := h0.symm; subst h0)))
        go_ret2
        exact ⟨by rw [e.out]; rfl, Hb.out.trans (HX.out.mono Hb.out.size)⟩
      | true =>
        have Hm := Lib.hid hmn
        have Hfi := Lib.hid (fun k hk => fit_more (k := k) He.out hin hmn hk)
        clear hin hmn
        go_upto_region 9 with (first | (go_at_call 41; refine hq.out.mono ?_; rintro e wx ⟨rfl, hbx⟩; have c0 := (hbx.cell (cell_lt c0)).trans c0; have c1 := (hbx.cell (cell_lt c1)).trans c1; have c2 := (hbx.cell (cell_lt c2)).trans c2; have HX := Lib.hid hbx; have HGd := Lib.hid (hG.out.below hbx); clear hbx) | (go_at_call 50; first | ((with_reducible refine (in_any part 0 _ _).mono ?_); rw [Hi.out]; rintro e wy ⟨rfl, h0⟩; have h0 := h0.symm; subst h0) | ((with_reducible refine (in_any many 1 50 _).mono ?_); rw [Hm.out]; rintro e wy ⟨rfl, h0⟩; have h0 := h0.symm; subst h0)) | (go_at_call 55; refine (rof_at HGd.out He.out).mono ?_; rintro e w4 ⟨A, c, rfl, hr⟩; have HR := Lib.hid hr; have c0 := (hr.bel.cell (cell_lt c0)).trans c0; have c1 := (hr.bel.cell (cell_lt c1)).trans c1; have c2 := (hr.bel.cell (cell_lt c2)).trans c2; clear hr))
        have HG4 := Lib.hid (HGd.out.below HR.out.bel)
        have Hbw : Hid (Below w.heap.size w w4) := Lib.hid (Hb.out.trans ((HX.out.trans (HR.out.bel.mono HX.out.size)).mono Hb.out.size))
        have HRl := Lib.hid HR.out.rd
        have C0 := Lib.hid c0
        have C1 := Lib.hid c1
        have C2 := Lib.hid c2
        have hlen : (ofL s t).length = t.length := ofL_len s t
        have hl9 := Hf.out.len
        rw [← hlen] at HRl
        have Hlen := Lib.hid hlen
        clear HR c0 c1 c2 hlen
        have hnone : ∀ d, (∀ j, j < d → canB s (ofL s t ++ [⟨part, many, j, 0⟩]) = false) → d = s.hours.length → promiseFV s t part many = .tuple #[.int .i64 0, .int .i64 9] := fun d hno hd =>
          promiseFV_eq (promiseF_none He.out Hi.out Hm.out (by unfold promiseL; exact fst?_none fun j hj => hno j (by omega)))
        have hsome : ∀ d, (∀ j, j < d → canB s (ofL s t ++ [⟨part, many, j, 0⟩]) = false) → d < s.hours.length → canB s (ofL s t ++ [⟨part, many, d, 0⟩]) = true → promiseFV s t part many = .tuple #[.int .i64 d, .int .i64 0] := fun d hno hd hc =>
          promiseFV_eq (promiseF_some He.out Hi.out Hm.out (by unfold promiseL; exact fst?_some hd hc fun j hj => hno j hj))
        have Hnone := Lib.hid hnone
        have Hsome := Lib.hid hsome
        clear hnone hsome
        generalize ofL s t = l at *
        go_wp2
        go_loopw [12] (fun dv wr => ∃ d : Nat, d ≤ s.hours.length ∧ dv = .int .i64 d ∧ Hid (∀ j, j < d → canB s (l ++ [⟨part, many, j, 0⟩]) = false) ∧ Below w4.heap.size w4 wr) (fun dv _ => s.hours.length - (intOf dv).toNat)
        case atStart => exact ⟨0, Nat.zero_le _, rfl, Lib.hid (fun j hj => by omega), Below.refl _ _⟩
        case round =>
          obtain ⟨d, hd, rfl, Hno, hbr⟩ := hrel
          have Hbr := Lib.hid hbr
          have c0 := (hbr.cell (cell_lt C0.out)).trans C0.out
          have c1 := (hbr.cell (cell_lt C1.out)).trans C1.out
          have c2 := (hbr.cell (cell_lt C2.out)).trans C2.out
          have HG := Lib.hid (HG4.out.below hbr)
          have HL := Lib.hid ((HRl.out.below hbr).mono hbr.size)
          clear hbr
          by_cases hdl : d < s.hours.length
          · have Hmo : Hid (Calls Try.prog 67 #[.slice A t.length c, .agg #[.int .i64 part, .int .i64 many, .int .i64 d, .int .i64 0]] wr.drew fun e w' => ∃ A c, e = .returned (.slice A (l.length + 1) c) ∧ Own wr.drew.heap.size 60 w' (.slice A (l.length + 1) c) (l ++ [⟨part, many, d, 0⟩]) ∧ Below wr.drew.heap.size wr.drew w') := Lib.hid (by rw [← Hlen.out]; exact more_any (HL.out.below (Below.refl _ _).drew) (Nat.le_refl _) (by omega) ⟨part, many, d, 0⟩)
            have Hcn := Lib.hid (fun (w2 : World) (A : Option Addr) (c : Nat) (hb2 : Below wr.drew.heap.size wr.drew w2) (hr : Rd OrdAt 4 w2.heap.size w2 (.slice A (l.length + 1) c) (l ++ [⟨part, many, d, 0⟩])) =>
              can_any (w := w2) (((HG.out.shop.below ((Below.refl _ _).drew)).below (hb2.mono HG.out.le)).mono (Nat.le_trans HG.out.le hb2.size)) hr Hg.out (Hfi.out d hdl) (Nat.le_refl _))
            cases hcb : canB s (l ++ [⟨part, many, d, 0⟩]) with
            | true =>
              have e := Lib.hid (Hsome.out d Hno.out hdl hcb)
              rw [hcb] at Hcn
              clear hcb
              go_upto_region 12 with (fail)
              go_region_held3 (fun w' => w'.cell? ⟨w.heap.size, 0, none⟩ = some (.slice Ah s.hours.length ch) ∧ w'.cell? ⟨w.heap.size, 1, none⟩ = some (.slice Ap s.parts.length cp) ∧ w'.cell? ⟨w.heap.size, 2, none⟩ = some (.slice Ao s.orders.length co))
                (first | go_keep | exact ⟨c0, c1, c2⟩)
                ((first
                  | (go_at_call 67; refine Hmo.out.mono ?_; rintro e w5 ⟨A5, c5, rfl, hown, hb5⟩; have c0 := (hb5.cell (cell_lt (w := wr.drew) c0)).trans c0; have c1 := (hb5.cell (cell_lt (w := wr.drew) c1)).trans c1; have c2 := (hb5.cell (cell_lt (w := wr.drew) c2)).trans c2; have HR5 := Lib.hid hown.rd; have HB5 := Lib.hid hb5; clear hown hb5)
                  | (go_at_call 62; refine (Hcn.out _ _ _ HB5.out (by simpa using HR5.out)).mono ?_; rintro e w6 ⟨rfl, hb3⟩; have c0 := (hb3.cell (cell_lt c0)).trans c0; have c1 := (hb3.cell (cell_lt c1)).trans c1; have c2 := (hb3.cell (cell_lt c2)).trans c2; have HB6 := Lib.hid (HB5.out.trans (hb3.mono HB5.out.size)); clear hb3)))
              have hb6 : Below w4.heap.size w4 w6 := Hbr.out.trans (((Below.refl wr.heap.size wr).drew.trans HB6.out).mono Hbr.out.size)
              have Hb6 := Lib.hid hb6
              clear hb6
              simp only [Exit.inBlock, Exit.then]
              go_wp2
              go_ret2
              exact ⟨by rw [e.out]; rfl, Hbw.out.trans (Hb6.out.mono Hbw.out.size)⟩
            | false =>
              rw [hcb] at Hcn
              have Hn : Hid (∀ j, j < d + 1 → canB s (l ++ [⟨part, many, j, 0⟩]) = false) := Lib.hid fun j hj => by
                by_cases e : j < d
                · exact Hno.out j e
                · obtain rfl : j = d := by omega
                  exact hcb
              clear hcb
              go_upto_region 12 with (fail)
              go_region_held3 (fun w' => w'.cell? ⟨w.heap.size, 0, none⟩ = some (.slice Ah s.hours.length ch) ∧ w'.cell? ⟨w.heap.size, 1, none⟩ = some (.slice Ap s.parts.length cp) ∧ w'.cell? ⟨w.heap.size, 2, none⟩ = some (.slice Ao s.orders.length co))
                (first | go_keep | exact ⟨c0, c1, c2⟩)
                ((first
                  | (go_at_call 67; refine Hmo.out.mono ?_; rintro e w5 ⟨A5, c5, rfl, hown, hb5⟩; have c0 := (hb5.cell (cell_lt (w := wr.drew) c0)).trans c0; have c1 := (hb5.cell (cell_lt (w := wr.drew) c1)).trans c1; have c2 := (hb5.cell (cell_lt (w := wr.drew) c2)).trans c2; have HR5 := Lib.hid hown.rd; have HB5 := Lib.hid hb5; clear hown hb5)
                  | (go_at_call 62; refine (Hcn.out _ _ _ HB5.out (by simpa using HR5.out)).mono ?_; rintro e w6 ⟨rfl, hb3⟩; have c0 := (hb3.cell (cell_lt c0)).trans c0; have c1 := (hb3.cell (cell_lt c1)).trans c1; have c2 := (hb3.cell (cell_lt c2)).trans c2; have HB6 := Lib.hid (HB5.out.trans (hb3.mono HB5.out.size)); clear hb3)))
              have hb6 : Below w4.heap.size w4 w6 := Hbr.out.trans (((Below.refl wr.heap.size wr).drew.trans HB6.out).mono Hbr.out.size)
              have Hb6 := Lib.hid hb6
              clear hb6
              simp only [Exit.inBlock, Exit.then]
              go_wp2
              go_roundw
              case rel => exact ⟨d + 1, by omega, by go_num, Hn, Hb6.out⟩
              case measure => simp [intOf]; omega
          · have hde : d = s.hours.length := by omega
            have e := Lib.hid (Hnone.out d Hno.out hde)
            subst hde
            go_wp2
            go_ret2
            exact ⟨by rw [e.out]; rfl, Hbw.out.trans (Hbr.out.mono Hbw.out.size)⟩
  · have e := Lib.hid (promiseFV_eq (promiseF_err part many he))
    have hne : (takenErr s t != 0) = true := by simpa using he
    have heq : (takenErr s t == 0) = false := by simpa using he
    clear he
    go_wp2_with (go_at_call 41; refine hq.out.mono ?_; rintro e wx ⟨rfl, hbx⟩; have HX := Lib.hid hbx; clear hbx)
    go_ret2
    exact ⟨by rw [e.out]; rfl, Hb.out.trans (HX.out.mono Hb.out.size)⟩
end Go.Proofs.Ytkmaapkbonkjfaa
