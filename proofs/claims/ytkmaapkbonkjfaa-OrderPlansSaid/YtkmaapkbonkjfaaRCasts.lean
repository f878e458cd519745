/- Walks of the layer order: Casts of the reference. -/
import Derived.Test.YtkmaapkbonkjfaaLawF
set_option linter.unusedSimpArgs false
set_option linter.unusedVariables false
namespace Go.Proofs.Ytkmaapkbonkjfaa
open Go.RowKit

/-- the castings ahead of the j-th new one of part i on day d -/
def preL (s : ShopR) (l : List OrdR) (d i j : Nat) : List (Int × Int) := listTo s l d ++ newsOf s l d i ++ List.replicate j ((i : Int), (d : Int))
theorem preL_zero (s : ShopR) (l : List OrdR) (d : Nat) : preL s l d 0 0 = listTo s l d := by simp [preL, newsOf]
theorem preL_snoc (s : ShopR) (l : List OrdR) (d i j : Nat) : preL s l d i (j + 1) = preL s l d i j ++ [((i : Int), (d : Int))] := by
  unfold preL
  rw [List.replicate_succ', List.append_assoc, List.append_assoc, List.append_assoc]
theorem preL_part (s : ShopR) (l : List OrdR) (d i : Nat) : preL s l d i (newBy s l d i).toNat = preL s l d (i + 1) 0 := by
  unfold preL
  rw [newsOf_succ]; simp
theorem preL_day (s : ShopR) (l : List OrdR) (d : Nat) : preL s l d s.parts.length 0 = listTo s l (d + 1) := by
  unfold preL
  rw [listTo_succ]; simp
theorem rep_split {n m : Nat} (h : n ≤ m) (x : Int × Int) : ∃ r, List.replicate m x = List.replicate n x ++ r := ⟨List.replicate (m - n) x, by rw [List.replicate_append_replicate]; congr 1; omega⟩
theorem news_split (s : ShopR) (l : List OrdR) (d : Nat) {i n : Nat} (h : i ≤ n) : ∃ r, newsOf s l d n = newsOf s l d i ++ r := by
  obtain ⟨k, rfl⟩ : ∃ k, n = i + k := ⟨n - i, by omega⟩
  clear h
  induction k with
  | zero => exact ⟨[], by simp⟩
  | succ k ih =>
    obtain ⟨r, hr⟩ := ih
    refine ⟨r ++ List.replicate (newBy s l d (i + k)).toNat (((i + k : Nat) : Int), (d : Int)), ?_⟩
    rw [← List.append_assoc, ← hr]
    exact newsOf_succ s l d (i + k)
theorem preL_split {s : ShopR} (l : List OrdR) {d i j : Nat} (hd : d < s.hours.length) (hi : i ≤ s.parts.length) (hj : j = 0 ∨ i < s.parts.length ∧ j ≤ (newBy s l d i).toNat) : ∃ r, listTo s l s.hours.length = preL s l d i j ++ r := by
  obtain ⟨r1, h1⟩ := listTo_split s l (d := d + 1) (n := s.hours.length) (by omega)
  rw [listTo_succ] at h1
  rcases hj with rfl | ⟨hi2, hj⟩
  · obtain ⟨r2, h2⟩ := news_split s l d hi
    exact ⟨r2 ++ r1, by rw [h1, h2]; unfold preL; simp⟩
  · obtain ⟨r2, h2⟩ := news_split s l d (i := i + 1) (n := s.parts.length) (by omega)
    obtain ⟨r3, h3⟩ := rep_split hj ((i : Int), (d : Int))
    exact ⟨r3 ++ r2 ++ r1, by rw [h1, h2, newsOf_succ, h3]; unfold preL; simp⟩
theorem preL_used {s : ShopR} {l : List OrdR} (hg : Good s) (hf : Fit s l) (hc : canB s l = true) {d i j : Nat} (hd : d < s.hours.length) (hi : i ≤ s.parts.length) (hj : j = 0 ∨ i < s.parts.length ∧ j ≤ (newBy s l d i).toNat) :
    0 ≤ usedOf s (preL s l d i j) ∧ usedOf s (preL s l d i j) ≤ worked s (s.hours.length - 1) ∧ (preL s l d i j).length ≤ 1350 := by
  have hh := hg.hlen
  obtain ⟨r, hr⟩ := preL_split l hd hi hj
  have h1 := used_takes hg hf (s.hours.length - 1)
  have h2 := can_spec hc (d := s.hours.length - 1) (by omega)
  rw [show s.hours.length - 1 + 1 = s.hours.length by omega] at h1
  have h3 := list_bd hg hf s.hours.length
  have hm : ∀ x ∈ preL s l d i j ++ r, 0 ≤ x.1 ∧ x.1 < s.parts.length := fun x hx => by rw [← hr] at hx; have := list_mem hx; omega
  rw [hr] at h1 h3
  rw [used_append] at h1
  rw [List.length_append] at h3
  have h4 := usedOf_bd hg (xs := r) fun x hx => hm x (by simp [hx])
  have h5 := usedOf_bd hg (xs := preL s l d i j) fun x hx => hm x (by simp [hx])
  omega
theorem used_pre (s : ShopR) (l : List OrdR) (d i j : Nat) : usedOf s (preL s l d i (j + 1)) = usedOf s (preL s l d i j) + (s.parts.getD i default).long := by
  rw [preL_snoc, usedOf_snoc]; rfl
theorem casts_pre (s : ShopR) (l : List OrdR) (d i j : Nat) : castsC s 0 (preL s l d i (j + 1)) = castsC s 0 (preL s l d i j) ++ [((i : Int), (done s (usedOf s (preL s l d i (j + 1))) : Int))] := by
  rw [used_pre, preL_snoc, castsC_snoc, Int.zero_add]; rfl
theorem casts_pre_len (s : ShopR) (l : List OrdR) (d i j : Nat) : (castsC s 0 (preL s l d i j)).length = (preL s l d i j).length := castsC_len s _ _

theorem by_int {B : Nat} {w : World} {v vl : Value} {s : ShopR} {l : List OrdR} (hs : RdShop B w v s) (hl : Rd OrdAt 4 B w vl l) (hg : Good s) (hf : Fit s l) (i : Nat) (hi : i < s.parts.length) (hB : B ≤ w.heap.size) (z D : Int) (hz : z = D) :
    Calls Try.prog 58 #[v, vl, .int .i64 i, .int .i64 z] w fun e w' => e = .returned (.int .i64 (byy s l i D)) ∧ Below w.heap.size w w' := by subst hz; exact by_any hs hl hg hf i z hi hB
theorem worked_int {B : Nat} {w : World} {v : Value} {s : ShopR} (hs : RdShop B w v s) (hg : Good s) (d : Nat) (hd : d < s.hours.length) (hB : B ≤ w.heap.size) (z : Int) (hz : z = d) :
    Calls Try.prog 39 #[v, .int .i64 z] w fun e w' => e = .returned (.int .i64 (worked s d)) ∧ Below w.heap.size w w' := by subst hz; exact worked_any hs hg d hd hB

set_option maxRecDepth 100000 in
set_option maxHeartbeats 4000000 in
theorem rcasts_any {B : Nat} {w : World} {v vl : Value} {s : ShopR} {l : List OrdR} (hs : RdShop B w v s) (hl : Rd OrdAt 4 B w vl l) (hg : Good s) (hf : Fit s l) (hc : canB s l = true) (hnm : ∀ p ∈ s.parts, p.name.size ≤ 9223372036854775807) (hB : B ≤ w.heap.size) :
    Calls Try.prog 63 #[v, vl] w fun e w' => ∃ A c, e = .returned (.slice A (castsL s l).length c) ∧ Own w.heap.size 55 w' (.slice A (castsL s l).length c) (castsL s l) ∧ Below w.heap.size w w' := by
  obtain ⟨vh, vp, vo, rfl, ⟨Ah, ch, rfl, _⟩, ⟨Ap, cp, rfl, _⟩, ⟨Ao, co, rfl, _⟩⟩ := id hs
  obtain ⟨Al, cl, rfl, _⟩ := id hl
  obtain ⟨W, hW⟩ : ∃ W, W = w.alloc (.cells #[.slice Ah s.hours.length ch, .slice Ap s.parts.length cp, .slice Ao s.orders.length co] 26) := ⟨_, rfl⟩
  have HS := Lib.hid (ShS.start hs hnm hB)
  rw [← hW] at HS
  have hhl := hg.hlen
  have hpl := hg.plen
  have hwl := worked_bd hg (d := s.hours.length - 1) (by omega)
  have HL := Lib.hid (hl.below (HS.out.below.mono hB))
  have hBz := HS.out.hB
  have Hg := Lib.hid hg
  have Hf := Lib.hid hf
  have Hc := Lib.hid hc
  clear hs hl hnm hg hf hc
  go_enter Try.func63, Try.ntmps63
  go_upto_region 1 with (fail)
  rw [← hW]
  clear hW
  go_wp2
  go_loopw [5, 6, 7] (fun ov uv dv wr => ∃ (d : Nat) (A : Option Addr) (c : Nat), d ≤ s.hours.length ∧ dv = .int .i64 d ∧ uv = .int .i64 (usedOf s (listTo s l d)) ∧ ov = .slice A (castsC s 0 (listTo s l d)).length c ∧ Own W.heap.size 55 wr (.slice A (castsC s 0 (listTo s l d)).length c) (castsC s 0 (listTo s l d)) ∧ Below W.heap.size W wr) (fun _ _ dv _ => s.hours.length - (intOf dv).toNat)
  case atStart => exact ⟨0, none, 0, Nat.zero_le _, rfl, rfl, rfl, Own.nil _ _ _, Below.refl _ _⟩
  case round =>
    obtain ⟨d, A, c, hd, rfl, rfl, rfl, hown, hbr⟩ := hrel
    have HR := Lib.hid (HS.out.next hbr)
    have Hown := Lib.hid hown
    have Hbr := Lib.hid hbr
    clear hown hbr
    obtain ⟨c0, c1, c2⟩ := HR.out.cells
    by_cases hdl : d < s.hours.length
    · rw [← preL_zero] at Hown ⊢
      go_wp2
      go_loopw [5, 6, 8] (fun ov uv iv wq => ∃ (i : Nat) (A : Option Addr) (c : Nat), i ≤ s.parts.length ∧ iv = .int .i64 i ∧ uv = .int .i64 (usedOf s (preL s l d i 0)) ∧ ov = .slice A (castsC s 0 (preL s l d i 0)).length c ∧ Own W.heap.size 55 wq (.slice A (castsC s 0 (preL s l d i 0)).length c) (castsC s 0 (preL s l d i 0)) ∧ Below W.heap.size W wq) (fun _ _ iv _ => s.parts.length - (intOf iv).toNat)
      case atStart => exact ⟨0, A, c, Nat.zero_le _, rfl, rfl, rfl, Hown.out, Hbr.out⟩
      case round =>
        obtain ⟨i, A, c, hi, rfl, rfl, rfl, hown, hbr⟩ := hrel
        have HR := Lib.hid (HS.out.next hbr)
        have Hown := Lib.hid hown
        have Hbr := Lib.hid hbr
        clear hown hbr c0 c1 c2
        obtain ⟨c0, c1, c2⟩ := HR.out.cells
        by_cases hil : i < s.parts.length
        · have hnb := newBy_bd Hg.out Hf.out hil d
          have hby := byy_bd Hg.out Hf.out hil (d : Int)
          have HLR := Lib.hid ((HL.out.below (Hbr.out.mono (Nat.le_trans hB (HS.out.below.size)))).mono (Nat.le_trans hB (HS.out.below.trans (Hbr.out.mono HS.out.below.size)).size))
          obtain ⟨nb, hnbe⟩ : ∃ nb, nb = newBy s l d i := ⟨_, rfl⟩
          rw [← hnbe] at hnb
          have Hnbe := Lib.hid hnbe
          clear hnbe
          by_cases hd0 : d = 0
          · have e1 : byy s l i (d : Int) = nb := by rw [Hnbe.out, hd0]; unfold newBy; rw [if_pos rfl, Int.sub_zero]
            have hdb : decide ((d : Int) > 0) = false := decide_eq_false (by omega)
            have hdb2 : decide (0 < d) = false := decide_eq_false (by omega)
            have hdl0 : Hid (d = 0) := Lib.hid hd0
            have E1 := Lib.hid e1
            clear e1 hd0
            go_upto_region 10 with (go_at_call 58; refine (by_int (HR.out.shop.mono HR.out.hB) HLR.out Hg.out Hf.out i hil (Nat.le_refl _) _ (d : Int) rfl).mono ?_; rw [E1.out]; rintro e wx ⟨rfl, hb⟩; have HR := Lib.hid (HR.out.next hb); have Hown := Lib.hid (Hown.out.below (hb.mono (Nat.le_refl _))); have Hbr := Lib.hid (Hbr.out.trans (hb.mono Hbr.out.size)); clear hb c0 c1 c2; obtain ⟨c0, c1, c2⟩ := HR.out.cells)
            clear E1 hby
            go_upto_region 12 with (fail)
            go_loopw [5, 6, 9] (fun ov uv mv wq => ∃ (j : Nat) (A : Option Addr) (c : Nat), j ≤ nb.toNat ∧ mv = .int .i64 (nb - j) ∧ uv = .int .i64 (usedOf s (preL s l d i j)) ∧ ov = .slice A (castsC s 0 (preL s l d i j)).length c ∧ Own W.heap.size 55 wq (.slice A (castsC s 0 (preL s l d i j)).length c) (castsC s 0 (preL s l d i j)) ∧ Below W.heap.size W wq) (fun _ _ mv _ => (intOf mv).toNat)
            case atStart => exact ⟨0, A, c, Nat.zero_le _, by simp, rfl, rfl, Hown.out, Hbr.out⟩
            case round =>
              obtain ⟨j, A, c, hj, rfl, rfl, rfl, hown, hbr⟩ := hrel
              have HR := Lib.hid (HS.out.next hbr)
              have Hown := Lib.hid hown
              have Hbr := Lib.hid hbr
              clear hown hbr c0 c1 c2
              obtain ⟨c0, c1, c2⟩ := HR.out.cells
              by_cases hjl : j < nb.toNat
              · have hu0 := preL_used Hg.out Hf.out Hc.out (d := d) (i := i) (j := j) hdl hi (.inr ⟨hil, by rw [← Hnbe.out]; omega⟩)
                have hu1 := preL_used Hg.out Hf.out Hc.out (d := d) (i := i) (j := j + 1) hdl hi (.inr ⟨hil, by rw [← Hnbe.out]; omega⟩)
                have hds := done_spec Hg.out hu1.2.1
                have hlo := (Hg.out.part hil).long
                have husd := used_pre s l d i j
                have hcp := casts_pre s l d i j
                have hlen := casts_pre_len s l d i j
                obtain ⟨vh', vp', vo', hv, _, hpp, _⟩ := id HR.out.shop
                cases hv
                obtain ⟨ap, rfl, _, p0, p1, p2, p3⟩ := hpp.part hil
                rw [List.getD_eq_getElem?_getD] at hlo husd
                have Hcp := Lib.hid hcp
                have Hud := Lib.hid husd
                rw [husd] at hds hu1
                rw [Hud.out] at Hcp
                have hpos : 0 < nb - (j : Int) := by omega
                have hposb : decide ((j : Int) < nb) = true := decide_eq_true (by omega)
                have hn480 : usedOf s (preL s l d i j) ≤ 480 := by omega
                have hl2 : (castsC s 0 (preL s l d i j)).length ≤ 1350 := by rw [hlen]; exact hu0.2.2
                clear hpp p0 p1 p3 hcp husd hlen
                obtain ⟨hu00, _, _⟩ := hu0
                obtain ⟨hu10, hu11, _⟩ := hu1
                generalize castsC s 0 (preL s l d i j) = cs at *
                generalize usedOf s (preL s l d i j) = us at *
                generalize (s.parts[i]?.getD default).long = lo at *
                obtain ⟨hd1, hd2, hd3⟩ := hds
                have Hd3 := Lib.hid hd3
                clear hd3
                have Hdo := Lib.hid hd1
                generalize hdn : done s (us + lo) = dn at *
                have Hdn := Lib.hid hdn
                clear hdn
                go_wp2
                go_loopw [10] (fun ev wz => ∃ e : Nat, e ≤ dn ∧ ev = .int .i64 e ∧ Below wr.heap.size wr wz) (fun ev _ => dn - (intOf ev).toNat)
                case atStart => exact ⟨0, Nat.zero_le _, rfl, Below.refl _ _⟩
                case round =>
                  obtain ⟨e', he', rfl, hbz⟩ := hrel
                  have HR := Lib.hid (HR.out.next hbz)
                  have Hbz := Lib.hid hbz
                  clear hbz c0 c1 c2
                  obtain ⟨c0, c1, c2⟩ := HR.out.cells
                  by_cases hel : e' < dn
                  · have hwk := Hd3.out e' hel
                    have hwb : decide (worked s e' < us + lo) = true := decide_eq_true hwk
                    have hel2 : e' < s.hours.length := by omega
                    go_wp2_with (go_at_call 39; refine (worked_int HR.out.shop Hg.out e' hel2 HR.out.hB _ rfl).mono ?_; rintro x wx ⟨rfl, hb⟩; have Hbz := Lib.hid (Hbz.out.trans (hb.mono Hbz.out.size)); clear hb c0 c1 c2)
                    go_roundw
                    case rel => exact ⟨e' + 1, by omega, by go_num, Hbz.out⟩
                    case measure => simp [intOf]; omega
                  · have hee : e' = dn := by omega
                    subst hee
                    have hwb : decide (worked s e' < us + lo) = false := decide_eq_false (by omega)
                    go_upto_region 18 with (go_at_call 39; refine (worked_int HR.out.shop Hg.out e' hd1 HR.out.hB _ rfl).mono ?_; rintro x wx ⟨rfl, hb⟩; have Hown := Lib.hid (Hown.out.below (Hbz.out.trans (hb.mono Hbz.out.size))); have Hbz := Lib.hid (Hbr.out.trans ((Hbz.out.trans (hb.mono Hbz.out.size)).mono Hbr.out.size)); clear hb c0 c1 c2)
                    obtain ⟨A5, n5, w5, hrun, hown5, hb5, _⟩ := append_cast Hown.out ((i : Int), (e' : Int)) (by omega) Hbz.out.size
                    have Hown5 := Lib.hid hown5
                    have Hb5 := Lib.hid (Hbz.out.trans hb5)
                    clear hown5 hb5
                    go_wp2_with (at_builtin; refine wpList_append_run rfl _ _ _ rfl rfl rfl hrun ?_)
                    go_roundw
                    case rel =>
                      refine ⟨j + 1, A5, n5, by omega, by go_num, by rw [Hud.out], ?_, ?_, Hb5.out⟩
                      · rw [Hcp.out, List.length_append, List.length_singleton]
                      · rw [Hcp.out, List.length_append, List.length_singleton]; exact Hown5.out
                    case measure => simp [intOf]; omega
              · have hje : j = nb.toNat := by omega
                subst hje
                have hz : nb - (nb.toNat : Int) = 0 := by omega
                have hpp : preL s l d i nb.toNat = preL s l d (i + 1) 0 := by rw [Hnbe.out]; exact preL_part s l _ i
                rw [hpp] at Hown ⊢
                rw [hz]
                go_wp2
                go_roundw
                case rel => exact ⟨i + 1, A, c, by omega, by go_num, rfl, rfl, Hown.out, Hbr.out⟩
                case measure => simp [intOf]; omega
          · obtain ⟨e, hde⟩ : ∃ e, d = e + 1 := ⟨d - 1, by omega⟩
            have e1 : byy s l i (d : Int) - byy s l i (e : Int) = nb := by rw [Hnbe.out, hde]; unfold newBy; rw [if_neg (by omega)]; rfl
            have hb0 := byy_bd Hg.out Hf.out hil (e : Int)
            have hdb : decide ((d : Int) > 0) = true := decide_eq_true (by omega)
            have hdb2 : decide (0 < d) = true := decide_eq_true (by omega)
            have hdm : (d : Int) - 1 = e := by omega
            have E1 := Lib.hid e1
            have Hdm := Lib.hid hdm
            clear e1 hd0 hde hdm
            go_upto_region 10 with (go_at_call 58; refine (by_int (HR.out.shop.mono HR.out.hB) HLR.out Hg.out Hf.out i hil (Nat.le_refl _) _ (d : Int) rfl).mono ?_; rintro e wx ⟨rfl, hb⟩; have HR := Lib.hid (HR.out.next hb); have HLR := Lib.hid ((HLR.out.below hb).mono hb.size); have Hown := Lib.hid (Hown.out.below (hb.mono (Nat.le_refl _))); have Hbr := Lib.hid (Hbr.out.trans (hb.mono Hbr.out.size)); clear hb c0 c1 c2; obtain ⟨c0, c1, c2⟩ := HR.out.cells)
            generalize byy s l i (d : Int) = b1 at *
            go_upto_region 12 with (go_at_call 58; refine (by_int (HR.out.shop.mono HR.out.hB) HLR.out Hg.out Hf.out i hil (Nat.le_refl _) _ (e : Int) Hdm.out).mono ?_; rintro e wx ⟨rfl, hb⟩; have HR := Lib.hid (HR.out.next hb); have Hown := Lib.hid (Hown.out.below (hb.mono (Nat.le_refl _))); have Hbr := Lib.hid (Hbr.out.trans (hb.mono Hbr.out.size)); clear hb c0 c1 c2; obtain ⟨c0, c1, c2⟩ := HR.out.cells)
            rw [E1.out]
            clear E1 hby hb0
            go_loopw [5, 6, 9] (fun ov uv mv wq => ∃ (j : Nat) (A : Option Addr) (c : Nat), j ≤ nb.toNat ∧ mv = .int .i64 (nb - j) ∧ uv = .int .i64 (usedOf s (preL s l d i j)) ∧ ov = .slice A (castsC s 0 (preL s l d i j)).length c ∧ Own W.heap.size 55 wq (.slice A (castsC s 0 (preL s l d i j)).length c) (castsC s 0 (preL s l d i j)) ∧ Below W.heap.size W wq) (fun _ _ mv _ => (intOf mv).toNat)
            case atStart => exact ⟨0, A, c, Nat.zero_le _, by simp, rfl, rfl, Hown.out, Hbr.out⟩
            case round =>
              obtain ⟨j, A, c, hj, rfl, rfl, rfl, hown, hbr⟩ := hrel
              have HR := Lib.hid (HS.out.next hbr)
              have Hown := Lib.hid hown
              have Hbr := Lib.hid hbr
              clear hown hbr c0 c1 c2
              obtain ⟨c0, c1, c2⟩ := HR.out.cells
              by_cases hjl : j < nb.toNat
              · have hu0 := preL_used Hg.out Hf.out Hc.out (d := d) (i := i) (j := j) hdl hi (.inr ⟨hil, by rw [← Hnbe.out]; omega⟩)
                have hu1 := preL_used Hg.out Hf.out Hc.out (d := d) (i := i) (j := j + 1) hdl hi (.inr ⟨hil, by rw [← Hnbe.out]; omega⟩)
                have hds := done_spec Hg.out hu1.2.1
                have hlo := (Hg.out.part hil).long
                have husd := used_pre s l d i j
                have hcp := casts_pre s l d i j
                have hlen := casts_pre_len s l d i j
                obtain ⟨vh', vp', vo', hv, _, hpp, _⟩ := id HR.out.shop
                cases hv
                obtain ⟨ap, rfl, _, p0, p1, p2, p3⟩ := hpp.part hil
                rw [List.getD_eq_getElem?_getD] at hlo husd
                have Hcp := Lib.hid hcp
                have Hud := Lib.hid husd
                rw [husd] at hds hu1
                rw [Hud.out] at Hcp
                have hpos : 0 < nb - (j : Int) := by omega
                have hposb : decide ((j : Int) < nb) = true := decide_eq_true (by omega)
                have hn480 : usedOf s (preL s l d i j) ≤ 480 := by omega
                have hl2 : (castsC s 0 (preL s l d i j)).length ≤ 1350 := by rw [hlen]; exact hu0.2.2
                clear hpp p0 p1 p3 hcp husd hlen
                obtain ⟨hu00, _, _⟩ := hu0
                obtain ⟨hu10, hu11, _⟩ := hu1
                generalize castsC s 0 (preL s l d i j) = cs at *
                generalize usedOf s (preL s l d i j) = us at *
                generalize (s.parts[i]?.getD default).long = lo at *
                obtain ⟨hd1, hd2, hd3⟩ := hds
                have Hd3 := Lib.hid hd3
                clear hd3
                have Hdo := Lib.hid hd1
                generalize hdn : done s (us + lo) = dn at *
                have Hdn := Lib.hid hdn
                clear hdn
                go_wp2
                go_loopw [10] (fun ev wz => ∃ e : Nat, e ≤ dn ∧ ev = .int .i64 e ∧ Below wr.heap.size wr wz) (fun ev _ => dn - (intOf ev).toNat)
                case atStart => exact ⟨0, Nat.zero_le _, rfl, Below.refl _ _⟩
                case round =>
                  obtain ⟨e', he', rfl, hbz⟩ := hrel
                  have HR := Lib.hid (HR.out.next hbz)
                  have Hbz := Lib.hid hbz
                  clear hbz c0 c1 c2
                  obtain ⟨c0, c1, c2⟩ := HR.out.cells
                  by_cases hel : e' < dn
                  · have hwk := Hd3.out e' hel
                    have hwb : decide (worked s e' < us + lo) = true := decide_eq_true hwk
                    have hel2 : e' < s.hours.length := by omega
                    go_wp2_with (go_at_call 39; refine (worked_int HR.out.shop Hg.out e' hel2 HR.out.hB _ rfl).mono ?_; rintro x wx ⟨rfl, hb⟩; have Hbz := Lib.hid (Hbz.out.trans (hb.mono Hbz.out.size)); clear hb c0 c1 c2)
                    go_roundw
                    case rel => exact ⟨e' + 1, by omega, by go_num, Hbz.out⟩
                    case measure => simp [intOf]; omega
                  · have hee : e' = dn := by omega
                    subst hee
                    have hwb : decide (worked s e' < us + lo) = false := decide_eq_false (by omega)
                    go_upto_region 18 with (go_at_call 39; refine (worked_int HR.out.shop Hg.out e' hd1 HR.out.hB _ rfl).mono ?_; rintro x wx ⟨rfl, hb⟩; have Hown := Lib.hid (Hown.out.below (Hbz.out.trans (hb.mono Hbz.out.size))); have Hbz := Lib.hid (Hbr.out.trans ((Hbz.out.trans (hb.mono Hbz.out.size)).mono Hbr.out.size)); clear hb c0 c1 c2)
                    obtain ⟨A5, n5, w5, hrun, hown5, hb5, _⟩ := append_cast Hown.out ((i : Int), (e' : Int)) (by omega) Hbz.out.size
                    have Hown5 := Lib.hid hown5
                    have Hb5 := Lib.hid (Hbz.out.trans hb5)
                    clear hown5 hb5
                    go_wp2_with (at_builtin; refine wpList_append_run rfl _ _ _ rfl rfl rfl hrun ?_)
                    go_roundw
                    case rel =>
                      refine ⟨j + 1, A5, n5, by omega, by go_num, by rw [Hud.out], ?_, ?_, Hb5.out⟩
                      · rw [Hcp.out, List.length_append, List.length_singleton]
                      · rw [Hcp.out, List.length_append, List.length_singleton]; exact Hown5.out
                    case measure => simp [intOf]; omega
              · have hje : j = nb.toNat := by omega
                subst hje
                have hz : nb - (nb.toNat : Int) = 0 := by omega
                have hpp : preL s l d i nb.toNat = preL s l d (i + 1) 0 := by rw [Hnbe.out]; exact preL_part s l _ i
                rw [hpp] at Hown ⊢
                rw [hz]
                go_wp2
                go_roundw
                case rel => exact ⟨i + 1, A, c, by omega, by go_num, rfl, rfl, Hown.out, Hbr.out⟩
                case measure => simp [intOf]; omega
        · have hie : i = s.parts.length := by omega
          subst hie
          rw [preL_day] at Hown ⊢
          go_wp2
          go_roundw
          case rel => exact ⟨d + 1, A, c, by omega, by go_num, rfl, rfl, Hown.out, Hbr.out⟩
          case measure => simp [intOf]; omega
    · have hde : d = s.hours.length := by omega
      subst hde
      rw [← castsL_eq] at Hown ⊢
      go_wp2
      go_ret
      exact ⟨A, c, rfl, Hown.out.mono HS.out.below.size, HR.out.below⟩
end Go.Proofs.Ytkmaapkbonkjfaa
