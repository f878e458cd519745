/- Walks of the layer sheet: Awake: its last statement. -/
import Derived.Test.YtajdgdelhlfniaaGreatDoorAw0
import Derived.Test.YtajdgdelhlfniaaGreatDoorGhostG
import Derived.WalkKit
import Derived.Deep.Quiet
set_option linter.unusedSimpArgs false
set_option linter.unusedVariables false
namespace Go.Proofs.YtajdgdelhlfniaaGreatDoor
open Go.RowKit

theorem gen_act {c : Code} {P : Program} {Q : Exit → Act → World → Prop} {a : Act} {w : World} (h : ∀ a0, a0 = a → c.wp P Q a0 w) : c.wp P Q a w := h a rfl
theorem wanted_plain {o : Oper} {f : Nat → Option Bool} (hg : o.guard = none) : Region.wanted o f = true := by simp [Region.wanted, hg]
theorem wanted_of {ops : Array Oper} {o : Oper} {k d : Nat} {t : Bool} {b : Act} (hg : o.guard = some (k, t)) (hd : slotOf ops k = some d) (he : b.tmps[d]?.getD undef = .bool t) : Region.wanted o (yielded ops b.tmps) = true := by
  unfold slotOf at hd
  have hy : yielded ops b.tmps k = some t := by
    unfold yielded
    rw [hd]
    cases hx : b.tmps[d]? with
    | none => rw [hx] at he; simp [undef] at he
    | some v => rw [hx] at he; simp at he; subst he; simp [hx]
  simp [Region.wanted, hg, hy]
/-- what holds within Awake's last statement -/
structure AgI (W : World) (val : Nat → Value) (sn : Nat → Option (Nat × Array Value × TypeId)) (L : Nat → Bool) (vs : Nat → Value) (X : World) : Prop where
  bel : Below W.heap.size W X
  rd : ∀ k, sn k = none → L k = true → vs k = val k
  sl : ∀ k n cs T, sn k = some (n, cs, T) → L k = true → ∃ g, vs k = .slice (some ⟨g, 0, none⟩) n n ∧ X.heap[g]? = some (.cells cs T)
theorem AgI.next {W : World} {val : Nat → Value} {sn : Nat → Option (Nat × Array Value × TypeId)} {L : Nat → Bool} {vs : Nat → Value} {X X' : World} (h : AgI W val sn L vs X) {i : Nat} {v : Value} (hn : sn i = none) (hv : v = val i) (hb : Below X.heap.size X X') : AgI W val sn (updB L i) (updV vs i v) X' := by
  refine ⟨h.bel.trans (hb.mono h.bel.size), fun k hk hl => ?_, fun k n cs T hk hl => ?_⟩
  · by_cases e : k = i
    · subst e; rw [updV_self]; exact hv
    · rw [updV_other _ _ e]; exact h.rd k hk (by rwa [updB_other _ e] at hl)
  · by_cases e : k = i
    · subst e; rw [hn] at hk; cases hk
    · rw [updV_other _ _ e]
      obtain ⟨g, h1, h2⟩ := h.sl k n cs T hk (by rwa [updB_other _ e] at hl)
      exact ⟨g, h1, (hb.block _ (lt_of_block h2)).trans h2⟩
theorem AgI.made {W : World} {val : Nat → Value} {sn : Nat → Option (Nat × Array Value × TypeId)} {L : Nat → Bool} {vs : Nat → Value} {X : World} (h : AgI W val sn L vs X) {i n : Nat} {cs : Array Value} {T : TypeId} (hn : sn i = some (n, cs, T)) : AgI W val sn (updB L i) (updV vs i (.slice (some ⟨X.heap.size, 0, none⟩) n n)) (X.alloc (.cells cs T)) := by
  have hb : Below X.heap.size X (X.alloc (.cells cs T)) := (Below.refl _ _).alloc (Nat.le_refl _) _
  refine ⟨h.bel.trans (hb.mono h.bel.size), fun k hk hl => ?_, fun k n' cs' T' hk hl => ?_⟩
  · by_cases e : k = i
    · subst e; rw [hn] at hk; cases hk
    · rw [updV_other _ _ e]; exact h.rd k hk (by rwa [updB_other _ e] at hl)
  · by_cases e : k = i
    · subst e
      rw [hn] at hk
      cases hk
      exact ⟨_, updV_self _ _ _, heap_alloc_new _ _⟩
    · rw [updV_other _ _ e]
      obtain ⟨g, h1, h2⟩ := h.sl k n' cs' T' hk (by rwa [updB_other _ e] at hl)
      exact ⟨g, h1, (hb.block _ (lt_of_block h2)).trans h2⟩
theorem lit_rd {α : Type} {At : World → Addr → α → Prop} {sz : Nat} [E : Enc α At sz] {w : World} {g n : Nat} {e : TypeId} {cs : Array Value} (xs : List α) (hx : xs.length ≤ 1000) (hn : xs.length = n) (hcs : (xs.flatMap E.enc).toArray = cs) (h : w.heap[g]? = some (.cells cs e)) : Rd At sz w.heap.size w (.slice (some ⟨g, 0, none⟩) n n) xs := by
  subst hn hcs
  exact (own_lit xs hx h).rd
theorem ints_lit {X : World} {A : Option Addr} {c g n : Nat} {cs : Array Value} {l : List Int} (h : Rd IntAt 1 X.heap.size X (.slice A n c) l) (hn : l.length = n) (hx : l.length ≤ 1000) (hcs : (l.flatMap (Enc.enc (α := Int))).toArray = cs) (hg : X.heap[g]? = some (.cells cs 3)) :
    Calls Tryz.prog 30 #[.slice A n c, .slice (some ⟨g, 0, none⟩) n n] X fun e w' => e = .returned (.bool true) ∧ Below X.heap.size X w' := by
  refine (ints_any h (lit_rd l hx hn hcs hg) (by omega)).mono ?_
  rintro e w' ⟨rfl, hq⟩
  exact ⟨by simp, hq.below _⟩
theorem spans_lit {X : World} {A : Option Addr} {c g n : Nat} {cs : Array Value} {l : List (Int × Int)} (h : Rd SpanAt 2 X.heap.size X (.slice A n c) l) (hn : l.length = n) (hx : l.length ≤ 1000) (hcs : (l.flatMap (Enc.enc (α := Int × Int))).toArray = cs) (hg : X.heap[g]? = some (.cells cs 40)) :
    Calls Tryz.prog 25 #[.slice A n c, .slice (some ⟨g, 0, none⟩) n n] X fun e w' => e = .returned (.bool true) ∧ Below X.heap.size X w' := by
  refine (spans_any h (lit_rd l hx hn hcs hg) (by omega)).mono ?_
  rintro e w' ⟨rfl, hq⟩
  exact ⟨by simp, hq.below _⟩
theorem fill_end {l : List Oper} {vs : Nat → Value} {a : Act} {K : Act → Prop} (hs : ownSlotsG l.toArray = true) (k d : Nat) (hk : slotOf l.toArray k = some d) (hd : d < a.tmps.size) (h : ∀ a', a'.tmps[d]?.getD undef = vs k → a'.defers = a.defers → K a') : K (fill l.toArray (fun _ => true) vs a l.length) := by
  have hf := fill_filledG hs (fun _ => true) vs a
  exact h _ (hf.new k d hk rfl hd) hf.dfr
theorem rdX {α : Type} {At : World → Addr → α → Prop} [AtKeep At] {sz : Nat} {w w' : World} {v : Value} {xs : List α} (h : Rd At sz w.heap.size w v xs) (hb : Below w.heap.size w w') : Rd At sz w'.heap.size w' v xs := (h.below hb).mono hb.size
theorem rdsX {w w' : World} {v : Value} {s : ShR} (h : RdSh w.heap.size w v s) (hb : Below w.heap.size w w') : RdSh w'.heap.size w' v s := (h.below hb).mono hb.size
theorem rowX {w w' : World} {g : Nat} {o : Obj} (h : w.heap[g]? = some o) (hb : Below w.heap.size w w') : w'.heap[g]? = some o := (hb.block _ (lt_of_block h)).trans h
theorem enterA43 : ∀ args w, (callFunc 43 args).run Tryz.prog w = .ok (.enter 43 args) w := enters_of Tryz.func43 (by kernel_rfl) rfl
theorem enterA25 : ∀ args w, (callFunc 25 args).run Tryz.prog w = .ok (.enter 25 args) w := enters_of Tryz.func25 (by kernel_rfl) rfl
theorem enterA30 : ∀ args w, (callFunc 30 args).run Tryz.prog w = .ok (.enter 30 args) w := enters_of Tryz.func30 (by kernel_rfl) rfl
theorem enterA67 : ∀ args w, (callFunc 67 args).run Tryz.prog w = .ok (.enter 67 args) w := enters_of Tryz.func67 (by kernel_rfl) rfl
theorem enterA41 : ∀ args w, (callFunc 41 args).run Tryz.prog w = .ok (.enter 41 args) w := enters_of Tryz.func41 (by kernel_rfl) rfl
theorem enterA18 : ∀ args w, (callFunc 18 args).run Tryz.prog w = .ok (.enter 18 args) w := enters_of Tryz.func18 (by kernel_rfl) rfl
end Go.Proofs.YtajdgdelhlfniaaGreatDoor
