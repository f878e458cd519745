/- Parts of the proof of TpP: CoA. -/
import Derived.Test.YthnimhnlnddnoaaGreatDoorH36
import Derived.Test.YthnimhnlnddnoaaGreatDoorH39
import Derived.Test.YthnimhnlnddnoaaGreatDoorH40
import Derived.WalkKit
import Derived.Deep.Quiet
set_option linter.unusedSimpArgs false
set_option linter.unusedVariables false
set_option maxRecDepth 100000
set_option maxHeartbeats 8000000
namespace Go.Proofs.YthnimhnlnddnoaaGreatDoor
open Go.RowKit Go.Shelf
structure CosK (r : List RvR) (lv fx : List Int) (tn h b mb : Nat) (vr lvV fxV : Value) (w : World) : Prop where
 lk : LkB r mb b vr w
 row : w.heap[h]? = some (.cells #[.pointer (some ⟨b, 0, none⟩), lvV, .map (some mb), fxV, .int .i64 tn] 132)
 lt : h < mb
 lvs : Rd IntAt 1 mb w lvV lv
 fxs : Rd IntAt 1 mb w fxV fx
theorem CosK.below {r : List RvR} {lv fx : List Int} {tn h b mb : Nat} {vr lvV fxV : Value} {w w' : World} (k : CosK r lv fx tn h b mb vr lvV fxV w) (hb : Below mb w w') : CosK r lv fx tn h b mb vr lvV fxV w' :=
 ⟨k.lk.below hb, (hb.block _ k.lt).trans k.row, k.lt, k.lvs.below hb, k.fxs.below hb⟩
structure CF (mb : Nat) (w w' : World) : Prop where
 os : w'.os = w.os
 tape : w'.tape = w.tape
 output : w'.output = w.output
 size : w.heap.size ≤ w'.heap.size
 keep : ∀ k, k < w.heap.size → k ≠ mb → w'.heap[k]? = w.heap[k]?
theorem CF.trans {mb : Nat} {x y z : World} (h : CF mb x y) (k : CF mb y z) : CF mb x z :=
 ⟨k.os.trans h.os, k.tape.trans h.tape, k.output.trans h.output, Nat.le_trans h.size k.size, fun i h1 h2 => (k.keep i (by have := h.size; omega) h2).trans (h.keep i h1 h2)⟩
theorem CF.of_below {mb : Nat} {w w' : World} (h : Below w.heap.size w w') : CF mb w w' := ⟨h.os, h.tape, h.output, h.size, fun k hk _ => h.block k hk⟩
theorem CF.below {mb : Nat} {w w' : World} (h : CF mb w w') (hm : mb < w.heap.size) : Below mb w w' := ⟨h.os, h.tape, h.output, h.size, fun k hk => h.keep k (by omega) (by omega)⟩
theorem SMap.of_below {c : Int → Int → Int} {w w' : World} {b : Nat} (h : SMap c w b) (hb : Below w.heap.size w w') : SMap c w' b := h.keep (hb.block _ h.lt)
theorem cost_known {r : List RvR} {lv fx : List Int} {tn h b mb : Nat} {vr lvV fxV : Value} {w : World} {a x : Int} {c : Int} (hK : CosK r lv fx tn h b mb vr lvV fxV w) (hm : mb < w.heap.size)
  (hlk : ∀ wx : World, wx.heap[mb]? = w.heap[mb]? → (Instr.lookup 130 (.map (some mb)) (encS a x) true).run Tryz.prog wx = .ok (.tuple #[.int .i64 c, .bool true]) wx) :
  Calls Tryz.prog 83 #[.pointer (some ⟨h, 0, none⟩), .agg #[.int .i64 a, .int .i64 x]] w fun e w' => e = .returned (.int .i64 c) ∧ Below w.heap.size w w' := by
 obtain ⟨W1, hW1, r1, z1, d1⟩ := box_any w #[.int .i64 a, .int .i64 x] 136
 have hk1 := (hK.below (d1.mono (by omega))).row
 have q2 := cellOf hk1 2 (v := .map (some mb)) rfl
 have i0 := cellOf r1 0 (v := .int .i64 a) rfl
 have i1 := cellOf r1 1 (v := .int .i64 x) rfl
 have hl : ∀ n, (Instr.lookup 130 (.map (some mb)) (.agg #[.int .i64 a, .int .i64 x]) true).run Tryz.prog (W1.drewN n) = .ok (.tuple #[.int .i64 c, .bool true]) (W1.drewN n) := fun n => hlk _ (d1.block mb hm)
 have HB := Lib.hid d1
 clear hK hlk r1 z1 d1 hk1
 go_enter Tryz.func83, Tryz.ntmps83
 go_upto_region 1 with (fail)
 rw [← hW1]
 clear hW1
 go_quiet (fail)
 go_wp2
 go_ret
 exact ⟨rfl, below_drewN HB.out _⟩
end Go.Proofs.YthnimhnlnddnoaaGreatDoor
