/-
  No cell of these rows narrows 'for every input' (looked for: loops, veiled, ifaces, maps, wideKeys, modest, calm, conditions, laid).
  DERIVED. THE GIVEN ROWS OF THIS SEAT. 13 by the template 'for every input the law returns true; each argument reads behind the call as it read before'; 0 by the template 'total and deterministic' (their statements: YtkmaapkbonkjfaaTotals.lean).
  GIVEN WITH THE SEED: the statements are not yours to turn. If you find one false, say at which input.
  Laid BY PROGRAM, IN A SANDBOX (cutbox-rows.mjs): the forced cells as the released guide's own fill.sh prints them over the translation fac288cdd422422e… (all of the seat's roots in one cut). By AI agents, Wed Nov 11 2026. No macro, syntax, notation, axiom, sorry.
-/
import Derived.Test.YtkmaapkbonkjfaaChecked
import GoSem.Claim
import GoSem.ClaimJoined
import GoSem.ClaimMapViews
import Derived.JoinedTies
import Derived.KernelRfl
namespace Go.Proofs.Ytkmaapkbonkjfaa
/- THE CELL 'sum', in the pinned program and in every row, IS THE sha256 OF THE DUMP (.gsa) THAT YtkmaapkbonkjfaaProg.lean LOADS. Nothing in Lean hashes anything: it is a label: what it is worth is what the hold of that sum in a sandbox is worth. -/
noncomputable def Try.pinned : Pinned := { name := "ytkmaapkbonkjfaa", sum := "fac288cdd422422e0a51ca08768136de873da6de6db5995c3ab3037def17581f", checked := Try.checked }
namespace Rows
def none {H : Type} : Left H := { results := [], args := [] }

/-- 'hachurelaw11.OrderLates': WHATEVER THE INPUT: true; the input reads as it did. -/
def orderLatesSpec : ChangeSpec := { name := "orderLates", fn := fun _ => fun
  | [d1, d2] => { results := [.lit (.bool true)], args := [d1, d2] }
  | _ => none }
def orderLatesRow : OpenClaim := { program := "ytkmaapkbonkjfaa", sum := "fac288cdd422422e0a51ca08768136de873da6de6db5995c3ab3037def17581f", func := "hachure/hachurelaw11.OrderLates", spec := "orderLates", unfollowed := true, recurses := true, plainKeys := false, apart := false }
def OrderLatesSaid : Prop := orderLatesRow.holds Try.pinned (OpenSpec.ofChange orderLatesSpec)

/-- ITS FALSE NEIGHBOUR: 'it returns false'. Refute it at one input. -/
def orderLatesWrong : ChangeSpec := { name := "orderLates", fn := fun _ => fun
  | [d1, d2] => { results := [.lit (.bool false)], args := [d1, d2] }
  | _ => none }
def OrderLatesWrongFalsely : Prop := orderLatesRow.holds Try.pinned (OpenSpec.ofChange orderLatesWrong)

/-- 'hachurelaw11.OrderPlans': WHATEVER THE INPUT: true; the input reads as it did. -/
def orderPlansSpec : ChangeSpec := { name := "orderPlans", fn := fun _ => fun
  | [d1, d2, d3] => { results := [.lit (.bool true)], args := [d1, d2, d3] }
  | _ => none }
def orderPlansRow : OpenClaim := { program := "ytkmaapkbonkjfaa", sum := "fac288cdd422422e0a51ca08768136de873da6de6db5995c3ab3037def17581f", func := "hachure/hachurelaw11.OrderPlans", spec := "orderPlans", unfollowed := true, recurses := true, plainKeys := false, apart := false }
def OrderPlansSaid : Prop := orderPlansRow.holds Try.pinned (OpenSpec.ofChange orderPlansSpec)

/-- ITS FALSE NEIGHBOUR: 'it returns false'. Refute it at one input. -/
def orderPlansWrong : ChangeSpec := { name := "orderPlans", fn := fun _ => fun
  | [d1, d2, d3] => { results := [.lit (.bool false)], args := [d1, d2, d3] }
  | _ => none }
def OrderPlansWrongFalsely : Prop := orderPlansRow.holds Try.pinned (OpenSpec.ofChange orderPlansWrong)

/-- 'hachurelaw11.OrderBest': WHATEVER THE INPUT: true; the input reads as it did. -/
def orderBestSpec : ChangeSpec := { name := "orderBest", fn := fun _ => fun
  | [d1, d2] => { results := [.lit (.bool true)], args := [d1, d2] }
  | _ => none }
def orderBestRow : OpenClaim := { program := "ytkmaapkbonkjfaa", sum := "fac288cdd422422e0a51ca08768136de873da6de6db5995c3ab3037def17581f", func := "hachure/hachurelaw11.OrderBest", spec := "orderBest", unfollowed := true, recurses := true, plainKeys := false, apart := false }
def OrderBestSaid : Prop := orderBestRow.holds Try.pinned (OpenSpec.ofChange orderBestSpec)

/-- ITS FALSE NEIGHBOUR: 'it returns false'. Refute it at one input. -/
def orderBestWrong : ChangeSpec := { name := "orderBest", fn := fun _ => fun
  | [d1, d2] => { results := [.lit (.bool false)], args := [d1, d2] }
  | _ => none }
def OrderBestWrongFalsely : Prop := orderBestRow.holds Try.pinned (OpenSpec.ofChange orderBestWrong)

/-- 'hachurelaw11.OrderKnown': WHATEVER THE INPUT: true; the input reads as it did. -/
def orderKnownSpec : ChangeSpec := { name := "orderKnown", fn := fun _ => fun
  | [] => { results := [.lit (.bool true)], args := [] }
  | _ => none }
def orderKnownRow : OpenClaim := { program := "ytkmaapkbonkjfaa", sum := "fac288cdd422422e0a51ca08768136de873da6de6db5995c3ab3037def17581f", func := "hachure/hachurelaw11.OrderKnown", spec := "orderKnown", unfollowed := true, recurses := true, plainKeys := false, apart := false }
def OrderKnownSaid : Prop := orderKnownRow.holds Try.pinned (OpenSpec.ofChange orderKnownSpec)

/-- ITS FALSE NEIGHBOUR: 'it returns false'. Refute it at one input. -/
def orderKnownWrong : ChangeSpec := { name := "orderKnown", fn := fun _ => fun
  | [] => { results := [.lit (.bool false)], args := [] }
  | _ => none }
def OrderKnownWrongFalsely : Prop := orderKnownRow.holds Try.pinned (OpenSpec.ofChange orderKnownWrong)

/-- 'hachurelaw11.OrderKept': WHATEVER THE INPUT: true; the input reads as it did. -/
def orderKeptSpec : ChangeSpec := { name := "orderKept", fn := fun _ => fun
  | [d1, d2, d3] => { results := [.lit (.bool true)], args := [d1, d2, d3] }
  | _ => none }
def orderKeptRow : OpenClaim := { program := "ytkmaapkbonkjfaa", sum := "fac288cdd422422e0a51ca08768136de873da6de6db5995c3ab3037def17581f", func := "hachure/hachurelaw11.OrderKept", spec := "orderKept", unfollowed := true, recurses := true, plainKeys := false, apart := false }
def OrderKeptSaid : Prop := orderKeptRow.holds Try.pinned (OpenSpec.ofChange orderKeptSpec)

/-- ITS FALSE NEIGHBOUR: 'it returns false'. Refute it at one input. -/
def orderKeptWrong : ChangeSpec := { name := "orderKept", fn := fun _ => fun
  | [d1, d2, d3] => { results := [.lit (.bool false)], args := [d1, d2, d3] }
  | _ => none }
def OrderKeptWrongFalsely : Prop := orderKeptRow.holds Try.pinned (OpenSpec.ofChange orderKeptWrong)

/-- 'hachurelaw11.OrderFewest': WHATEVER THE INPUT: true; the input reads as it did. -/
def orderFewestSpec : ChangeSpec := { name := "orderFewest", fn := fun _ => fun
  | [d1, d2] => { results := [.lit (.bool true)], args := [d1, d2] }
  | _ => none }
def orderFewestRow : OpenClaim := { program := "ytkmaapkbonkjfaa", sum := "fac288cdd422422e0a51ca08768136de873da6de6db5995c3ab3037def17581f", func := "hachure/hachurelaw11.OrderFewest", spec := "orderFewest", unfollowed := true, recurses := true, plainKeys := false, apart := false }
def OrderFewestSaid : Prop := orderFewestRow.holds Try.pinned (OpenSpec.ofChange orderFewestSpec)

/-- ITS FALSE NEIGHBOUR: 'it returns false'. Refute it at one input. -/
def orderFewestWrong : ChangeSpec := { name := "orderFewest", fn := fun _ => fun
  | [d1, d2] => { results := [.lit (.bool false)], args := [d1, d2] }
  | _ => none }
def OrderFewestWrongFalsely : Prop := orderFewestRow.holds Try.pinned (OpenSpec.ofChange orderFewestWrong)

/-- 'hachurelaw11.OrderLate': WHATEVER THE INPUT: true; the input reads as it did. -/
def orderLateSpec : ChangeSpec := { name := "orderLate", fn := fun _ => fun
  | [d1, d2] => { results := [.lit (.bool true)], args := [d1, d2] }
  | _ => none }
def orderLateRow : OpenClaim := { program := "ytkmaapkbonkjfaa", sum := "fac288cdd422422e0a51ca08768136de873da6de6db5995c3ab3037def17581f", func := "hachure/hachurelaw11.OrderLate", spec := "orderLate", unfollowed := true, recurses := true, plainKeys := false, apart := false }
def OrderLateSaid : Prop := orderLateRow.holds Try.pinned (OpenSpec.ofChange orderLateSpec)

/-- ITS FALSE NEIGHBOUR: 'it returns false'. Refute it at one input. -/
def orderLateWrong : ChangeSpec := { name := "orderLate", fn := fun _ => fun
  | [d1, d2] => { results := [.lit (.bool false)], args := [d1, d2] }
  | _ => none }
def OrderLateWrongFalsely : Prop := orderLateRow.holds Try.pinned (OpenSpec.ofChange orderLateWrong)

/-- 'hachurelaw11.OrderPromised': WHATEVER THE INPUT: true; the input reads as it did. -/
def orderPromisedSpec : ChangeSpec := { name := "orderPromised", fn := fun _ => fun
  | [d1, d2, d3] => { results := [.lit (.bool true)], args := [d1, d2, d3] }
  | _ => none }
def orderPromisedRow : OpenClaim := { program := "ytkmaapkbonkjfaa", sum := "fac288cdd422422e0a51ca08768136de873da6de6db5995c3ab3037def17581f", func := "hachure/hachurelaw11.OrderPromised", spec := "orderPromised", unfollowed := true, recurses := true, plainKeys := false, apart := false }
def OrderPromisedSaid : Prop := orderPromisedRow.holds Try.pinned (OpenSpec.ofChange orderPromisedSpec)

/-- ITS FALSE NEIGHBOUR: 'it returns false'. Refute it at one input. -/
def orderPromisedWrong : ChangeSpec := { name := "orderPromised", fn := fun _ => fun
  | [d1, d2, d3] => { results := [.lit (.bool false)], args := [d1, d2, d3] }
  | _ => none }
def OrderPromisedWrongFalsely : Prop := orderPromisedRow.holds Try.pinned (OpenSpec.ofChange orderPromisedWrong)

/-- 'hachurelaw11.OrderWorth': WHATEVER THE INPUT: true; the input reads as it did. -/
def orderWorthSpec : ChangeSpec := { name := "orderWorth", fn := fun _ => fun
  | [d1, d2] => { results := [.lit (.bool true)], args := [d1, d2] }
  | _ => none }
def orderWorthRow : OpenClaim := { program := "ytkmaapkbonkjfaa", sum := "fac288cdd422422e0a51ca08768136de873da6de6db5995c3ab3037def17581f", func := "hachure/hachurelaw11.OrderWorth", spec := "orderWorth", unfollowed := true, recurses := true, plainKeys := false, apart := false }
def OrderWorthSaid : Prop := orderWorthRow.holds Try.pinned (OpenSpec.ofChange orderWorthSpec)

/-- ITS FALSE NEIGHBOUR: 'it returns false'. Refute it at one input. -/
def orderWorthWrong : ChangeSpec := { name := "orderWorth", fn := fun _ => fun
  | [d1, d2] => { results := [.lit (.bool false)], args := [d1, d2] }
  | _ => none }
def OrderWorthWrongFalsely : Prop := orderWorthRow.holds Try.pinned (OpenSpec.ofChange orderWorthWrong)

/-- 'hachurelaw11.OrderCosts': WHATEVER THE INPUT: true; the input reads as it did. -/
def orderCostsSpec : ChangeSpec := { name := "orderCosts", fn := fun _ => fun
  | [d1, d2] => { results := [.lit (.bool true)], args := [d1, d2] }
  | _ => none }
def orderCostsRow : OpenClaim := { program := "ytkmaapkbonkjfaa", sum := "fac288cdd422422e0a51ca08768136de873da6de6db5995c3ab3037def17581f", func := "hachure/hachurelaw11.OrderCosts", spec := "orderCosts", unfollowed := true, recurses := true, plainKeys := false, apart := false }
def OrderCostsSaid : Prop := orderCostsRow.holds Try.pinned (OpenSpec.ofChange orderCostsSpec)

/-- ITS FALSE NEIGHBOUR: 'it returns false'. Refute it at one input. -/
def orderCostsWrong : ChangeSpec := { name := "orderCosts", fn := fun _ => fun
  | [d1, d2] => { results := [.lit (.bool false)], args := [d1, d2] }
  | _ => none }
def OrderCostsWrongFalsely : Prop := orderCostsRow.holds Try.pinned (OpenSpec.ofChange orderCostsWrong)

/-- 'hachurelaw11.OrderFewer': WHATEVER THE INPUT: true; the input reads as it did. -/
def orderFewerSpec : ChangeSpec := { name := "orderFewer", fn := fun _ => fun
  | [d1, d2, d3] => { results := [.lit (.bool true)], args := [d1, d2, d3] }
  | _ => none }
def orderFewerRow : OpenClaim := { program := "ytkmaapkbonkjfaa", sum := "fac288cdd422422e0a51ca08768136de873da6de6db5995c3ab3037def17581f", func := "hachure/hachurelaw11.OrderFewer", spec := "orderFewer", unfollowed := true, recurses := true, plainKeys := false, apart := false }
def OrderFewerSaid : Prop := orderFewerRow.holds Try.pinned (OpenSpec.ofChange orderFewerSpec)

/-- ITS FALSE NEIGHBOUR: 'it returns false'. Refute it at one input. -/
def orderFewerWrong : ChangeSpec := { name := "orderFewer", fn := fun _ => fun
  | [d1, d2, d3] => { results := [.lit (.bool false)], args := [d1, d2, d3] }
  | _ => none }
def OrderFewerWrongFalsely : Prop := orderFewerRow.holds Try.pinned (OpenSpec.ofChange orderFewerWrong)

/-- 'hachurelaw11.OrderTurned': WHATEVER THE INPUT: true; the input reads as it did. -/
def orderTurnedSpec : ChangeSpec := { name := "orderTurned", fn := fun _ => fun
  | [d1, d2] => { results := [.lit (.bool true)], args := [d1, d2] }
  | _ => none }
def orderTurnedRow : OpenClaim := { program := "ytkmaapkbonkjfaa", sum := "fac288cdd422422e0a51ca08768136de873da6de6db5995c3ab3037def17581f", func := "hachure/hachurelaw11.OrderTurned", spec := "orderTurned", unfollowed := true, recurses := true, plainKeys := false, apart := false }
def OrderTurnedSaid : Prop := orderTurnedRow.holds Try.pinned (OpenSpec.ofChange orderTurnedSpec)

/-- ITS FALSE NEIGHBOUR: 'it returns false'. Refute it at one input. -/
def orderTurnedWrong : ChangeSpec := { name := "orderTurned", fn := fun _ => fun
  | [d1, d2] => { results := [.lit (.bool false)], args := [d1, d2] }
  | _ => none }
def OrderTurnedWrongFalsely : Prop := orderTurnedRow.holds Try.pinned (OpenSpec.ofChange orderTurnedWrong)

/-- 'hachurelaw11.OrderApart': WHATEVER THE INPUT: true; the input reads as it did. -/
def orderApartSpec : ChangeSpec := { name := "orderApart", fn := fun _ => fun
  | [d1, d2, d3] => { results := [.lit (.bool true)], args := [d1, d2, d3] }
  | _ => none }
def orderApartRow : OpenClaim := { program := "ytkmaapkbonkjfaa", sum := "fac288cdd422422e0a51ca08768136de873da6de6db5995c3ab3037def17581f", func := "hachure/hachurelaw11.OrderApart", spec := "orderApart", unfollowed := true, recurses := true, plainKeys := false, apart := false }
def OrderApartSaid : Prop := orderApartRow.holds Try.pinned (OpenSpec.ofChange orderApartSpec)

/-- ITS FALSE NEIGHBOUR: 'it returns false'. Refute it at one input. -/
def orderApartWrong : ChangeSpec := { name := "orderApart", fn := fun _ => fun
  | [d1, d2, d3] => { results := [.lit (.bool false)], args := [d1, d2, d3] }
  | _ => none }
def OrderApartWrongFalsely : Prop := orderApartRow.holds Try.pinned (OpenSpec.ofChange orderApartWrong)

/- THE SECOND FORM. 'bulk': how many values and letters a reading holds, each counted each time it is reached (what is shared counts as often as it is met; a slice's spare places count too). A statement '..UptoSaid' is the law's where the arguments, and the package variables that the reading takes, are together of bulk at most 1048576: NARROWER than '..Said'. Prove '..Said' where nothing that the law and all that it calls make is longer than what came in: it says more and counts as full. Else prove '..UptoSaid'. A law counts once. -/
mutual
def uptoBulk {H : Type} : DataW H → Nat
  | .lit (.string bytes) => bytes.length + 1
  | .lit _ => 1
  | .nil => 1
  | .ptr d => uptoBulk d + 1
  | .slice elems spare => uptoBulkAll elems + uptoBulkAll spare + 1
  | .agg parts => uptoBulkAll parts + 1
  | .iface _ d => uptoBulk d + 1
  | .map entries => uptoBulkEntries entries + 1
  | .held _ => 1
def uptoBulkAll {H : Type} : List (DataW H) → Nat
  | [] => 0
  | d :: r => uptoBulk d + uptoBulkAll r
def uptoBulkEntries {H : Type} : List (Lit × DataW H) → Nat
  | [] => 0
  | x :: r => uptoBulkEntry x + uptoBulkEntries r
def uptoBulkEntry {H : Type} : Lit × DataW H → Nat
  | (.string bytes, d) => bytes.length + uptoBulk d + 1
  | (_, d) => uptoBulk d + 1
 end
def uptoSmall : (H : Type) → List (DataW H) → Bool := fun _ ds => decide (uptoBulkAll ds ≤ 1048576)
def OpenSpec.upto (s : _root_.Go.ChangeSpec) : _root_.Go.OpenSpec := { _root_.Go.OpenSpec.ofChange s with cond := some uptoSmall }

/-- 'hachurelaw11.OrderLates', WHERE WHAT IT READS IS OF BULK AT MOST 1048576: true; the input reads as it did. -/
def orderLatesUptoRow : OpenClaim := { program := "ytkmaapkbonkjfaa", sum := "fac288cdd422422e0a51ca08768136de873da6de6db5995c3ab3037def17581f", func := "hachure/hachurelaw11.OrderLates", spec := "orderLates", unfollowed := true, recurses := true, plainKeys := false, apart := false, narrowed := true }
def OrderLatesUptoSaid : Prop := orderLatesUptoRow.holds Try.pinned (OpenSpec.upto orderLatesSpec)

/-- 'hachurelaw11.OrderPlans', WHERE WHAT IT READS IS OF BULK AT MOST 1048576: true; the input reads as it did. -/
def orderPlansUptoRow : OpenClaim := { program := "ytkmaapkbonkjfaa", sum := "fac288cdd422422e0a51ca08768136de873da6de6db5995c3ab3037def17581f", func := "hachure/hachurelaw11.OrderPlans", spec := "orderPlans", unfollowed := true, recurses := true, plainKeys := false, apart := false, narrowed := true }
def OrderPlansUptoSaid : Prop := orderPlansUptoRow.holds Try.pinned (OpenSpec.upto orderPlansSpec)

/-- 'hachurelaw11.OrderBest', WHERE WHAT IT READS IS OF BULK AT MOST 1048576: true; the input reads as it did. -/
def orderBestUptoRow : OpenClaim := { program := "ytkmaapkbonkjfaa", sum := "fac288cdd422422e0a51ca08768136de873da6de6db5995c3ab3037def17581f", func := "hachure/hachurelaw11.OrderBest", spec := "orderBest", unfollowed := true, recurses := true, plainKeys := false, apart := false, narrowed := true }
def OrderBestUptoSaid : Prop := orderBestUptoRow.holds Try.pinned (OpenSpec.upto orderBestSpec)

/-- 'hachurelaw11.OrderKnown', WHERE WHAT IT READS IS OF BULK AT MOST 1048576: true; the input reads as it did. -/
def orderKnownUptoRow : OpenClaim := { program := "ytkmaapkbonkjfaa", sum := "fac288cdd422422e0a51ca08768136de873da6de6db5995c3ab3037def17581f", func := "hachure/hachurelaw11.OrderKnown", spec := "orderKnown", unfollowed := true, recurses := true, plainKeys := false, apart := false, narrowed := true }
def OrderKnownUptoSaid : Prop := orderKnownUptoRow.holds Try.pinned (OpenSpec.upto orderKnownSpec)

/-- 'hachurelaw11.OrderKept', WHERE WHAT IT READS IS OF BULK AT MOST 1048576: true; the input reads as it did. -/
def orderKeptUptoRow : OpenClaim := { program := "ytkmaapkbonkjfaa", sum := "fac288cdd422422e0a51ca08768136de873da6de6db5995c3ab3037def17581f", func := "hachure/hachurelaw11.OrderKept", spec := "orderKept", unfollowed := true, recurses := true, plainKeys := false, apart := false, narrowed := true }
def OrderKeptUptoSaid : Prop := orderKeptUptoRow.holds Try.pinned (OpenSpec.upto orderKeptSpec)

/-- 'hachurelaw11.OrderFewest', WHERE WHAT IT READS IS OF BULK AT MOST 1048576: true; the input reads as it did. -/
def orderFewestUptoRow : OpenClaim := { program := "ytkmaapkbonkjfaa", sum := "fac288cdd422422e0a51ca08768136de873da6de6db5995c3ab3037def17581f", func := "hachure/hachurelaw11.OrderFewest", spec := "orderFewest", unfollowed := true, recurses := true, plainKeys := false, apart := false, narrowed := true }
def OrderFewestUptoSaid : Prop := orderFewestUptoRow.holds Try.pinned (OpenSpec.upto orderFewestSpec)

/-- 'hachurelaw11.OrderLate', WHERE WHAT IT READS IS OF BULK AT MOST 1048576: true; the input reads as it did. -/
def orderLateUptoRow : OpenClaim := { program := "ytkmaapkbonkjfaa", sum := "fac288cdd422422e0a51ca08768136de873da6de6db5995c3ab3037def17581f", func := "hachure/hachurelaw11.OrderLate", spec := "orderLate", unfollowed := true, recurses := true, plainKeys := false, apart := false, narrowed := true }
def OrderLateUptoSaid : Prop := orderLateUptoRow.holds Try.pinned (OpenSpec.upto orderLateSpec)

/-- 'hachurelaw11.OrderPromised', WHERE WHAT IT READS IS OF BULK AT MOST 1048576: true; the input reads as it did. -/
def orderPromisedUptoRow : OpenClaim := { program := "ytkmaapkbonkjfaa", sum := "fac288cdd422422e0a51ca08768136de873da6de6db5995c3ab3037def17581f", func := "hachure/hachurelaw11.OrderPromised", spec := "orderPromised", unfollowed := true, recurses := true, plainKeys := false, apart := false, narrowed := true }
def OrderPromisedUptoSaid : Prop := orderPromisedUptoRow.holds Try.pinned (OpenSpec.upto orderPromisedSpec)

/-- 'hachurelaw11.OrderWorth', WHERE WHAT IT READS IS OF BULK AT MOST 1048576: true; the input reads as it did. -/
def orderWorthUptoRow : OpenClaim := { program := "ytkmaapkbonkjfaa", sum := "fac288cdd422422e0a51ca08768136de873da6de6db5995c3ab3037def17581f", func := "hachure/hachurelaw11.OrderWorth", spec := "orderWorth", unfollowed := true, recurses := true, plainKeys := false, apart := false, narrowed := true }
def OrderWorthUptoSaid : Prop := orderWorthUptoRow.holds Try.pinned (OpenSpec.upto orderWorthSpec)

/-- 'hachurelaw11.OrderCosts', WHERE WHAT IT READS IS OF BULK AT MOST 1048576: true; the input reads as it did. -/
def orderCostsUptoRow : OpenClaim := { program := "ytkmaapkbonkjfaa", sum := "fac288cdd422422e0a51ca08768136de873da6de6db5995c3ab3037def17581f", func := "hachure/hachurelaw11.OrderCosts", spec := "orderCosts", unfollowed := true, recurses := true, plainKeys := false, apart := false, narrowed := true }
def OrderCostsUptoSaid : Prop := orderCostsUptoRow.holds Try.pinned (OpenSpec.upto orderCostsSpec)

/-- 'hachurelaw11.OrderFewer', WHERE WHAT IT READS IS OF BULK AT MOST 1048576: true; the input reads as it did. -/
def orderFewerUptoRow : OpenClaim := { program := "ytkmaapkbonkjfaa", sum := "fac288cdd422422e0a51ca08768136de873da6de6db5995c3ab3037def17581f", func := "hachure/hachurelaw11.OrderFewer", spec := "orderFewer", unfollowed := true, recurses := true, plainKeys := false, apart := false, narrowed := true }
def OrderFewerUptoSaid : Prop := orderFewerUptoRow.holds Try.pinned (OpenSpec.upto orderFewerSpec)

/-- 'hachurelaw11.OrderTurned', WHERE WHAT IT READS IS OF BULK AT MOST 1048576: true; the input reads as it did. -/
def orderTurnedUptoRow : OpenClaim := { program := "ytkmaapkbonkjfaa", sum := "fac288cdd422422e0a51ca08768136de873da6de6db5995c3ab3037def17581f", func := "hachure/hachurelaw11.OrderTurned", spec := "orderTurned", unfollowed := true, recurses := true, plainKeys := false, apart := false, narrowed := true }
def OrderTurnedUptoSaid : Prop := orderTurnedUptoRow.holds Try.pinned (OpenSpec.upto orderTurnedSpec)

/-- 'hachurelaw11.OrderApart', WHERE WHAT IT READS IS OF BULK AT MOST 1048576: true; the input reads as it did. -/
def orderApartUptoRow : OpenClaim := { program := "ytkmaapkbonkjfaa", sum := "fac288cdd422422e0a51ca08768136de873da6de6db5995c3ab3037def17581f", func := "hachure/hachurelaw11.OrderApart", spec := "orderApart", unfollowed := true, recurses := true, plainKeys := false, apart := false, narrowed := true }
def OrderApartUptoSaid : Prop := orderApartUptoRow.holds Try.pinned (OpenSpec.upto orderApartSpec)

end Rows
end Go.Proofs.Ytkmaapkbonkjfaa
