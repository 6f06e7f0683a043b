/-
  No cell of these rows narrows 'for every input' (looked for: loops, veiled, ifaces, maps, wideKeys, modest, calm, conditions, laid).
  DERIVED. THE GIVEN ROWS OF THIS SEAT. 7 by the template 'for every input the law returns true; each argument reads behind the call as it read before'; 0 by the template 'total and deterministic' (their statements: YtemlboicdekgbaaTotals.lean).
  GIVEN WITH THE SEED: the statements are not yours to turn. If you find one false, say at which input.
  Laid BY PROGRAM, IN A SANDBOX (cutbox-rows.mjs): the forced cells as the released guide's own fill.sh prints them over the translation 1693a916c689054c… (all of the seat's roots in one cut). By AI agents, Wed Nov 11 2026. No macro, syntax, notation, axiom, sorry.
-/
import Derived.Test.YtemlboicdekgbaaChecked
import GoSem.Claim
import GoSem.ClaimJoined
import GoSem.ClaimMapViews
import Derived.JoinedTies
import Derived.KernelRfl
namespace Go.Proofs.Ytemlboicdekgbaa
/- THE CELL 'sum', in the pinned program and in every row, IS THE sha256 OF THE DUMP (.gsa) THAT YtemlboicdekgbaaProg.lean LOADS. Nothing in Lean hashes anything: it is a label: what it is worth is what the hold of that sum in a sandbox is worth. -/
noncomputable def Try.pinned : Pinned := { name := "ytemlboicdekgbaa", sum := "1693a916c689054ccc9a4837ec25b501c901dde0254fee3758a329ad6ef80e6a", checked := Try.checked }
namespace Rows
def none {H : Type} : Left H := { results := [], args := [] }

/-- 'weirgatelaw40.PlanChecksAsSpecified': WHATEVER THE INPUT: true; the input reads as it did. -/
def planChecksAsSpecifiedSpec : ChangeSpec := { name := "planChecksAsSpecified", fn := fun _ => fun
  | [d] => { results := [.lit (.bool true)], args := [d] }
  | _ => none }
def planChecksAsSpecifiedRow : OpenClaim := { program := "ytemlboicdekgbaa", sum := "1693a916c689054ccc9a4837ec25b501c901dde0254fee3758a329ad6ef80e6a", func := "weirgate/weirgatelaw40.PlanChecksAsSpecified", spec := "planChecksAsSpecified", unfollowed := true, recurses := true, plainKeys := false, apart := false }
def PlanChecksAsSpecifiedSaid : Prop := planChecksAsSpecifiedRow.holds Try.pinned (OpenSpec.ofChange planChecksAsSpecifiedSpec)

/-- ITS FALSE NEIGHBOUR: 'it returns false'. Refute it at one input. -/
def planChecksAsSpecifiedWrong : ChangeSpec := { name := "planChecksAsSpecified", fn := fun _ => fun
  | [d] => { results := [.lit (.bool false)], args := [d] }
  | _ => none }
def PlanChecksAsSpecifiedWrongFalsely : Prop := planChecksAsSpecifiedRow.holds Try.pinned (OpenSpec.ofChange planChecksAsSpecifiedWrong)

/-- 'weirgatelaw40.PlanReadsPlansAsSpecified': WHATEVER THE INPUT: true; the input reads as it did. -/
def planReadsPlansAsSpecifiedSpec : ChangeSpec := { name := "planReadsPlansAsSpecified", fn := fun _ => fun
  | [d1, d2, d3, d4] => { results := [.lit (.bool true)], args := [d1, d2, d3, d4] }
  | _ => none }
def planReadsPlansAsSpecifiedRow : OpenClaim := { program := "ytemlboicdekgbaa", sum := "1693a916c689054ccc9a4837ec25b501c901dde0254fee3758a329ad6ef80e6a", func := "weirgate/weirgatelaw40.PlanReadsPlansAsSpecified", spec := "planReadsPlansAsSpecified", unfollowed := true, recurses := true, plainKeys := false, apart := false }
def PlanReadsPlansAsSpecifiedSaid : Prop := planReadsPlansAsSpecifiedRow.holds Try.pinned (OpenSpec.ofChange planReadsPlansAsSpecifiedSpec)

/-- ITS FALSE NEIGHBOUR: 'it returns false'. Refute it at one input. -/
def planReadsPlansAsSpecifiedWrong : ChangeSpec := { name := "planReadsPlansAsSpecified", fn := fun _ => fun
  | [d1, d2, d3, d4] => { results := [.lit (.bool false)], args := [d1, d2, d3, d4] }
  | _ => none }
def PlanReadsPlansAsSpecifiedWrongFalsely : Prop := planReadsPlansAsSpecifiedRow.holds Try.pinned (OpenSpec.ofChange planReadsPlansAsSpecifiedWrong)

/-- 'weirgatelaw40.PlanKeepsCapacities': WHATEVER THE INPUT: true; the input reads as it did. -/
def planKeepsCapacitiesSpec : ChangeSpec := { name := "planKeepsCapacities", fn := fun _ => fun
  | [d1, d2] => { results := [.lit (.bool true)], args := [d1, d2] }
  | _ => none }
def planKeepsCapacitiesRow : OpenClaim := { program := "ytemlboicdekgbaa", sum := "1693a916c689054ccc9a4837ec25b501c901dde0254fee3758a329ad6ef80e6a", func := "weirgate/weirgatelaw40.PlanKeepsCapacities", spec := "planKeepsCapacities", unfollowed := true, recurses := true, plainKeys := false, apart := false }
def PlanKeepsCapacitiesSaid : Prop := planKeepsCapacitiesRow.holds Try.pinned (OpenSpec.ofChange planKeepsCapacitiesSpec)

/-- ITS FALSE NEIGHBOUR: 'it returns false'. Refute it at one input. -/
def planKeepsCapacitiesWrong : ChangeSpec := { name := "planKeepsCapacities", fn := fun _ => fun
  | [d1, d2] => { results := [.lit (.bool false)], args := [d1, d2] }
  | _ => none }
def PlanKeepsCapacitiesWrongFalsely : Prop := planKeepsCapacitiesRow.holds Try.pinned (OpenSpec.ofChange planKeepsCapacitiesWrong)

/-- 'weirgatelaw40.PlanRoutesRequests': WHATEVER THE INPUT: true; the input reads as it did. -/
def planRoutesRequestsSpec : ChangeSpec := { name := "planRoutesRequests", fn := fun _ => fun
  | [d1, d2] => { results := [.lit (.bool true)], args := [d1, d2] }
  | _ => none }
def planRoutesRequestsRow : OpenClaim := { program := "ytemlboicdekgbaa", sum := "1693a916c689054ccc9a4837ec25b501c901dde0254fee3758a329ad6ef80e6a", func := "weirgate/weirgatelaw40.PlanRoutesRequests", spec := "planRoutesRequests", unfollowed := true, recurses := true, plainKeys := false, apart := false }
def PlanRoutesRequestsSaid : Prop := planRoutesRequestsRow.holds Try.pinned (OpenSpec.ofChange planRoutesRequestsSpec)

/-- ITS FALSE NEIGHBOUR: 'it returns false'. Refute it at one input. -/
def planRoutesRequestsWrong : ChangeSpec := { name := "planRoutesRequests", fn := fun _ => fun
  | [d1, d2] => { results := [.lit (.bool false)], args := [d1, d2] }
  | _ => none }
def PlanRoutesRequestsWrongFalsely : Prop := planRoutesRequestsRow.holds Try.pinned (OpenSpec.ofChange planRoutesRequestsWrong)

/-- 'weirgatelaw40.PlanMayChange': WHATEVER THE INPUT: true; the input reads as it did. -/
def planMayChangeSpec : ChangeSpec := { name := "planMayChange", fn := fun _ => fun
  | [d1, d2, d3, d4] => { results := [.lit (.bool true)], args := [d1, d2, d3, d4] }
  | _ => none }
def planMayChangeRow : OpenClaim := { program := "ytemlboicdekgbaa", sum := "1693a916c689054ccc9a4837ec25b501c901dde0254fee3758a329ad6ef80e6a", func := "weirgate/weirgatelaw40.PlanMayChange", spec := "planMayChange", unfollowed := true, recurses := true, plainKeys := false, apart := false }
def PlanMayChangeSaid : Prop := planMayChangeRow.holds Try.pinned (OpenSpec.ofChange planMayChangeSpec)

/-- ITS FALSE NEIGHBOUR: 'it returns false'. Refute it at one input. -/
def planMayChangeWrong : ChangeSpec := { name := "planMayChange", fn := fun _ => fun
  | [d1, d2, d3, d4] => { results := [.lit (.bool false)], args := [d1, d2, d3, d4] }
  | _ => none }
def PlanMayChangeWrongFalsely : Prop := planMayChangeRow.holds Try.pinned (OpenSpec.ofChange planMayChangeWrong)

/-- 'weirgatelaw40.PlanMeetsAsSpecified': WHATEVER THE INPUT: true; the input reads as it did. -/
def planMeetsAsSpecifiedSpec : ChangeSpec := { name := "planMeetsAsSpecified", fn := fun _ => fun
  | [d1, d2] => { results := [.lit (.bool true)], args := [d1, d2] }
  | _ => none }
def planMeetsAsSpecifiedRow : OpenClaim := { program := "ytemlboicdekgbaa", sum := "1693a916c689054ccc9a4837ec25b501c901dde0254fee3758a329ad6ef80e6a", func := "weirgate/weirgatelaw40.PlanMeetsAsSpecified", spec := "planMeetsAsSpecified", unfollowed := true, recurses := true, plainKeys := false, apart := false }
def PlanMeetsAsSpecifiedSaid : Prop := planMeetsAsSpecifiedRow.holds Try.pinned (OpenSpec.ofChange planMeetsAsSpecifiedSpec)

/-- ITS FALSE NEIGHBOUR: 'it returns false'. Refute it at one input. -/
def planMeetsAsSpecifiedWrong : ChangeSpec := { name := "planMeetsAsSpecified", fn := fun _ => fun
  | [d1, d2] => { results := [.lit (.bool false)], args := [d1, d2] }
  | _ => none }
def PlanMeetsAsSpecifiedWrongFalsely : Prop := planMeetsAsSpecifiedRow.holds Try.pinned (OpenSpec.ofChange planMeetsAsSpecifiedWrong)

/-- 'weirgatelaw40.PlanIsMade': WHATEVER THE INPUT: true; the input reads as it did. -/
def planIsMadeSpec : ChangeSpec := { name := "planIsMade", fn := fun _ => fun
  | [d1, d2] => { results := [.lit (.bool true)], args := [d1, d2] }
  | _ => none }
def planIsMadeRow : OpenClaim := { program := "ytemlboicdekgbaa", sum := "1693a916c689054ccc9a4837ec25b501c901dde0254fee3758a329ad6ef80e6a", func := "weirgate/weirgatelaw40.PlanIsMade", spec := "planIsMade", unfollowed := true, recurses := true, plainKeys := false, apart := false }
def PlanIsMadeSaid : Prop := planIsMadeRow.holds Try.pinned (OpenSpec.ofChange planIsMadeSpec)

/-- ITS FALSE NEIGHBOUR: 'it returns false'. Refute it at one input. -/
def planIsMadeWrong : ChangeSpec := { name := "planIsMade", fn := fun _ => fun
  | [d1, d2] => { results := [.lit (.bool false)], args := [d1, d2] }
  | _ => none }
def PlanIsMadeWrongFalsely : Prop := planIsMadeRow.holds Try.pinned (OpenSpec.ofChange planIsMadeWrong)

/- THE SECOND FORM. 'bulk': how many values and letters a reading holds, each counted each time it is reached (what is shared counts as often as it is met; a slice's spare places count too). A statement '..UptoSaid' is the law's where the arguments, and the package variables that the reading takes, are together of bulk at most 1048576: NARROWER than '..Said'. Prove '..Said' where nothing that the law and all that it calls make is longer than what came in: it says more and counts as full. Else prove '..UptoSaid'. A law counts once. -/
mutual
def uptoBulk {H : Type} : DataW H → Nat
  | .lit (.string bytes) => bytes.length + 1
  | .lit _ => 1
  | .nil => 1
  | .ptr d => uptoBulk d + 1
  | .slice elems spare => uptoBulkAll elems + uptoBulkAll spare + 1
  | .agg parts => uptoBulkAll parts + 1
  | .iface _ d => uptoBulk d + 1
  | .map entries => uptoBulkEntries entries + 1
  | .held _ => 1
def uptoBulkAll {H : Type} : List (DataW H) → Nat
  | [] => 0
  | d :: r => uptoBulk d + uptoBulkAll r
def uptoBulkEntries {H : Type} : List (Lit × DataW H) → Nat
  | [] => 0
  | x :: r => uptoBulkEntry x + uptoBulkEntries r
def uptoBulkEntry {H : Type} : Lit × DataW H → Nat
  | (.string bytes, d) => bytes.length + uptoBulk d + 1
  | (_, d) => uptoBulk d + 1
 end
def uptoSmall : (H : Type) → List (DataW H) → Bool := fun _ ds => decide (uptoBulkAll ds ≤ 1048576)
def OpenSpec.upto (s : _root_.Go.ChangeSpec) : _root_.Go.OpenSpec := { _root_.Go.OpenSpec.ofChange s with cond := some uptoSmall }

/-- 'weirgatelaw40.PlanChecksAsSpecified', WHERE WHAT IT READS IS OF BULK AT MOST 1048576: true; the input reads as it did. -/
def planChecksAsSpecifiedUptoRow : OpenClaim := { program := "ytemlboicdekgbaa", sum := "1693a916c689054ccc9a4837ec25b501c901dde0254fee3758a329ad6ef80e6a", func := "weirgate/weirgatelaw40.PlanChecksAsSpecified", spec := "planChecksAsSpecified", unfollowed := true, recurses := true, plainKeys := false, apart := false, narrowed := true }
def PlanChecksAsSpecifiedUptoSaid : Prop := planChecksAsSpecifiedUptoRow.holds Try.pinned (OpenSpec.upto planChecksAsSpecifiedSpec)

/-- 'weirgatelaw40.PlanReadsPlansAsSpecified', WHERE WHAT IT READS IS OF BULK AT MOST 1048576: true; the input reads as it did. -/
def planReadsPlansAsSpecifiedUptoRow : OpenClaim := { program := "ytemlboicdekgbaa", sum := "1693a916c689054ccc9a4837ec25b501c901dde0254fee3758a329ad6ef80e6a", func := "weirgate/weirgatelaw40.PlanReadsPlansAsSpecified", spec := "planReadsPlansAsSpecified", unfollowed := true, recurses := true, plainKeys := false, apart := false, narrowed := true }
def PlanReadsPlansAsSpecifiedUptoSaid : Prop := planReadsPlansAsSpecifiedUptoRow.holds Try.pinned (OpenSpec.upto planReadsPlansAsSpecifiedSpec)

/-- 'weirgatelaw40.PlanKeepsCapacities', WHERE WHAT IT READS IS OF BULK AT MOST 1048576: true; the input reads as it did. -/
def planKeepsCapacitiesUptoRow : OpenClaim := { program := "ytemlboicdekgbaa", sum := "1693a916c689054ccc9a4837ec25b501c901dde0254fee3758a329ad6ef80e6a", func := "weirgate/weirgatelaw40.PlanKeepsCapacities", spec := "planKeepsCapacities", unfollowed := true, recurses := true, plainKeys := false, apart := false, narrowed := true }
def PlanKeepsCapacitiesUptoSaid : Prop := planKeepsCapacitiesUptoRow.holds Try.pinned (OpenSpec.upto planKeepsCapacitiesSpec)

/-- 'weirgatelaw40.PlanRoutesRequests', WHERE WHAT IT READS IS OF BULK AT MOST 1048576: true; the input reads as it did. -/
def planRoutesRequestsUptoRow : OpenClaim := { program := "ytemlboicdekgbaa", sum := "1693a916c689054ccc9a4837ec25b501c901dde0254fee3758a329ad6ef80e6a", func := "weirgate/weirgatelaw40.PlanRoutesRequests", spec := "planRoutesRequests", unfollowed := true, recurses := true, plainKeys := false, apart := false, narrowed := true }
def PlanRoutesRequestsUptoSaid : Prop := planRoutesRequestsUptoRow.holds Try.pinned (OpenSpec.upto planRoutesRequestsSpec)

/-- 'weirgatelaw40.PlanMayChange', WHERE WHAT IT READS IS OF BULK AT MOST 1048576: true; the input reads as it did. -/
def planMayChangeUptoRow : OpenClaim := { program := "ytemlboicdekgbaa", sum := "1693a916c689054ccc9a4837ec25b501c901dde0254fee3758a329ad6ef80e6a", func := "weirgate/weirgatelaw40.PlanMayChange", spec := "planMayChange", unfollowed := true, recurses := true, plainKeys := false, apart := false, narrowed := true }
def PlanMayChangeUptoSaid : Prop := planMayChangeUptoRow.holds Try.pinned (OpenSpec.upto planMayChangeSpec)

/-- 'weirgatelaw40.PlanMeetsAsSpecified', WHERE WHAT IT READS IS OF BULK AT MOST 1048576: true; the input reads as it did. -/
def planMeetsAsSpecifiedUptoRow : OpenClaim := { program := "ytemlboicdekgbaa", sum := "1693a916c689054ccc9a4837ec25b501c901dde0254fee3758a329ad6ef80e6a", func := "weirgate/weirgatelaw40.PlanMeetsAsSpecified", spec := "planMeetsAsSpecified", unfollowed := true, recurses := true, plainKeys := false, apart := false, narrowed := true }
def PlanMeetsAsSpecifiedUptoSaid : Prop := planMeetsAsSpecifiedUptoRow.holds Try.pinned (OpenSpec.upto planMeetsAsSpecifiedSpec)

/-- 'weirgatelaw40.PlanIsMade', WHERE WHAT IT READS IS OF BULK AT MOST 1048576: true; the input reads as it did. -/
def planIsMadeUptoRow : OpenClaim := { program := "ytemlboicdekgbaa", sum := "1693a916c689054ccc9a4837ec25b501c901dde0254fee3758a329ad6ef80e6a", func := "weirgate/weirgatelaw40.PlanIsMade", spec := "planIsMade", unfollowed := true, recurses := true, plainKeys := false, apart := false, narrowed := true }
def PlanIsMadeUptoSaid : Prop := planIsMadeUptoRow.holds Try.pinned (OpenSpec.upto planIsMadeSpec)

end Rows
end Go.Proofs.Ytemlboicdekgbaa
