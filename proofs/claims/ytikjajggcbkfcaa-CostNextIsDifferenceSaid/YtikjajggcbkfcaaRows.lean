/-
  No cell of these rows narrows 'for every input' (looked for: loops, veiled, ifaces, maps, wideKeys, modest, calm, conditions, laid).
  DERIVED. THE GIVEN ROWS OF THIS SEAT. 6 by the template 'for every input the law returns true; each argument reads behind the call as it read before'; 0 by the template 'total and deterministic' (their statements: YtikjajggcbkfcaaTotals.lean).
  GIVEN WITH THE SEED: the statements are not yours to turn. If you find one false, say at which input.
  Laid BY PROGRAM, IN A SANDBOX (cutbox-rows.mjs): the forced cells as the released guide's own fill.sh prints them over the translation 53f6991233b70076… (all of the seat's roots in one cut). By AI agents, Wed Nov 11 2026. No macro, syntax, notation, axiom, sorry.
-/
import Derived.Test.YtikjajggcbkfcaaChecked
import GoSem.Claim
import GoSem.ClaimJoined
import GoSem.ClaimMapViews
import Derived.JoinedTies
import Derived.KernelRfl
namespace Go.Proofs.Ytikjajggcbkfcaa
/- THE CELL 'sum', in the pinned program and in every row, IS THE sha256 OF THE DUMP (.gsa) THAT YtikjajggcbkfcaaProg.lean LOADS. Nothing in Lean hashes anything: it is a label: what it is worth is what the hold of that sum in a sandbox is worth. -/
noncomputable def Try.pinned : Pinned := { name := "ytikjajggcbkfcaa", sum := "53f6991233b700760ee1ddaca5ebc1b8b1ef08e2dfc7d086cec109b29becf658", checked := Try.checked }
namespace Rows
def none {H : Type} : Left H := { results := [], args := [] }

/-- 'weirgatelaw11.CostChecksMatchSpec': WHATEVER THE INPUT: true; the input reads as it did. -/
def costChecksMatchSpecSpec : ChangeSpec := { name := "costChecksMatchSpec", fn := fun _ => fun
  | [d1, d2, d3, d4] => { results := [.lit (.bool true)], args := [d1, d2, d3, d4] }
  | _ => none }
def costChecksMatchSpecRow : OpenClaim := { program := "ytikjajggcbkfcaa", sum := "53f6991233b700760ee1ddaca5ebc1b8b1ef08e2dfc7d086cec109b29becf658", func := "weirgate/weirgatelaw11.CostChecksMatchSpec", spec := "costChecksMatchSpec", unfollowed := true, recurses := true, apart := false }
def CostChecksMatchSpecSaid : Prop := costChecksMatchSpecRow.holds Try.pinned (OpenSpec.ofChange costChecksMatchSpecSpec)

/-- ITS FALSE NEIGHBOUR: 'it returns false'. Refute it at one input. -/
def costChecksMatchSpecWrong : ChangeSpec := { name := "costChecksMatchSpec", fn := fun _ => fun
  | [d1, d2, d3, d4] => { results := [.lit (.bool false)], args := [d1, d2, d3, d4] }
  | _ => none }
def CostChecksMatchSpecWrongFalsely : Prop := costChecksMatchSpecRow.holds Try.pinned (OpenSpec.ofChange costChecksMatchSpecWrong)

/-- 'weirgatelaw11.CostSendsCheapest': WHATEVER THE INPUT: true; the input reads as it did. -/
def costSendsCheapestSpec : ChangeSpec := { name := "costSendsCheapest", fn := fun _ => fun
  | [d1, d2, d3, d4] => { results := [.lit (.bool true)], args := [d1, d2, d3, d4] }
  | _ => none }
def costSendsCheapestRow : OpenClaim := { program := "ytikjajggcbkfcaa", sum := "53f6991233b700760ee1ddaca5ebc1b8b1ef08e2dfc7d086cec109b29becf658", func := "weirgate/weirgatelaw11.CostSendsCheapest", spec := "costSendsCheapest", unfollowed := true, recurses := true, apart := false }
def CostSendsCheapestSaid : Prop := costSendsCheapestRow.holds Try.pinned (OpenSpec.ofChange costSendsCheapestSpec)

/-- ITS FALSE NEIGHBOUR: 'it returns false'. Refute it at one input. -/
def costSendsCheapestWrong : ChangeSpec := { name := "costSendsCheapest", fn := fun _ => fun
  | [d1, d2, d3, d4] => { results := [.lit (.bool false)], args := [d1, d2, d3, d4] }
  | _ => none }
def CostSendsCheapestWrongFalsely : Prop := costSendsCheapestRow.holds Try.pinned (OpenSpec.ofChange costSendsCheapestWrong)

/-- 'weirgatelaw11.CostAcceptsAsSpecified': WHATEVER THE INPUT: true; the input reads as it did. -/
def costAcceptsAsSpecifiedSpec : ChangeSpec := { name := "costAcceptsAsSpecified", fn := fun _ => fun
  | [d1, d2, d3, d4, d5] => { results := [.lit (.bool true)], args := [d1, d2, d3, d4, d5] }
  | _ => none }
def costAcceptsAsSpecifiedRow : OpenClaim := { program := "ytikjajggcbkfcaa", sum := "53f6991233b700760ee1ddaca5ebc1b8b1ef08e2dfc7d086cec109b29becf658", func := "weirgate/weirgatelaw11.CostAcceptsAsSpecified", spec := "costAcceptsAsSpecified", unfollowed := true, recurses := true, apart := false }
def CostAcceptsAsSpecifiedSaid : Prop := costAcceptsAsSpecifiedRow.holds Try.pinned (OpenSpec.ofChange costAcceptsAsSpecifiedSpec)

/-- ITS FALSE NEIGHBOUR: 'it returns false'. Refute it at one input. -/
def costAcceptsAsSpecifiedWrong : ChangeSpec := { name := "costAcceptsAsSpecified", fn := fun _ => fun
  | [d1, d2, d3, d4, d5] => { results := [.lit (.bool false)], args := [d1, d2, d3, d4, d5] }
  | _ => none }
def CostAcceptsAsSpecifiedWrongFalsely : Prop := costAcceptsAsSpecifiedRow.holds Try.pinned (OpenSpec.ofChange costAcceptsAsSpecifiedWrong)

/-- 'weirgatelaw11.CostNextIsDifference': WHATEVER THE INPUT: true; the input reads as it did. -/
def costNextIsDifferenceSpec : ChangeSpec := { name := "costNextIsDifference", fn := fun _ => fun
  | [d1, d2, d3, d4] => { results := [.lit (.bool true)], args := [d1, d2, d3, d4] }
  | _ => none }
def costNextIsDifferenceRow : OpenClaim := { program := "ytikjajggcbkfcaa", sum := "53f6991233b700760ee1ddaca5ebc1b8b1ef08e2dfc7d086cec109b29becf658", func := "weirgate/weirgatelaw11.CostNextIsDifference", spec := "costNextIsDifference", unfollowed := true, recurses := true, apart := false }
def CostNextIsDifferenceSaid : Prop := costNextIsDifferenceRow.holds Try.pinned (OpenSpec.ofChange costNextIsDifferenceSpec)

/-- ITS FALSE NEIGHBOUR: 'it returns false'. Refute it at one input. -/
def costNextIsDifferenceWrong : ChangeSpec := { name := "costNextIsDifference", fn := fun _ => fun
  | [d1, d2, d3, d4] => { results := [.lit (.bool false)], args := [d1, d2, d3, d4] }
  | _ => none }
def CostNextIsDifferenceWrongFalsely : Prop := costNextIsDifferenceRow.holds Try.pinned (OpenSpec.ofChange costNextIsDifferenceWrong)

/-- 'weirgatelaw11.CostProofsBound': WHATEVER THE INPUT: true; the input reads as it did. -/
def costProofsBoundSpec : ChangeSpec := { name := "costProofsBound", fn := fun _ => fun
  | [d1, d2, d3, d4, d5, d6] => { results := [.lit (.bool true)], args := [d1, d2, d3, d4, d5, d6] }
  | _ => none }
def costProofsBoundRow : OpenClaim := { program := "ytikjajggcbkfcaa", sum := "53f6991233b700760ee1ddaca5ebc1b8b1ef08e2dfc7d086cec109b29becf658", func := "weirgate/weirgatelaw11.CostProofsBound", spec := "costProofsBound", unfollowed := true, recurses := true, apart := false }
def CostProofsBoundSaid : Prop := costProofsBoundRow.holds Try.pinned (OpenSpec.ofChange costProofsBoundSpec)

/-- ITS FALSE NEIGHBOUR: 'it returns false'. Refute it at one input. -/
def costProofsBoundWrong : ChangeSpec := { name := "costProofsBound", fn := fun _ => fun
  | [d1, d2, d3, d4, d5, d6] => { results := [.lit (.bool false)], args := [d1, d2, d3, d4, d5, d6] }
  | _ => none }
def CostProofsBoundWrongFalsely : Prop := costProofsBoundRow.holds Try.pinned (OpenSpec.ofChange costProofsBoundWrong)

/-- 'weirgatelaw11.CostFallsWithCapacity': WHATEVER THE INPUT: true; the input reads as it did. -/
def costFallsWithCapacitySpec : ChangeSpec := { name := "costFallsWithCapacity", fn := fun _ => fun
  | [d1, d2, d3, d4, d5, d6, d7] => { results := [.lit (.bool true)], args := [d1, d2, d3, d4, d5, d6, d7] }
  | _ => none }
def costFallsWithCapacityRow : OpenClaim := { program := "ytikjajggcbkfcaa", sum := "53f6991233b700760ee1ddaca5ebc1b8b1ef08e2dfc7d086cec109b29becf658", func := "weirgate/weirgatelaw11.CostFallsWithCapacity", spec := "costFallsWithCapacity", unfollowed := true, recurses := true, apart := false }
def CostFallsWithCapacitySaid : Prop := costFallsWithCapacityRow.holds Try.pinned (OpenSpec.ofChange costFallsWithCapacitySpec)

/-- ITS FALSE NEIGHBOUR: 'it returns false'. Refute it at one input. -/
def costFallsWithCapacityWrong : ChangeSpec := { name := "costFallsWithCapacity", fn := fun _ => fun
  | [d1, d2, d3, d4, d5, d6, d7] => { results := [.lit (.bool false)], args := [d1, d2, d3, d4, d5, d6, d7] }
  | _ => none }
def CostFallsWithCapacityWrongFalsely : Prop := costFallsWithCapacityRow.holds Try.pinned (OpenSpec.ofChange costFallsWithCapacityWrong)

/- THE SECOND FORM. 'bulk': how many values and letters a reading holds, each counted each time it is reached (what is shared counts as often as it is met; a slice's spare places count too). A statement '..UptoSaid' is the law's where the arguments, and the package variables that the reading takes, are together of bulk at most 1048576: NARROWER than '..Said'. Prove '..Said' where nothing that the law and all that it calls make is longer than what came in: it says more and counts as full. Else prove '..UptoSaid'. A law counts once. -/
mutual
def uptoBulk {H : Type} : DataW H → Nat
  | .lit (.string bytes) => bytes.length + 1
  | .lit _ => 1
  | .nil => 1
  | .ptr d => uptoBulk d + 1
  | .slice elems spare => uptoBulkAll elems + uptoBulkAll spare + 1
  | .agg parts => uptoBulkAll parts + 1
  | .iface _ d => uptoBulk d + 1
  | .map entries => uptoBulkEntries entries + 1
  | .held _ => 1
def uptoBulkAll {H : Type} : List (DataW H) → Nat
  | [] => 0
  | d :: r => uptoBulk d + uptoBulkAll r
def uptoBulkEntries {H : Type} : List (Lit × DataW H) → Nat
  | [] => 0
  | x :: r => uptoBulkEntry x + uptoBulkEntries r
def uptoBulkEntry {H : Type} : Lit × DataW H → Nat
  | (.string bytes, d) => bytes.length + uptoBulk d + 1
  | (_, d) => uptoBulk d + 1
 end
def uptoSmall : (H : Type) → List (DataW H) → Bool := fun _ ds => decide (uptoBulkAll ds ≤ 1048576)
def OpenSpec.upto (s : _root_.Go.ChangeSpec) : _root_.Go.OpenSpec := { _root_.Go.OpenSpec.ofChange s with cond := some uptoSmall }

/-- 'weirgatelaw11.CostChecksMatchSpec', WHERE WHAT IT READS IS OF BULK AT MOST 1048576: true; the input reads as it did. -/
def costChecksMatchSpecUptoRow : OpenClaim := { program := "ytikjajggcbkfcaa", sum := "53f6991233b700760ee1ddaca5ebc1b8b1ef08e2dfc7d086cec109b29becf658", func := "weirgate/weirgatelaw11.CostChecksMatchSpec", spec := "costChecksMatchSpec", unfollowed := true, recurses := true, apart := false, narrowed := true }
def CostChecksMatchSpecUptoSaid : Prop := costChecksMatchSpecUptoRow.holds Try.pinned (OpenSpec.upto costChecksMatchSpecSpec)

/-- 'weirgatelaw11.CostSendsCheapest', WHERE WHAT IT READS IS OF BULK AT MOST 1048576: true; the input reads as it did. -/
def costSendsCheapestUptoRow : OpenClaim := { program := "ytikjajggcbkfcaa", sum := "53f6991233b700760ee1ddaca5ebc1b8b1ef08e2dfc7d086cec109b29becf658", func := "weirgate/weirgatelaw11.CostSendsCheapest", spec := "costSendsCheapest", unfollowed := true, recurses := true, apart := false, narrowed := true }
def CostSendsCheapestUptoSaid : Prop := costSendsCheapestUptoRow.holds Try.pinned (OpenSpec.upto costSendsCheapestSpec)

/-- 'weirgatelaw11.CostAcceptsAsSpecified', WHERE WHAT IT READS IS OF BULK AT MOST 1048576: true; the input reads as it did. -/
def costAcceptsAsSpecifiedUptoRow : OpenClaim := { program := "ytikjajggcbkfcaa", sum := "53f6991233b700760ee1ddaca5ebc1b8b1ef08e2dfc7d086cec109b29becf658", func := "weirgate/weirgatelaw11.CostAcceptsAsSpecified", spec := "costAcceptsAsSpecified", unfollowed := true, recurses := true, apart := false, narrowed := true }
def CostAcceptsAsSpecifiedUptoSaid : Prop := costAcceptsAsSpecifiedUptoRow.holds Try.pinned (OpenSpec.upto costAcceptsAsSpecifiedSpec)

/-- 'weirgatelaw11.CostNextIsDifference', WHERE WHAT IT READS IS OF BULK AT MOST 1048576: true; the input reads as it did. -/
def costNextIsDifferenceUptoRow : OpenClaim := { program := "ytikjajggcbkfcaa", sum := "53f6991233b700760ee1ddaca5ebc1b8b1ef08e2dfc7d086cec109b29becf658", func := "weirgate/weirgatelaw11.CostNextIsDifference", spec := "costNextIsDifference", unfollowed := true, recurses := true, apart := false, narrowed := true }
def CostNextIsDifferenceUptoSaid : Prop := costNextIsDifferenceUptoRow.holds Try.pinned (OpenSpec.upto costNextIsDifferenceSpec)

/-- 'weirgatelaw11.CostProofsBound', WHERE WHAT IT READS IS OF BULK AT MOST 1048576: true; the input reads as it did. -/
def costProofsBoundUptoRow : OpenClaim := { program := "ytikjajggcbkfcaa", sum := "53f6991233b700760ee1ddaca5ebc1b8b1ef08e2dfc7d086cec109b29becf658", func := "weirgate/weirgatelaw11.CostProofsBound", spec := "costProofsBound", unfollowed := true, recurses := true, apart := false, narrowed := true }
def CostProofsBoundUptoSaid : Prop := costProofsBoundUptoRow.holds Try.pinned (OpenSpec.upto costProofsBoundSpec)

/-- 'weirgatelaw11.CostFallsWithCapacity', WHERE WHAT IT READS IS OF BULK AT MOST 1048576: true; the input reads as it did. -/
def costFallsWithCapacityUptoRow : OpenClaim := { program := "ytikjajggcbkfcaa", sum := "53f6991233b700760ee1ddaca5ebc1b8b1ef08e2dfc7d086cec109b29becf658", func := "weirgate/weirgatelaw11.CostFallsWithCapacity", spec := "costFallsWithCapacity", unfollowed := true, recurses := true, apart := false, narrowed := true }
def CostFallsWithCapacityUptoSaid : Prop := costFallsWithCapacityUptoRow.holds Try.pinned (OpenSpec.upto costFallsWithCapacitySpec)

end Rows
end Go.Proofs.Ytikjajggcbkfcaa
