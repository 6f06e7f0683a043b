/-
  No cell of these rows narrows 'for every input' (looked for: loops, veiled, ifaces, maps, wideKeys, modest, calm, conditions, laid).
  DERIVED. THE GIVEN ROWS OF THIS SEAT. 6 by the template 'for every input the law returns true; each argument reads behind the call as it read before'; 0 by the template 'total and deterministic' (their statements: YtmddpcjkpbjkeaaTotals.lean).
  GIVEN WITH THE SEED: the statements are not yours to turn. If you find one false, say at which input.
  Laid BY PROGRAM, IN A SANDBOX (cutbox-rows.mjs): the forced cells as the released guide's own fill.sh prints them over the translation b8c9e07a64a83496… (all of the seat's roots in one cut). By AI agents, Wed Nov 11 2026. No macro, syntax, notation, axiom, sorry.
-/
import Derived.Test.YtmddpcjkpbjkeaaChecked
import GoSem.Claim
import GoSem.ClaimJoined
import GoSem.ClaimMapViews
import Derived.JoinedTies
import Derived.KernelRfl
namespace Go.Proofs.Ytmddpcjkpbjkeaa
/- THE CELL 'sum', in the pinned program and in every row, IS THE sha256 OF THE DUMP (.gsa) THAT YtmddpcjkpbjkeaaProg.lean LOADS. Nothing in Lean hashes anything: it is a label: what it is worth is what the hold of that sum in a sandbox is worth. -/
noncomputable def Try.pinned : Pinned := { name := "ytmddpcjkpbjkeaa", sum := "b8c9e07a64a83496132287d7172e99b0f3bf3b7813d37e3382371ff10b36fa48", checked := Try.checked }
namespace Rows
def none {H : Type} : Left H := { results := [], args := [] }

/-- 'weirgatelaw10.FlowIsMostAsSpecified': WHATEVER THE INPUT: true; the input reads as it did. -/
def flowIsMostAsSpecifiedSpec : ChangeSpec := { name := "flowIsMostAsSpecified", fn := fun _ => fun
  | [d1, d2, d3] => { results := [.lit (.bool true)], args := [d1, d2, d3] }
  | _ => none }
def flowIsMostAsSpecifiedRow : OpenClaim := { program := "ytmddpcjkpbjkeaa", sum := "b8c9e07a64a83496132287d7172e99b0f3bf3b7813d37e3382371ff10b36fa48", func := "weirgate/weirgatelaw10.FlowIsMostAsSpecified", spec := "flowIsMostAsSpecified", unfollowed := true, recurses := true, apart := false }
def FlowIsMostAsSpecifiedSaid : Prop := flowIsMostAsSpecifiedRow.holds Try.pinned (OpenSpec.ofChange flowIsMostAsSpecifiedSpec)

/-- ITS FALSE NEIGHBOUR: 'it returns false'. Refute it at one input. -/
def flowIsMostAsSpecifiedWrong : ChangeSpec := { name := "flowIsMostAsSpecified", fn := fun _ => fun
  | [d1, d2, d3] => { results := [.lit (.bool false)], args := [d1, d2, d3] }
  | _ => none }
def FlowIsMostAsSpecifiedWrongFalsely : Prop := flowIsMostAsSpecifiedRow.holds Try.pinned (OpenSpec.ofChange flowIsMostAsSpecifiedWrong)

/-- 'weirgatelaw10.FlowIsProved': WHATEVER THE INPUT: true; the input reads as it did. -/
def flowIsProvedSpec : ChangeSpec := { name := "flowIsProved", fn := fun _ => fun
  | [d1, d2, d3, d4, d5] => { results := [.lit (.bool true)], args := [d1, d2, d3, d4, d5] }
  | _ => none }
def flowIsProvedRow : OpenClaim := { program := "ytmddpcjkpbjkeaa", sum := "b8c9e07a64a83496132287d7172e99b0f3bf3b7813d37e3382371ff10b36fa48", func := "weirgate/weirgatelaw10.FlowIsProved", spec := "flowIsProved", unfollowed := true, recurses := true, apart := false }
def FlowIsProvedSaid : Prop := flowIsProvedRow.holds Try.pinned (OpenSpec.ofChange flowIsProvedSpec)

/-- ITS FALSE NEIGHBOUR: 'it returns false'. Refute it at one input. -/
def flowIsProvedWrong : ChangeSpec := { name := "flowIsProved", fn := fun _ => fun
  | [d1, d2, d3, d4, d5] => { results := [.lit (.bool false)], args := [d1, d2, d3, d4, d5] }
  | _ => none }
def FlowIsProvedWrongFalsely : Prop := flowIsProvedRow.holds Try.pinned (OpenSpec.ofChange flowIsProvedWrong)

/-- 'weirgatelaw10.FlowServesAsSpecified': WHATEVER THE INPUT: true; the input reads as it did. -/
def flowServesAsSpecifiedSpec : ChangeSpec := { name := "flowServesAsSpecified", fn := fun _ => fun
  | [d1, d2] => { results := [.lit (.bool true)], args := [d1, d2] }
  | _ => none }
def flowServesAsSpecifiedRow : OpenClaim := { program := "ytmddpcjkpbjkeaa", sum := "b8c9e07a64a83496132287d7172e99b0f3bf3b7813d37e3382371ff10b36fa48", func := "weirgate/weirgatelaw10.FlowServesAsSpecified", spec := "flowServesAsSpecified", unfollowed := true, recurses := true, apart := false }
def FlowServesAsSpecifiedSaid : Prop := flowServesAsSpecifiedRow.holds Try.pinned (OpenSpec.ofChange flowServesAsSpecifiedSpec)

/-- ITS FALSE NEIGHBOUR: 'it returns false'. Refute it at one input. -/
def flowServesAsSpecifiedWrong : ChangeSpec := { name := "flowServesAsSpecified", fn := fun _ => fun
  | [d1, d2] => { results := [.lit (.bool false)], args := [d1, d2] }
  | _ => none }
def FlowServesAsSpecifiedWrongFalsely : Prop := flowServesAsSpecifiedRow.holds Try.pinned (OpenSpec.ofChange flowServesAsSpecifiedWrong)

/-- 'weirgatelaw10.FlowServesOrTellsWhy': WHATEVER THE INPUT: true; the input reads as it did. -/
def flowServesOrTellsWhySpec : ChangeSpec := { name := "flowServesOrTellsWhy", fn := fun _ => fun
  | [d1, d2, d3] => { results := [.lit (.bool true)], args := [d1, d2, d3] }
  | _ => none }
def flowServesOrTellsWhyRow : OpenClaim := { program := "ytmddpcjkpbjkeaa", sum := "b8c9e07a64a83496132287d7172e99b0f3bf3b7813d37e3382371ff10b36fa48", func := "weirgate/weirgatelaw10.FlowServesOrTellsWhy", spec := "flowServesOrTellsWhy", unfollowed := true, recurses := true, apart := false }
def FlowServesOrTellsWhySaid : Prop := flowServesOrTellsWhyRow.holds Try.pinned (OpenSpec.ofChange flowServesOrTellsWhySpec)

/-- ITS FALSE NEIGHBOUR: 'it returns false'. Refute it at one input. -/
def flowServesOrTellsWhyWrong : ChangeSpec := { name := "flowServesOrTellsWhy", fn := fun _ => fun
  | [d1, d2, d3] => { results := [.lit (.bool false)], args := [d1, d2, d3] }
  | _ => none }
def FlowServesOrTellsWhyWrongFalsely : Prop := flowServesOrTellsWhyRow.holds Try.pinned (OpenSpec.ofChange flowServesOrTellsWhyWrong)

/-- 'weirgatelaw10.FlowDividesAsSpecified': WHATEVER THE INPUT: true; the input reads as it did. -/
def flowDividesAsSpecifiedSpec : ChangeSpec := { name := "flowDividesAsSpecified", fn := fun _ => fun
  | [d1, d2, d3, d4] => { results := [.lit (.bool true)], args := [d1, d2, d3, d4] }
  | _ => none }
def flowDividesAsSpecifiedRow : OpenClaim := { program := "ytmddpcjkpbjkeaa", sum := "b8c9e07a64a83496132287d7172e99b0f3bf3b7813d37e3382371ff10b36fa48", func := "weirgate/weirgatelaw10.FlowDividesAsSpecified", spec := "flowDividesAsSpecified", unfollowed := true, recurses := true, apart := false }
def FlowDividesAsSpecifiedSaid : Prop := flowDividesAsSpecifiedRow.holds Try.pinned (OpenSpec.ofChange flowDividesAsSpecifiedSpec)

/-- ITS FALSE NEIGHBOUR: 'it returns false'. Refute it at one input. -/
def flowDividesAsSpecifiedWrong : ChangeSpec := { name := "flowDividesAsSpecified", fn := fun _ => fun
  | [d1, d2, d3, d4] => { results := [.lit (.bool false)], args := [d1, d2, d3, d4] }
  | _ => none }
def FlowDividesAsSpecifiedWrongFalsely : Prop := flowDividesAsSpecifiedRow.holds Try.pinned (OpenSpec.ofChange flowDividesAsSpecifiedWrong)

/-- 'weirgatelaw10.FlowChecksAsSpecified': WHATEVER THE INPUT: true; the input reads as it did. -/
def flowChecksAsSpecifiedSpec : ChangeSpec := { name := "flowChecksAsSpecified", fn := fun _ => fun
  | [d1, d2, d3, d4, d5] => { results := [.lit (.bool true)], args := [d1, d2, d3, d4, d5] }
  | _ => none }
def flowChecksAsSpecifiedRow : OpenClaim := { program := "ytmddpcjkpbjkeaa", sum := "b8c9e07a64a83496132287d7172e99b0f3bf3b7813d37e3382371ff10b36fa48", func := "weirgate/weirgatelaw10.FlowChecksAsSpecified", spec := "flowChecksAsSpecified", unfollowed := true, recurses := true, apart := false }
def FlowChecksAsSpecifiedSaid : Prop := flowChecksAsSpecifiedRow.holds Try.pinned (OpenSpec.ofChange flowChecksAsSpecifiedSpec)

/-- ITS FALSE NEIGHBOUR: 'it returns false'. Refute it at one input. -/
def flowChecksAsSpecifiedWrong : ChangeSpec := { name := "flowChecksAsSpecified", fn := fun _ => fun
  | [d1, d2, d3, d4, d5] => { results := [.lit (.bool false)], args := [d1, d2, d3, d4, d5] }
  | _ => none }
def FlowChecksAsSpecifiedWrongFalsely : Prop := flowChecksAsSpecifiedRow.holds Try.pinned (OpenSpec.ofChange flowChecksAsSpecifiedWrong)

/- THE SECOND FORM. 'bulk': how many values and letters a reading holds, each counted each time it is reached (what is shared counts as often as it is met; a slice's spare places count too). A statement '..UptoSaid' is the law's where the arguments, and the package variables that the reading takes, are together of bulk at most 1048576: NARROWER than '..Said'. Prove '..Said' where nothing that the law and all that it calls make is longer than what came in: it says more and counts as full. Else prove '..UptoSaid'. A law counts once. -/
mutual
def uptoBulk {H : Type} : DataW H → Nat
  | .lit (.string bytes) => bytes.length + 1
  | .lit _ => 1
  | .nil => 1
  | .ptr d => uptoBulk d + 1
  | .slice elems spare => uptoBulkAll elems + uptoBulkAll spare + 1
  | .agg parts => uptoBulkAll parts + 1
  | .iface _ d => uptoBulk d + 1
  | .map entries => uptoBulkEntries entries + 1
  | .held _ => 1
def uptoBulkAll {H : Type} : List (DataW H) → Nat
  | [] => 0
  | d :: r => uptoBulk d + uptoBulkAll r
def uptoBulkEntries {H : Type} : List (Lit × DataW H) → Nat
  | [] => 0
  | x :: r => uptoBulkEntry x + uptoBulkEntries r
def uptoBulkEntry {H : Type} : Lit × DataW H → Nat
  | (.string bytes, d) => bytes.length + uptoBulk d + 1
  | (_, d) => uptoBulk d + 1
 end
def uptoSmall : (H : Type) → List (DataW H) → Bool := fun _ ds => decide (uptoBulkAll ds ≤ 1048576)
def OpenSpec.upto (s : _root_.Go.ChangeSpec) : _root_.Go.OpenSpec := { _root_.Go.OpenSpec.ofChange s with cond := some uptoSmall }

/-- 'weirgatelaw10.FlowIsMostAsSpecified', WHERE WHAT IT READS IS OF BULK AT MOST 1048576: true; the input reads as it did. -/
def flowIsMostAsSpecifiedUptoRow : OpenClaim := { program := "ytmddpcjkpbjkeaa", sum := "b8c9e07a64a83496132287d7172e99b0f3bf3b7813d37e3382371ff10b36fa48", func := "weirgate/weirgatelaw10.FlowIsMostAsSpecified", spec := "flowIsMostAsSpecified", unfollowed := true, recurses := true, apart := false, narrowed := true }
def FlowIsMostAsSpecifiedUptoSaid : Prop := flowIsMostAsSpecifiedUptoRow.holds Try.pinned (OpenSpec.upto flowIsMostAsSpecifiedSpec)

/-- 'weirgatelaw10.FlowIsProved', WHERE WHAT IT READS IS OF BULK AT MOST 1048576: true; the input reads as it did. -/
def flowIsProvedUptoRow : OpenClaim := { program := "ytmddpcjkpbjkeaa", sum := "b8c9e07a64a83496132287d7172e99b0f3bf3b7813d37e3382371ff10b36fa48", func := "weirgate/weirgatelaw10.FlowIsProved", spec := "flowIsProved", unfollowed := true, recurses := true, apart := false, narrowed := true }
def FlowIsProvedUptoSaid : Prop := flowIsProvedUptoRow.holds Try.pinned (OpenSpec.upto flowIsProvedSpec)

/-- 'weirgatelaw10.FlowServesAsSpecified', WHERE WHAT IT READS IS OF BULK AT MOST 1048576: true; the input reads as it did. -/
def flowServesAsSpecifiedUptoRow : OpenClaim := { program := "ytmddpcjkpbjkeaa", sum := "b8c9e07a64a83496132287d7172e99b0f3bf3b7813d37e3382371ff10b36fa48", func := "weirgate/weirgatelaw10.FlowServesAsSpecified", spec := "flowServesAsSpecified", unfollowed := true, recurses := true, apart := false, narrowed := true }
def FlowServesAsSpecifiedUptoSaid : Prop := flowServesAsSpecifiedUptoRow.holds Try.pinned (OpenSpec.upto flowServesAsSpecifiedSpec)

/-- 'weirgatelaw10.FlowServesOrTellsWhy', WHERE WHAT IT READS IS OF BULK AT MOST 1048576: true; the input reads as it did. -/
def flowServesOrTellsWhyUptoRow : OpenClaim := { program := "ytmddpcjkpbjkeaa", sum := "b8c9e07a64a83496132287d7172e99b0f3bf3b7813d37e3382371ff10b36fa48", func := "weirgate/weirgatelaw10.FlowServesOrTellsWhy", spec := "flowServesOrTellsWhy", unfollowed := true, recurses := true, apart := false, narrowed := true }
def FlowServesOrTellsWhyUptoSaid : Prop := flowServesOrTellsWhyUptoRow.holds Try.pinned (OpenSpec.upto flowServesOrTellsWhySpec)

/-- 'weirgatelaw10.FlowDividesAsSpecified', WHERE WHAT IT READS IS OF BULK AT MOST 1048576: true; the input reads as it did. -/
def flowDividesAsSpecifiedUptoRow : OpenClaim := { program := "ytmddpcjkpbjkeaa", sum := "b8c9e07a64a83496132287d7172e99b0f3bf3b7813d37e3382371ff10b36fa48", func := "weirgate/weirgatelaw10.FlowDividesAsSpecified", spec := "flowDividesAsSpecified", unfollowed := true, recurses := true, apart := false, narrowed := true }
def FlowDividesAsSpecifiedUptoSaid : Prop := flowDividesAsSpecifiedUptoRow.holds Try.pinned (OpenSpec.upto flowDividesAsSpecifiedSpec)

/-- 'weirgatelaw10.FlowChecksAsSpecified', WHERE WHAT IT READS IS OF BULK AT MOST 1048576: true; the input reads as it did. -/
def flowChecksAsSpecifiedUptoRow : OpenClaim := { program := "ytmddpcjkpbjkeaa", sum := "b8c9e07a64a83496132287d7172e99b0f3bf3b7813d37e3382371ff10b36fa48", func := "weirgate/weirgatelaw10.FlowChecksAsSpecified", spec := "flowChecksAsSpecified", unfollowed := true, recurses := true, apart := false, narrowed := true }
def FlowChecksAsSpecifiedUptoSaid : Prop := flowChecksAsSpecifiedUptoRow.holds Try.pinned (OpenSpec.upto flowChecksAsSpecifiedSpec)

end Rows
end Go.Proofs.Ytmddpcjkpbjkeaa
