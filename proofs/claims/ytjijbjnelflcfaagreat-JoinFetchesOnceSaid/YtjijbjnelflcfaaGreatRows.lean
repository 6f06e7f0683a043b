/-
  No cell of these rows narrows 'for every input' (looked for: loops, veiled, ifaces, maps, wideKeys, modest, calm, conditions, laid).
  DERIVED. THE GIVEN ROWS OF THIS SEAT. 5 by the template 'for every input the law returns true; each argument reads behind the call as it read before'; 0 by the template 'total and deterministic' (their statements: YtjijbjnelflcfaaGreatTotals.lean).
  GIVEN WITH THE SEED: the statements are not yours to turn. If you find one false, say at which input.
  Laid BY PROGRAM, IN A SANDBOX (cutbox-rows.mjs): the forced cells as the released guide's own fill.sh prints them over the translation e8bb84349acdb227… (all of the seat's roots in one cut). By AI agents, Wed Nov 11 2026. No macro, syntax, notation, axiom, sorry.
-/
import Derived.Test.YtjijbjnelflcfaaGreatChecked
import GoSem.Claim
import GoSem.ClaimJoined
import GoSem.ClaimMapViews
import Derived.JoinedTies
import Derived.KernelRfl
namespace Go.Proofs.YtjijbjnelflcfaaGreat
/- THE CELL 'sum', in the pinned program and in every row, IS THE sha256 OF THE DUMP (.gsa) THAT YtjijbjnelflcfaaGreatProg.lean LOADS. Nothing in Lean hashes anything: it is a label: what it is worth is what the hold of that sum in a sandbox is worth. -/
noncomputable def Tryz.pinned : Pinned := { name := "ytjijbjnelflcfaagreat", sum := "e8bb84349acdb22717b4c650bd7a9e78fc67bf7a28332f5055118ef000dc1a08", checked := Tryz.checked }
namespace Rows
def none {H : Type} : Left H := { results := [], args := [] }

/-- 'weirgatelaw38.JoinAsksAsSpecified': WHATEVER THE INPUT: true; the input reads as it did. -/
def joinAsksAsSpecifiedSpec : ChangeSpec := { name := "joinAsksAsSpecified", fn := fun _ => fun
  | [d1, d2, d3, d4] => { results := [.lit (.bool true)], args := [d1, d2, d3, d4] }
  | _ => none }
def joinAsksAsSpecifiedRow : OpenClaim := { program := "ytjijbjnelflcfaagreat", sum := "e8bb84349acdb22717b4c650bd7a9e78fc67bf7a28332f5055118ef000dc1a08", func := "weirgate/weirgatelaw38.JoinAsksAsSpecified", spec := "joinAsksAsSpecified", inPlace := ["slices.overlaps[weirgate/api.Miss]", "slices.overlaps[weirgate/api.Waiter]"], unfollowed := true, recurses := true, apart := false }
def JoinAsksAsSpecifiedSaid : Prop := joinAsksAsSpecifiedRow.holds Tryz.pinned (OpenSpec.ofChange joinAsksAsSpecifiedSpec)

/-- ITS FALSE NEIGHBOUR: 'it returns false'. Refute it at one input. -/
def joinAsksAsSpecifiedWrong : ChangeSpec := { name := "joinAsksAsSpecified", fn := fun _ => fun
  | [d1, d2, d3, d4] => { results := [.lit (.bool false)], args := [d1, d2, d3, d4] }
  | _ => none }
def JoinAsksAsSpecifiedWrongFalsely : Prop := joinAsksAsSpecifiedRow.holds Tryz.pinned (OpenSpec.ofChange joinAsksAsSpecifiedWrong)

/-- 'weirgatelaw38.JoinComesAsSpecified': WHATEVER THE INPUT: true; the input reads as it did. -/
def joinComesAsSpecifiedSpec : ChangeSpec := { name := "joinComesAsSpecified", fn := fun _ => fun
  | [d1, d2, d3, d4] => { results := [.lit (.bool true)], args := [d1, d2, d3, d4] }
  | _ => none }
def joinComesAsSpecifiedRow : OpenClaim := { program := "ytjijbjnelflcfaagreat", sum := "e8bb84349acdb22717b4c650bd7a9e78fc67bf7a28332f5055118ef000dc1a08", func := "weirgate/weirgatelaw38.JoinComesAsSpecified", spec := "joinComesAsSpecified", inPlace := ["slices.overlaps[weirgate/api.Miss]", "slices.overlaps[weirgate/api.Waiter]"], unfollowed := true, recurses := true, apart := false }
def JoinComesAsSpecifiedSaid : Prop := joinComesAsSpecifiedRow.holds Tryz.pinned (OpenSpec.ofChange joinComesAsSpecifiedSpec)

/-- ITS FALSE NEIGHBOUR: 'it returns false'. Refute it at one input. -/
def joinComesAsSpecifiedWrong : ChangeSpec := { name := "joinComesAsSpecified", fn := fun _ => fun
  | [d1, d2, d3, d4] => { results := [.lit (.bool false)], args := [d1, d2, d3, d4] }
  | _ => none }
def JoinComesAsSpecifiedWrongFalsely : Prop := joinComesAsSpecifiedRow.holds Tryz.pinned (OpenSpec.ofChange joinComesAsSpecifiedWrong)

/-- 'weirgatelaw38.JoinFetchesOnce': WHATEVER THE INPUT: true; the input reads as it did. -/
def joinFetchesOnceSpec : ChangeSpec := { name := "joinFetchesOnce", fn := fun _ => fun
  | [d1, d2] => { results := [.lit (.bool true)], args := [d1, d2] }
  | _ => none }
def joinFetchesOnceRow : OpenClaim := { program := "ytjijbjnelflcfaagreat", sum := "e8bb84349acdb22717b4c650bd7a9e78fc67bf7a28332f5055118ef000dc1a08", func := "weirgate/weirgatelaw38.JoinFetchesOnce", spec := "joinFetchesOnce", inPlace := ["slices.overlaps[weirgate/api.Miss]", "slices.overlaps[weirgate/api.Waiter]"], unfollowed := true, recurses := true, apart := false }
def JoinFetchesOnceSaid : Prop := joinFetchesOnceRow.holds Tryz.pinned (OpenSpec.ofChange joinFetchesOnceSpec)

/-- ITS FALSE NEIGHBOUR: 'it returns false'. Refute it at one input. -/
def joinFetchesOnceWrong : ChangeSpec := { name := "joinFetchesOnce", fn := fun _ => fun
  | [d1, d2] => { results := [.lit (.bool false)], args := [d1, d2] }
  | _ => none }
def JoinFetchesOnceWrongFalsely : Prop := joinFetchesOnceRow.holds Tryz.pinned (OpenSpec.ofChange joinFetchesOnceWrong)

/-- 'weirgatelaw38.JoinLeavesOthersAlone': WHATEVER THE INPUT: true; the input reads as it did. -/
def joinLeavesOthersAloneSpec : ChangeSpec := { name := "joinLeavesOthersAlone", fn := fun _ => fun
  | [d1, d2, d3, d4] => { results := [.lit (.bool true)], args := [d1, d2, d3, d4] }
  | _ => none }
def joinLeavesOthersAloneRow : OpenClaim := { program := "ytjijbjnelflcfaagreat", sum := "e8bb84349acdb22717b4c650bd7a9e78fc67bf7a28332f5055118ef000dc1a08", func := "weirgate/weirgatelaw38.JoinLeavesOthersAlone", spec := "joinLeavesOthersAlone", inPlace := ["slices.overlaps[weirgate/api.Miss]", "slices.overlaps[weirgate/api.Waiter]"], unfollowed := true, recurses := true, apart := false }
def JoinLeavesOthersAloneSaid : Prop := joinLeavesOthersAloneRow.holds Tryz.pinned (OpenSpec.ofChange joinLeavesOthersAloneSpec)

/-- ITS FALSE NEIGHBOUR: 'it returns false'. Refute it at one input. -/
def joinLeavesOthersAloneWrong : ChangeSpec := { name := "joinLeavesOthersAlone", fn := fun _ => fun
  | [d1, d2, d3, d4] => { results := [.lit (.bool false)], args := [d1, d2, d3, d4] }
  | _ => none }
def JoinLeavesOthersAloneWrongFalsely : Prop := joinLeavesOthersAloneRow.holds Tryz.pinned (OpenSpec.ofChange joinLeavesOthersAloneWrong)

/-- 'weirgatelaw38.JoinBeginsAsSpecified': WHATEVER THE INPUT: true; the input reads as it did. -/
def joinBeginsAsSpecifiedSpec : ChangeSpec := { name := "joinBeginsAsSpecified", fn := fun _ => fun
  | [d1, d2] => { results := [.lit (.bool true)], args := [d1, d2] }
  | _ => none }
def joinBeginsAsSpecifiedRow : OpenClaim := { program := "ytjijbjnelflcfaagreat", sum := "e8bb84349acdb22717b4c650bd7a9e78fc67bf7a28332f5055118ef000dc1a08", func := "weirgate/weirgatelaw38.JoinBeginsAsSpecified", spec := "joinBeginsAsSpecified", inPlace := ["slices.overlaps[weirgate/api.Miss]", "slices.overlaps[weirgate/api.Waiter]"], unfollowed := true, recurses := true, apart := false }
def JoinBeginsAsSpecifiedSaid : Prop := joinBeginsAsSpecifiedRow.holds Tryz.pinned (OpenSpec.ofChange joinBeginsAsSpecifiedSpec)

/-- ITS FALSE NEIGHBOUR: 'it returns false'. Refute it at one input. -/
def joinBeginsAsSpecifiedWrong : ChangeSpec := { name := "joinBeginsAsSpecified", fn := fun _ => fun
  | [d1, d2] => { results := [.lit (.bool false)], args := [d1, d2] }
  | _ => none }
def JoinBeginsAsSpecifiedWrongFalsely : Prop := joinBeginsAsSpecifiedRow.holds Tryz.pinned (OpenSpec.ofChange joinBeginsAsSpecifiedWrong)

/- THE SECOND FORM. 'bulk': how many values and letters a reading holds, each counted each time it is reached (what is shared counts as often as it is met; a slice's spare places count too). A statement '..UptoSaid' is the law's where the arguments, and the package variables that the reading takes, are together of bulk at most 1048576: NARROWER than '..Said'. Prove '..Said' where nothing that the law and all that it calls make is longer than what came in: it says more and counts as full. Else prove '..UptoSaid'. A law counts once. -/
mutual
def uptoBulk {H : Type} : DataW H → Nat
  | .lit (.string bytes) => bytes.length + 1
  | .lit _ => 1
  | .nil => 1
  | .ptr d => uptoBulk d + 1
  | .slice elems spare => uptoBulkAll elems + uptoBulkAll spare + 1
  | .agg parts => uptoBulkAll parts + 1
  | .iface _ d => uptoBulk d + 1
  | .map entries => uptoBulkEntries entries + 1
  | .held _ => 1
def uptoBulkAll {H : Type} : List (DataW H) → Nat
  | [] => 0
  | d :: r => uptoBulk d + uptoBulkAll r
def uptoBulkEntries {H : Type} : List (Lit × DataW H) → Nat
  | [] => 0
  | x :: r => uptoBulkEntry x + uptoBulkEntries r
def uptoBulkEntry {H : Type} : Lit × DataW H → Nat
  | (.string bytes, d) => bytes.length + uptoBulk d + 1
  | (_, d) => uptoBulk d + 1
 end
def uptoSmall : (H : Type) → List (DataW H) → Bool := fun _ ds => decide (uptoBulkAll ds ≤ 1048576)
def OpenSpec.upto (s : _root_.Go.ChangeSpec) : _root_.Go.OpenSpec := { _root_.Go.OpenSpec.ofChange s with cond := some uptoSmall }

/-- 'weirgatelaw38.JoinAsksAsSpecified', WHERE WHAT IT READS IS OF BULK AT MOST 1048576: true; the input reads as it did. -/
def joinAsksAsSpecifiedUptoRow : OpenClaim := { program := "ytjijbjnelflcfaagreat", sum := "e8bb84349acdb22717b4c650bd7a9e78fc67bf7a28332f5055118ef000dc1a08", func := "weirgate/weirgatelaw38.JoinAsksAsSpecified", spec := "joinAsksAsSpecified", inPlace := ["slices.overlaps[weirgate/api.Miss]", "slices.overlaps[weirgate/api.Waiter]"], unfollowed := true, recurses := true, apart := false, narrowed := true }
def JoinAsksAsSpecifiedUptoSaid : Prop := joinAsksAsSpecifiedUptoRow.holds Tryz.pinned (OpenSpec.upto joinAsksAsSpecifiedSpec)

/-- 'weirgatelaw38.JoinComesAsSpecified', WHERE WHAT IT READS IS OF BULK AT MOST 1048576: true; the input reads as it did. -/
def joinComesAsSpecifiedUptoRow : OpenClaim := { program := "ytjijbjnelflcfaagreat", sum := "e8bb84349acdb22717b4c650bd7a9e78fc67bf7a28332f5055118ef000dc1a08", func := "weirgate/weirgatelaw38.JoinComesAsSpecified", spec := "joinComesAsSpecified", inPlace := ["slices.overlaps[weirgate/api.Miss]", "slices.overlaps[weirgate/api.Waiter]"], unfollowed := true, recurses := true, apart := false, narrowed := true }
def JoinComesAsSpecifiedUptoSaid : Prop := joinComesAsSpecifiedUptoRow.holds Tryz.pinned (OpenSpec.upto joinComesAsSpecifiedSpec)

/-- 'weirgatelaw38.JoinFetchesOnce', WHERE WHAT IT READS IS OF BULK AT MOST 1048576: true; the input reads as it did. -/
def joinFetchesOnceUptoRow : OpenClaim := { program := "ytjijbjnelflcfaagreat", sum := "e8bb84349acdb22717b4c650bd7a9e78fc67bf7a28332f5055118ef000dc1a08", func := "weirgate/weirgatelaw38.JoinFetchesOnce", spec := "joinFetchesOnce", inPlace := ["slices.overlaps[weirgate/api.Miss]", "slices.overlaps[weirgate/api.Waiter]"], unfollowed := true, recurses := true, apart := false, narrowed := true }
def JoinFetchesOnceUptoSaid : Prop := joinFetchesOnceUptoRow.holds Tryz.pinned (OpenSpec.upto joinFetchesOnceSpec)

/-- 'weirgatelaw38.JoinLeavesOthersAlone', WHERE WHAT IT READS IS OF BULK AT MOST 1048576: true; the input reads as it did. -/
def joinLeavesOthersAloneUptoRow : OpenClaim := { program := "ytjijbjnelflcfaagreat", sum := "e8bb84349acdb22717b4c650bd7a9e78fc67bf7a28332f5055118ef000dc1a08", func := "weirgate/weirgatelaw38.JoinLeavesOthersAlone", spec := "joinLeavesOthersAlone", inPlace := ["slices.overlaps[weirgate/api.Miss]", "slices.overlaps[weirgate/api.Waiter]"], unfollowed := true, recurses := true, apart := false, narrowed := true }
def JoinLeavesOthersAloneUptoSaid : Prop := joinLeavesOthersAloneUptoRow.holds Tryz.pinned (OpenSpec.upto joinLeavesOthersAloneSpec)

/-- 'weirgatelaw38.JoinBeginsAsSpecified', WHERE WHAT IT READS IS OF BULK AT MOST 1048576: true; the input reads as it did. -/
def joinBeginsAsSpecifiedUptoRow : OpenClaim := { program := "ytjijbjnelflcfaagreat", sum := "e8bb84349acdb22717b4c650bd7a9e78fc67bf7a28332f5055118ef000dc1a08", func := "weirgate/weirgatelaw38.JoinBeginsAsSpecified", spec := "joinBeginsAsSpecified", inPlace := ["slices.overlaps[weirgate/api.Miss]", "slices.overlaps[weirgate/api.Waiter]"], unfollowed := true, recurses := true, apart := false, narrowed := true }
def JoinBeginsAsSpecifiedUptoSaid : Prop := joinBeginsAsSpecifiedUptoRow.holds Tryz.pinned (OpenSpec.upto joinBeginsAsSpecifiedSpec)

end Rows
end Go.Proofs.YtjijbjnelflcfaaGreat
