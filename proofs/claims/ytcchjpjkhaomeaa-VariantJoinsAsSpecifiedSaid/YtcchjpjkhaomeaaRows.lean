/-
  No cell of these rows narrows 'for every input' (looked for: loops, veiled, ifaces, maps, wideKeys, modest, calm, conditions, laid).
  DERIVED. THE GIVEN ROWS OF THIS SEAT. 6 by the template 'for every input the law returns true; each argument reads behind the call as it read before'; 0 by the template 'total and deterministic' (their statements: YtcchjpjkhaomeaaTotals.lean).
  GIVEN WITH THE SEED: the statements are not yours to turn. If you find one false, say at which input.
  Laid BY PROGRAM, IN A SANDBOX (cutbox-rows.mjs): the forced cells as the released guide's own fill.sh prints them over the translation b2d427cac1e0806f… (all of the seat's roots in one cut). By AI agents, Wed Nov 11 2026. No macro, syntax, notation, axiom, sorry.
-/
import Derived.Test.YtcchjpjkhaomeaaChecked
import GoSem.Claim
import GoSem.ClaimJoined
import GoSem.ClaimMapViews
import Derived.JoinedTies
import Derived.KernelRfl
namespace Go.Proofs.Ytcchjpjkhaomeaa
/- THE CELL 'sum', in the pinned program and in every row, IS THE sha256 OF THE DUMP (.gsa) THAT YtcchjpjkhaomeaaProg.lean LOADS. Nothing in Lean hashes anything: it is a label: what it is worth is what the hold of that sum in a sandbox is worth. -/
noncomputable def Try.pinned : Pinned := { name := "ytcchjpjkhaomeaa", sum := "b2d427cac1e0806f4b8eab44829ea78e0b56d1bede6619a5c5cbc0adf546cd80", checked := Try.checked }
namespace Rows
def none {H : Type} : Left H := { results := [], args := [] }

/-- 'weirgatelaw23.VariantChecksMatchSpec': WHATEVER THE INPUT: true; the input reads as it did. -/
def variantChecksMatchSpecSpec : ChangeSpec := { name := "variantChecksMatchSpec", fn := fun _ => fun
  | [d] => { results := [.lit (.bool true)], args := [d] }
  | _ => none }
def variantChecksMatchSpecRow : OpenClaim := { program := "ytcchjpjkhaomeaa", sum := "b2d427cac1e0806f4b8eab44829ea78e0b56d1bede6619a5c5cbc0adf546cd80", func := "weirgate/weirgatelaw23.VariantChecksMatchSpec", spec := "variantChecksMatchSpec", inPlace := ["internal/abi.NoEscape", "internal/bytealg.MakeNoZero", "internal/bytealg.IndexByteString"], unfollowed := true, recurses := true, apart := false }
def VariantChecksMatchSpecSaid : Prop := variantChecksMatchSpecRow.holds Try.pinned (OpenSpec.ofChange variantChecksMatchSpecSpec)

/-- ITS FALSE NEIGHBOUR: 'it returns false'. Refute it at one input. -/
def variantChecksMatchSpecWrong : ChangeSpec := { name := "variantChecksMatchSpec", fn := fun _ => fun
  | [d] => { results := [.lit (.bool false)], args := [d] }
  | _ => none }
def VariantChecksMatchSpecWrongFalsely : Prop := variantChecksMatchSpecRow.holds Try.pinned (OpenSpec.ofChange variantChecksMatchSpecWrong)

/-- 'weirgatelaw23.VariantKeysMatchSpec': WHATEVER THE INPUT: true; the input reads as it did. -/
def variantKeysMatchSpecSpec : ChangeSpec := { name := "variantKeysMatchSpec", fn := fun _ => fun
  | [d1, d2, d3] => { results := [.lit (.bool true)], args := [d1, d2, d3] }
  | _ => none }
def variantKeysMatchSpecRow : OpenClaim := { program := "ytcchjpjkhaomeaa", sum := "b2d427cac1e0806f4b8eab44829ea78e0b56d1bede6619a5c5cbc0adf546cd80", func := "weirgate/weirgatelaw23.VariantKeysMatchSpec", spec := "variantKeysMatchSpec", inPlace := ["internal/abi.NoEscape", "internal/bytealg.MakeNoZero", "internal/bytealg.IndexByteString"], unfollowed := true, recurses := true, apart := false }
def VariantKeysMatchSpecSaid : Prop := variantKeysMatchSpecRow.holds Try.pinned (OpenSpec.ofChange variantKeysMatchSpecSpec)

/-- ITS FALSE NEIGHBOUR: 'it returns false'. Refute it at one input. -/
def variantKeysMatchSpecWrong : ChangeSpec := { name := "variantKeysMatchSpec", fn := fun _ => fun
  | [d1, d2, d3] => { results := [.lit (.bool false)], args := [d1, d2, d3] }
  | _ => none }
def VariantKeysMatchSpecWrongFalsely : Prop := variantKeysMatchSpecRow.holds Try.pinned (OpenSpec.ofChange variantKeysMatchSpecWrong)

/-- 'weirgatelaw23.VariantParsesAsSpecified': WHATEVER THE INPUT: true; the input reads as it did. -/
def variantParsesAsSpecifiedSpec : ChangeSpec := { name := "variantParsesAsSpecified", fn := fun _ => fun
  | [d1, d2] => { results := [.lit (.bool true)], args := [d1, d2] }
  | _ => none }
def variantParsesAsSpecifiedRow : OpenClaim := { program := "ytcchjpjkhaomeaa", sum := "b2d427cac1e0806f4b8eab44829ea78e0b56d1bede6619a5c5cbc0adf546cd80", func := "weirgate/weirgatelaw23.VariantParsesAsSpecified", spec := "variantParsesAsSpecified", inPlace := ["internal/abi.NoEscape", "internal/bytealg.MakeNoZero", "internal/bytealg.IndexByteString"], unfollowed := true, recurses := true, apart := false }
def VariantParsesAsSpecifiedSaid : Prop := variantParsesAsSpecifiedRow.holds Try.pinned (OpenSpec.ofChange variantParsesAsSpecifiedSpec)

/-- ITS FALSE NEIGHBOUR: 'it returns false'. Refute it at one input. -/
def variantParsesAsSpecifiedWrong : ChangeSpec := { name := "variantParsesAsSpecified", fn := fun _ => fun
  | [d1, d2] => { results := [.lit (.bool false)], args := [d1, d2] }
  | _ => none }
def VariantParsesAsSpecifiedWrongFalsely : Prop := variantParsesAsSpecifiedRow.holds Try.pinned (OpenSpec.ofChange variantParsesAsSpecifiedWrong)

/-- 'weirgatelaw23.VariantListsAll': WHATEVER THE INPUT: true; the input reads as it did. -/
def variantListsAllSpec : ChangeSpec := { name := "variantListsAll", fn := fun _ => fun
  | [d1, d2] => { results := [.lit (.bool true)], args := [d1, d2] }
  | _ => none }
def variantListsAllRow : OpenClaim := { program := "ytcchjpjkhaomeaa", sum := "b2d427cac1e0806f4b8eab44829ea78e0b56d1bede6619a5c5cbc0adf546cd80", func := "weirgate/weirgatelaw23.VariantListsAll", spec := "variantListsAll", inPlace := ["internal/abi.NoEscape", "internal/bytealg.MakeNoZero", "internal/bytealg.IndexByteString"], unfollowed := true, recurses := true, apart := false }
def VariantListsAllSaid : Prop := variantListsAllRow.holds Try.pinned (OpenSpec.ofChange variantListsAllSpec)

/-- ITS FALSE NEIGHBOUR: 'it returns false'. Refute it at one input. -/
def variantListsAllWrong : ChangeSpec := { name := "variantListsAll", fn := fun _ => fun
  | [d1, d2] => { results := [.lit (.bool false)], args := [d1, d2] }
  | _ => none }
def VariantListsAllWrongFalsely : Prop := variantListsAllRow.holds Try.pinned (OpenSpec.ofChange variantListsAllWrong)

/-- 'weirgatelaw23.VariantSplitsExactly': WHATEVER THE INPUT: true; the input reads as it did. -/
def variantSplitsExactlySpec : ChangeSpec := { name := "variantSplitsExactly", fn := fun _ => fun
  | [d1, d2, d3, d4] => { results := [.lit (.bool true)], args := [d1, d2, d3, d4] }
  | _ => none }
def variantSplitsExactlyRow : OpenClaim := { program := "ytcchjpjkhaomeaa", sum := "b2d427cac1e0806f4b8eab44829ea78e0b56d1bede6619a5c5cbc0adf546cd80", func := "weirgate/weirgatelaw23.VariantSplitsExactly", spec := "variantSplitsExactly", inPlace := ["internal/abi.NoEscape", "internal/bytealg.MakeNoZero", "internal/bytealg.IndexByteString"], unfollowed := true, recurses := true, apart := false }
def VariantSplitsExactlySaid : Prop := variantSplitsExactlyRow.holds Try.pinned (OpenSpec.ofChange variantSplitsExactlySpec)

/-- ITS FALSE NEIGHBOUR: 'it returns false'. Refute it at one input. -/
def variantSplitsExactlyWrong : ChangeSpec := { name := "variantSplitsExactly", fn := fun _ => fun
  | [d1, d2, d3, d4] => { results := [.lit (.bool false)], args := [d1, d2, d3, d4] }
  | _ => none }
def VariantSplitsExactlyWrongFalsely : Prop := variantSplitsExactlyRow.holds Try.pinned (OpenSpec.ofChange variantSplitsExactlyWrong)

/-- 'weirgatelaw23.VariantJoinsAsSpecified': WHATEVER THE INPUT: true; the input reads as it did. -/
def variantJoinsAsSpecifiedSpec : ChangeSpec := { name := "variantJoinsAsSpecified", fn := fun _ => fun
  | [d1, d2, d3, d4] => { results := [.lit (.bool true)], args := [d1, d2, d3, d4] }
  | _ => none }
def variantJoinsAsSpecifiedRow : OpenClaim := { program := "ytcchjpjkhaomeaa", sum := "b2d427cac1e0806f4b8eab44829ea78e0b56d1bede6619a5c5cbc0adf546cd80", func := "weirgate/weirgatelaw23.VariantJoinsAsSpecified", spec := "variantJoinsAsSpecified", inPlace := ["internal/abi.NoEscape", "internal/bytealg.MakeNoZero", "internal/bytealg.IndexByteString"], unfollowed := true, recurses := true, apart := false }
def VariantJoinsAsSpecifiedSaid : Prop := variantJoinsAsSpecifiedRow.holds Try.pinned (OpenSpec.ofChange variantJoinsAsSpecifiedSpec)

/-- ITS FALSE NEIGHBOUR: 'it returns false'. Refute it at one input. -/
def variantJoinsAsSpecifiedWrong : ChangeSpec := { name := "variantJoinsAsSpecified", fn := fun _ => fun
  | [d1, d2, d3, d4] => { results := [.lit (.bool false)], args := [d1, d2, d3, d4] }
  | _ => none }
def VariantJoinsAsSpecifiedWrongFalsely : Prop := variantJoinsAsSpecifiedRow.holds Try.pinned (OpenSpec.ofChange variantJoinsAsSpecifiedWrong)

/- THE SECOND FORM. 'bulk': how many values and letters a reading holds, each counted each time it is reached (what is shared counts as often as it is met; a slice's spare places count too). A statement '..UptoSaid' is the law's where the arguments, and the package variables that the reading takes, are together of bulk at most 1048576: NARROWER than '..Said'. Prove '..Said' where nothing that the law and all that it calls make is longer than what came in: it says more and counts as full. Else prove '..UptoSaid'. A law counts once. -/
mutual
def uptoBulk {H : Type} : DataW H → Nat
  | .lit (.string bytes) => bytes.length + 1
  | .lit _ => 1
  | .nil => 1
  | .ptr d => uptoBulk d + 1
  | .slice elems spare => uptoBulkAll elems + uptoBulkAll spare + 1
  | .agg parts => uptoBulkAll parts + 1
  | .iface _ d => uptoBulk d + 1
  | .map entries => uptoBulkEntries entries + 1
  | .held _ => 1
def uptoBulkAll {H : Type} : List (DataW H) → Nat
  | [] => 0
  | d :: r => uptoBulk d + uptoBulkAll r
def uptoBulkEntries {H : Type} : List (Lit × DataW H) → Nat
  | [] => 0
  | x :: r => uptoBulkEntry x + uptoBulkEntries r
def uptoBulkEntry {H : Type} : Lit × DataW H → Nat
  | (.string bytes, d) => bytes.length + uptoBulk d + 1
  | (_, d) => uptoBulk d + 1
 end
def uptoSmall : (H : Type) → List (DataW H) → Bool := fun _ ds => decide (uptoBulkAll ds ≤ 1048576)
def OpenSpec.upto (s : _root_.Go.ChangeSpec) : _root_.Go.OpenSpec := { _root_.Go.OpenSpec.ofChange s with cond := some uptoSmall }

/-- 'weirgatelaw23.VariantChecksMatchSpec', WHERE WHAT IT READS IS OF BULK AT MOST 1048576: true; the input reads as it did. -/
def variantChecksMatchSpecUptoRow : OpenClaim := { program := "ytcchjpjkhaomeaa", sum := "b2d427cac1e0806f4b8eab44829ea78e0b56d1bede6619a5c5cbc0adf546cd80", func := "weirgate/weirgatelaw23.VariantChecksMatchSpec", spec := "variantChecksMatchSpec", inPlace := ["internal/abi.NoEscape", "internal/bytealg.MakeNoZero", "internal/bytealg.IndexByteString"], unfollowed := true, recurses := true, apart := false, narrowed := true }
def VariantChecksMatchSpecUptoSaid : Prop := variantChecksMatchSpecUptoRow.holds Try.pinned (OpenSpec.upto variantChecksMatchSpecSpec)

/-- 'weirgatelaw23.VariantKeysMatchSpec', WHERE WHAT IT READS IS OF BULK AT MOST 1048576: true; the input reads as it did. -/
def variantKeysMatchSpecUptoRow : OpenClaim := { program := "ytcchjpjkhaomeaa", sum := "b2d427cac1e0806f4b8eab44829ea78e0b56d1bede6619a5c5cbc0adf546cd80", func := "weirgate/weirgatelaw23.VariantKeysMatchSpec", spec := "variantKeysMatchSpec", inPlace := ["internal/abi.NoEscape", "internal/bytealg.MakeNoZero", "internal/bytealg.IndexByteString"], unfollowed := true, recurses := true, apart := false, narrowed := true }
def VariantKeysMatchSpecUptoSaid : Prop := variantKeysMatchSpecUptoRow.holds Try.pinned (OpenSpec.upto variantKeysMatchSpecSpec)

/-- 'weirgatelaw23.VariantParsesAsSpecified', WHERE WHAT IT READS IS OF BULK AT MOST 1048576: true; the input reads as it did. -/
def variantParsesAsSpecifiedUptoRow : OpenClaim := { program := "ytcchjpjkhaomeaa", sum := "b2d427cac1e0806f4b8eab44829ea78e0b56d1bede6619a5c5cbc0adf546cd80", func := "weirgate/weirgatelaw23.VariantParsesAsSpecified", spec := "variantParsesAsSpecified", inPlace := ["internal/abi.NoEscape", "internal/bytealg.MakeNoZero", "internal/bytealg.IndexByteString"], unfollowed := true, recurses := true, apart := false, narrowed := true }
def VariantParsesAsSpecifiedUptoSaid : Prop := variantParsesAsSpecifiedUptoRow.holds Try.pinned (OpenSpec.upto variantParsesAsSpecifiedSpec)

/-- 'weirgatelaw23.VariantListsAll', WHERE WHAT IT READS IS OF BULK AT MOST 1048576: true; the input reads as it did. -/
def variantListsAllUptoRow : OpenClaim := { program := "ytcchjpjkhaomeaa", sum := "b2d427cac1e0806f4b8eab44829ea78e0b56d1bede6619a5c5cbc0adf546cd80", func := "weirgate/weirgatelaw23.VariantListsAll", spec := "variantListsAll", inPlace := ["internal/abi.NoEscape", "internal/bytealg.MakeNoZero", "internal/bytealg.IndexByteString"], unfollowed := true, recurses := true, apart := false, narrowed := true }
def VariantListsAllUptoSaid : Prop := variantListsAllUptoRow.holds Try.pinned (OpenSpec.upto variantListsAllSpec)

/-- 'weirgatelaw23.VariantSplitsExactly', WHERE WHAT IT READS IS OF BULK AT MOST 1048576: true; the input reads as it did. -/
def variantSplitsExactlyUptoRow : OpenClaim := { program := "ytcchjpjkhaomeaa", sum := "b2d427cac1e0806f4b8eab44829ea78e0b56d1bede6619a5c5cbc0adf546cd80", func := "weirgate/weirgatelaw23.VariantSplitsExactly", spec := "variantSplitsExactly", inPlace := ["internal/abi.NoEscape", "internal/bytealg.MakeNoZero", "internal/bytealg.IndexByteString"], unfollowed := true, recurses := true, apart := false, narrowed := true }
def VariantSplitsExactlyUptoSaid : Prop := variantSplitsExactlyUptoRow.holds Try.pinned (OpenSpec.upto variantSplitsExactlySpec)

/-- 'weirgatelaw23.VariantJoinsAsSpecified', WHERE WHAT IT READS IS OF BULK AT MOST 1048576: true; the input reads as it did. -/
def variantJoinsAsSpecifiedUptoRow : OpenClaim := { program := "ytcchjpjkhaomeaa", sum := "b2d427cac1e0806f4b8eab44829ea78e0b56d1bede6619a5c5cbc0adf546cd80", func := "weirgate/weirgatelaw23.VariantJoinsAsSpecified", spec := "variantJoinsAsSpecified", inPlace := ["internal/abi.NoEscape", "internal/bytealg.MakeNoZero", "internal/bytealg.IndexByteString"], unfollowed := true, recurses := true, apart := false, narrowed := true }
def VariantJoinsAsSpecifiedUptoSaid : Prop := variantJoinsAsSpecifiedUptoRow.holds Try.pinned (OpenSpec.upto variantJoinsAsSpecifiedSpec)

end Rows
end Go.Proofs.Ytcchjpjkhaomeaa
