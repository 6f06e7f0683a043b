/-
  NARROWER THAN 'FOR EVERY INPUT', by the rows' own cells (each row's printed sentence says how): RepairFindsAsSpecified: laid · RepairAsksAsSpecified: laid · RepairPatchesAsSpecified: laid · RepairPatches: laid · RepairMakesAsSpecified: laid · RepairFindsDamage: laid · RepairAsksLittle: laid · RepairChecksBlocks: laid · RepairScrubs: laid.
  DERIVED. THE GIVEN ROWS OF THIS SEAT. 9 by the template 'for every input the law returns true; each argument reads behind the call as it read before'; 0 by the template 'total and deterministic' (their statements: YtebjeeogjepcaaaGreatDoorTotals.lean).
  GIVEN WITH THE SEED: the statements are not yours to turn. If you find one false, say at which input.
  Laid BY PROGRAM, IN A SANDBOX (cutbox-rows.mjs): the forced cells as the released guide's own fill.sh prints them over the translation 82b5c0d07d58cccc… (all of the seat's roots in one cut). By AI agents, Wed Nov 11 2026. No macro, syntax, notation, axiom, sorry.
-/
import Derived.Test.YtebjeeogjepcaaaGreatDoorChecked
import GoSem.Claim
import GoSem.ClaimJoined
import GoSem.ClaimMapViews
import Derived.JoinedTies
import Derived.KernelRfl
namespace Go.Proofs.YtebjeeogjepcaaaGreatDoor
/- THE CELL 'sum', in the pinned program and in every row, IS THE sha256 OF THE DUMP (.gsa) THAT YtebjeeogjepcaaaGreatDoorProg.lean LOADS. Nothing in Lean hashes anything: it is a label: what it is worth is what the hold of that sum in a sandbox is worth. -/
noncomputable def Tryz.pinned : Pinned := { name := "ytebjeeogjepcaaagreatdoor", sum := "82b5c0d07d58cccc8d1bea2aea3ae7893d6543b01934a697f6246953a94b6bb6", checked := Tryz.checked }
namespace Rows
def none {H : Type} : Left H := { results := [], args := [] }

/- WHAT THE LISTED PACKAGE-LEVEL VARIABLES READ AS WHEN THE CALL BEGINS. Each datum BY PROGRAM (the guide's laid-datum.mjs) off the statement by which the dump's own 'gosem.cut.vars' lays the variable. In a bare row this is a premise. The card (YtebjeeogjepcaaaGreatDoorCards.lean) ties it to the program's text. -/
def laid_weirgate_weirgateref02_constants {H : Type} : DataW H := .agg [.lit (.int .u32 1116352408), .lit (.int .u32 1899447441), .lit (.int .u32 3049323471), .lit (.int .u32 3921009573), .lit (.int .u32 961987163), .lit (.int .u32 1508970993), .lit (.int .u32 2453635748), .lit (.int .u32 2870763221), .lit (.int .u32 3624381080), .lit (.int .u32 310598401), .lit (.int .u32 607225278), .lit (.int .u32 1426881987), .lit (.int .u32 1925078388), .lit (.int .u32 2162078206), .lit (.int .u32 2614888103), .lit (.int .u32 3248222580), .lit (.int .u32 3835390401), .lit (.int .u32 4022224774), .lit (.int .u32 264347078), .lit (.int .u32 604807628), .lit (.int .u32 770255983), .lit (.int .u32 1249150122), .lit (.int .u32 1555081692), .lit (.int .u32 1996064986), .lit (.int .u32 2554220882), .lit (.int .u32 2821834349), .lit (.int .u32 2952996808), .lit (.int .u32 3210313671), .lit (.int .u32 3336571891), .lit (.int .u32 3584528711), .lit (.int .u32 113926993), .lit (.int .u32 338241895), .lit (.int .u32 666307205), .lit (.int .u32 773529912), .lit (.int .u32 1294757372), .lit (.int .u32 1396182291), .lit (.int .u32 1695183700), .lit (.int .u32 1986661051), .lit (.int .u32 2177026350), .lit (.int .u32 2456956037), .lit (.int .u32 2730485921), .lit (.int .u32 2820302411), .lit (.int .u32 3259730800), .lit (.int .u32 3345764771), .lit (.int .u32 3516065817), .lit (.int .u32 3600352804), .lit (.int .u32 4094571909), .lit (.int .u32 275423344), .lit (.int .u32 430227734), .lit (.int .u32 506948616), .lit (.int .u32 659060556), .lit (.int .u32 883997877), .lit (.int .u32 958139571), .lit (.int .u32 1322822218), .lit (.int .u32 1537002063), .lit (.int .u32 1747873779), .lit (.int .u32 1955562222), .lit (.int .u32 2024104815), .lit (.int .u32 2227730452), .lit (.int .u32 2361852424), .lit (.int .u32 2428436474), .lit (.int .u32 2756734187), .lit (.int .u32 3204031479), .lit (.int .u32 3329325298)]
def laid_weirgate_hash_constants {H : Type} : DataW H := .agg [.lit (.int .u32 1116352408), .lit (.int .u32 1899447441), .lit (.int .u32 3049323471), .lit (.int .u32 3921009573), .lit (.int .u32 961987163), .lit (.int .u32 1508970993), .lit (.int .u32 2453635748), .lit (.int .u32 2870763221), .lit (.int .u32 3624381080), .lit (.int .u32 310598401), .lit (.int .u32 607225278), .lit (.int .u32 1426881987), .lit (.int .u32 1925078388), .lit (.int .u32 2162078206), .lit (.int .u32 2614888103), .lit (.int .u32 3248222580), .lit (.int .u32 3835390401), .lit (.int .u32 4022224774), .lit (.int .u32 264347078), .lit (.int .u32 604807628), .lit (.int .u32 770255983), .lit (.int .u32 1249150122), .lit (.int .u32 1555081692), .lit (.int .u32 1996064986), .lit (.int .u32 2554220882), .lit (.int .u32 2821834349), .lit (.int .u32 2952996808), .lit (.int .u32 3210313671), .lit (.int .u32 3336571891), .lit (.int .u32 3584528711), .lit (.int .u32 113926993), .lit (.int .u32 338241895), .lit (.int .u32 666307205), .lit (.int .u32 773529912), .lit (.int .u32 1294757372), .lit (.int .u32 1396182291), .lit (.int .u32 1695183700), .lit (.int .u32 1986661051), .lit (.int .u32 2177026350), .lit (.int .u32 2456956037), .lit (.int .u32 2730485921), .lit (.int .u32 2820302411), .lit (.int .u32 3259730800), .lit (.int .u32 3345764771), .lit (.int .u32 3516065817), .lit (.int .u32 3600352804), .lit (.int .u32 4094571909), .lit (.int .u32 275423344), .lit (.int .u32 430227734), .lit (.int .u32 506948616), .lit (.int .u32 659060556), .lit (.int .u32 883997877), .lit (.int .u32 958139571), .lit (.int .u32 1322822218), .lit (.int .u32 1537002063), .lit (.int .u32 1747873779), .lit (.int .u32 1955562222), .lit (.int .u32 2024104815), .lit (.int .u32 2227730452), .lit (.int .u32 2361852424), .lit (.int .u32 2428436474), .lit (.int .u32 2756734187), .lit (.int .u32 3204031479), .lit (.int .u32 3329325298)]

/-- 'weirgatelaw37.RepairFindsAsSpecified': WHATEVER THE INPUT: true; the input reads as it did. -/
def repairFindsAsSpecifiedSpec : ChangeSpec := { name := "repairFindsAsSpecified", fn := fun _ => fun
  | [d1, d2, d3, d4] => { results := [.lit (.bool true)], args := [d1, d2, d3, d4] }
  | _ => none }
def repairFindsAsSpecifiedRow : OpenClaim := { program := "ytebjeeogjepcaaagreatdoor", sum := "82b5c0d07d58cccc8d1bea2aea3ae7893d6543b01934a697f6246953a94b6bb6", func := "weirgate/weirgatelaw37.RepairFindsAsSpecified", spec := "repairFindsAsSpecified", inPlace := ["internal/abi.NoEscape"], unfollowed := true, recurses := true, named := ["weirgate/hash.constants", "weirgate/weirgateref02.constants"], apart := false, laid := [("weirgate/weirgateref02.constants", laid_weirgate_weirgateref02_constants), ("weirgate/hash.constants", laid_weirgate_hash_constants)] }
def RepairFindsAsSpecifiedSaid : Prop := repairFindsAsSpecifiedRow.holds Tryz.pinned (OpenSpec.ofChange repairFindsAsSpecifiedSpec)

/-- ITS FALSE NEIGHBOUR: 'it returns false'. Refute it at one input. -/
def repairFindsAsSpecifiedWrong : ChangeSpec := { name := "repairFindsAsSpecified", fn := fun _ => fun
  | [d1, d2, d3, d4] => { results := [.lit (.bool false)], args := [d1, d2, d3, d4] }
  | _ => none }
def RepairFindsAsSpecifiedWrongFalsely : Prop := repairFindsAsSpecifiedRow.holds Tryz.pinned (OpenSpec.ofChange repairFindsAsSpecifiedWrong)

/-- 'weirgatelaw37.RepairAsksAsSpecified': WHATEVER THE INPUT: true; the input reads as it did. -/
def repairAsksAsSpecifiedSpec : ChangeSpec := { name := "repairAsksAsSpecified", fn := fun _ => fun
  | [d1, d2] => { results := [.lit (.bool true)], args := [d1, d2] }
  | _ => none }
def repairAsksAsSpecifiedRow : OpenClaim := { program := "ytebjeeogjepcaaagreatdoor", sum := "82b5c0d07d58cccc8d1bea2aea3ae7893d6543b01934a697f6246953a94b6bb6", func := "weirgate/weirgatelaw37.RepairAsksAsSpecified", spec := "repairAsksAsSpecified", inPlace := ["internal/abi.NoEscape"], unfollowed := true, recurses := true, named := ["weirgate/hash.constants"], apart := false, laid := [("weirgate/hash.constants", laid_weirgate_hash_constants)] }
def RepairAsksAsSpecifiedSaid : Prop := repairAsksAsSpecifiedRow.holds Tryz.pinned (OpenSpec.ofChange repairAsksAsSpecifiedSpec)

/-- ITS FALSE NEIGHBOUR: 'it returns false'. Refute it at one input. -/
def repairAsksAsSpecifiedWrong : ChangeSpec := { name := "repairAsksAsSpecified", fn := fun _ => fun
  | [d1, d2] => { results := [.lit (.bool false)], args := [d1, d2] }
  | _ => none }
def RepairAsksAsSpecifiedWrongFalsely : Prop := repairAsksAsSpecifiedRow.holds Tryz.pinned (OpenSpec.ofChange repairAsksAsSpecifiedWrong)

/-- 'weirgatelaw37.RepairPatchesAsSpecified': WHATEVER THE INPUT: true; the input reads as it did. -/
def repairPatchesAsSpecifiedSpec : ChangeSpec := { name := "repairPatchesAsSpecified", fn := fun _ => fun
  | [d1, d2, d3, d4] => { results := [.lit (.bool true)], args := [d1, d2, d3, d4] }
  | _ => none }
def repairPatchesAsSpecifiedRow : OpenClaim := { program := "ytebjeeogjepcaaagreatdoor", sum := "82b5c0d07d58cccc8d1bea2aea3ae7893d6543b01934a697f6246953a94b6bb6", func := "weirgate/weirgatelaw37.RepairPatchesAsSpecified", spec := "repairPatchesAsSpecified", inPlace := ["internal/abi.NoEscape"], unfollowed := true, recurses := true, named := ["weirgate/hash.constants", "weirgate/weirgateref02.constants"], apart := false, laid := [("weirgate/weirgateref02.constants", laid_weirgate_weirgateref02_constants), ("weirgate/hash.constants", laid_weirgate_hash_constants)] }
def RepairPatchesAsSpecifiedSaid : Prop := repairPatchesAsSpecifiedRow.holds Tryz.pinned (OpenSpec.ofChange repairPatchesAsSpecifiedSpec)

/-- ITS FALSE NEIGHBOUR: 'it returns false'. Refute it at one input. -/
def repairPatchesAsSpecifiedWrong : ChangeSpec := { name := "repairPatchesAsSpecified", fn := fun _ => fun
  | [d1, d2, d3, d4] => { results := [.lit (.bool false)], args := [d1, d2, d3, d4] }
  | _ => none }
def RepairPatchesAsSpecifiedWrongFalsely : Prop := repairPatchesAsSpecifiedRow.holds Tryz.pinned (OpenSpec.ofChange repairPatchesAsSpecifiedWrong)

/-- 'weirgatelaw37.RepairPatches': WHATEVER THE INPUT: true; the input reads as it did. -/
def repairPatchesSpec : ChangeSpec := { name := "repairPatches", fn := fun _ => fun
  | [d1, d2, d3, d4] => { results := [.lit (.bool true)], args := [d1, d2, d3, d4] }
  | _ => none }
def repairPatchesRow : OpenClaim := { program := "ytebjeeogjepcaaagreatdoor", sum := "82b5c0d07d58cccc8d1bea2aea3ae7893d6543b01934a697f6246953a94b6bb6", func := "weirgate/weirgatelaw37.RepairPatches", spec := "repairPatches", inPlace := ["internal/abi.NoEscape"], unfollowed := true, recurses := true, named := ["weirgate/hash.constants"], apart := false, laid := [("weirgate/hash.constants", laid_weirgate_hash_constants)] }
def RepairPatchesSaid : Prop := repairPatchesRow.holds Tryz.pinned (OpenSpec.ofChange repairPatchesSpec)

/-- ITS FALSE NEIGHBOUR: 'it returns false'. Refute it at one input. -/
def repairPatchesWrong : ChangeSpec := { name := "repairPatches", fn := fun _ => fun
  | [d1, d2, d3, d4] => { results := [.lit (.bool false)], args := [d1, d2, d3, d4] }
  | _ => none }
def RepairPatchesWrongFalsely : Prop := repairPatchesRow.holds Tryz.pinned (OpenSpec.ofChange repairPatchesWrong)

/-- 'weirgatelaw37.RepairMakesAsSpecified': WHATEVER THE INPUT: true; the input reads as it did. -/
def repairMakesAsSpecifiedSpec : ChangeSpec := { name := "repairMakesAsSpecified", fn := fun _ => fun
  | [d1, d2, d3, d4, d5, d6] => { results := [.lit (.bool true)], args := [d1, d2, d3, d4, d5, d6] }
  | _ => none }
def repairMakesAsSpecifiedRow : OpenClaim := { program := "ytebjeeogjepcaaagreatdoor", sum := "82b5c0d07d58cccc8d1bea2aea3ae7893d6543b01934a697f6246953a94b6bb6", func := "weirgate/weirgatelaw37.RepairMakesAsSpecified", spec := "repairMakesAsSpecified", inPlace := ["internal/abi.NoEscape"], unfollowed := true, recurses := true, named := ["weirgate/hash.constants", "weirgate/weirgateref02.constants"], apart := false, laid := [("weirgate/weirgateref02.constants", laid_weirgate_weirgateref02_constants), ("weirgate/hash.constants", laid_weirgate_hash_constants)] }
def RepairMakesAsSpecifiedSaid : Prop := repairMakesAsSpecifiedRow.holds Tryz.pinned (OpenSpec.ofChange repairMakesAsSpecifiedSpec)

/-- ITS FALSE NEIGHBOUR: 'it returns false'. Refute it at one input. -/
def repairMakesAsSpecifiedWrong : ChangeSpec := { name := "repairMakesAsSpecified", fn := fun _ => fun
  | [d1, d2, d3, d4, d5, d6] => { results := [.lit (.bool false)], args := [d1, d2, d3, d4, d5, d6] }
  | _ => none }
def RepairMakesAsSpecifiedWrongFalsely : Prop := repairMakesAsSpecifiedRow.holds Tryz.pinned (OpenSpec.ofChange repairMakesAsSpecifiedWrong)

/-- 'weirgatelaw37.RepairFindsDamage': WHATEVER THE INPUT: true; the input reads as it did. -/
def repairFindsDamageSpec : ChangeSpec := { name := "repairFindsDamage", fn := fun _ => fun
  | [d1, d2, d3, d4] => { results := [.lit (.bool true)], args := [d1, d2, d3, d4] }
  | _ => none }
def repairFindsDamageRow : OpenClaim := { program := "ytebjeeogjepcaaagreatdoor", sum := "82b5c0d07d58cccc8d1bea2aea3ae7893d6543b01934a697f6246953a94b6bb6", func := "weirgate/weirgatelaw37.RepairFindsDamage", spec := "repairFindsDamage", inPlace := ["internal/abi.NoEscape"], unfollowed := true, recurses := true, named := ["weirgate/hash.constants"], apart := false, laid := [("weirgate/hash.constants", laid_weirgate_hash_constants)] }
def RepairFindsDamageSaid : Prop := repairFindsDamageRow.holds Tryz.pinned (OpenSpec.ofChange repairFindsDamageSpec)

/-- ITS FALSE NEIGHBOUR: 'it returns false'. Refute it at one input. -/
def repairFindsDamageWrong : ChangeSpec := { name := "repairFindsDamage", fn := fun _ => fun
  | [d1, d2, d3, d4] => { results := [.lit (.bool false)], args := [d1, d2, d3, d4] }
  | _ => none }
def RepairFindsDamageWrongFalsely : Prop := repairFindsDamageRow.holds Tryz.pinned (OpenSpec.ofChange repairFindsDamageWrong)

/-- 'weirgatelaw37.RepairAsksLittle': WHATEVER THE INPUT: true; the input reads as it did. -/
def repairAsksLittleSpec : ChangeSpec := { name := "repairAsksLittle", fn := fun _ => fun
  | [d1, d2, d3] => { results := [.lit (.bool true)], args := [d1, d2, d3] }
  | _ => none }
def repairAsksLittleRow : OpenClaim := { program := "ytebjeeogjepcaaagreatdoor", sum := "82b5c0d07d58cccc8d1bea2aea3ae7893d6543b01934a697f6246953a94b6bb6", func := "weirgate/weirgatelaw37.RepairAsksLittle", spec := "repairAsksLittle", inPlace := ["internal/abi.NoEscape"], unfollowed := true, recurses := true, named := ["weirgate/hash.constants"], apart := false, laid := [("weirgate/hash.constants", laid_weirgate_hash_constants)] }
def RepairAsksLittleSaid : Prop := repairAsksLittleRow.holds Tryz.pinned (OpenSpec.ofChange repairAsksLittleSpec)

/-- ITS FALSE NEIGHBOUR: 'it returns false'. Refute it at one input. -/
def repairAsksLittleWrong : ChangeSpec := { name := "repairAsksLittle", fn := fun _ => fun
  | [d1, d2, d3] => { results := [.lit (.bool false)], args := [d1, d2, d3] }
  | _ => none }
def RepairAsksLittleWrongFalsely : Prop := repairAsksLittleRow.holds Tryz.pinned (OpenSpec.ofChange repairAsksLittleWrong)

/-- 'weirgatelaw37.RepairChecksBlocks': WHATEVER THE INPUT: true; the input reads as it did. -/
def repairChecksBlocksSpec : ChangeSpec := { name := "repairChecksBlocks", fn := fun _ => fun
  | [d1, d2, d3] => { results := [.lit (.bool true)], args := [d1, d2, d3] }
  | _ => none }
def repairChecksBlocksRow : OpenClaim := { program := "ytebjeeogjepcaaagreatdoor", sum := "82b5c0d07d58cccc8d1bea2aea3ae7893d6543b01934a697f6246953a94b6bb6", func := "weirgate/weirgatelaw37.RepairChecksBlocks", spec := "repairChecksBlocks", inPlace := ["internal/abi.NoEscape"], unfollowed := true, recurses := true, named := ["weirgate/hash.constants"], apart := false, laid := [("weirgate/hash.constants", laid_weirgate_hash_constants)] }
def RepairChecksBlocksSaid : Prop := repairChecksBlocksRow.holds Tryz.pinned (OpenSpec.ofChange repairChecksBlocksSpec)

/-- ITS FALSE NEIGHBOUR: 'it returns false'. Refute it at one input. -/
def repairChecksBlocksWrong : ChangeSpec := { name := "repairChecksBlocks", fn := fun _ => fun
  | [d1, d2, d3] => { results := [.lit (.bool false)], args := [d1, d2, d3] }
  | _ => none }
def RepairChecksBlocksWrongFalsely : Prop := repairChecksBlocksRow.holds Tryz.pinned (OpenSpec.ofChange repairChecksBlocksWrong)

/-- 'weirgatelaw37.RepairScrubs': WHATEVER THE INPUT: true; the input reads as it did. -/
def repairScrubsSpec : ChangeSpec := { name := "repairScrubs", fn := fun _ => fun
  | [d1, d2, d3, d4] => { results := [.lit (.bool true)], args := [d1, d2, d3, d4] }
  | _ => none }
def repairScrubsRow : OpenClaim := { program := "ytebjeeogjepcaaagreatdoor", sum := "82b5c0d07d58cccc8d1bea2aea3ae7893d6543b01934a697f6246953a94b6bb6", func := "weirgate/weirgatelaw37.RepairScrubs", spec := "repairScrubs", inPlace := ["internal/abi.NoEscape"], unfollowed := true, recurses := true, named := ["weirgate/hash.constants"], apart := false, laid := [("weirgate/hash.constants", laid_weirgate_hash_constants)] }
def RepairScrubsSaid : Prop := repairScrubsRow.holds Tryz.pinned (OpenSpec.ofChange repairScrubsSpec)

/-- ITS FALSE NEIGHBOUR: 'it returns false'. Refute it at one input. -/
def repairScrubsWrong : ChangeSpec := { name := "repairScrubs", fn := fun _ => fun
  | [d1, d2, d3, d4] => { results := [.lit (.bool false)], args := [d1, d2, d3, d4] }
  | _ => none }
def RepairScrubsWrongFalsely : Prop := repairScrubsRow.holds Tryz.pinned (OpenSpec.ofChange repairScrubsWrong)

/- THE SECOND FORM. 'bulk': how many values and letters a reading holds, each counted each time it is reached (what is shared counts as often as it is met; a slice's spare places count too). A statement '..UptoSaid' is the law's where the arguments, and the package variables that the reading takes, are together of bulk at most 1048576: NARROWER than '..Said'. Prove '..Said' where nothing that the law and all that it calls make is longer than what came in: it says more and counts as full. Else prove '..UptoSaid'. A law counts once. -/
mutual
def uptoBulk {H : Type} : DataW H → Nat
  | .lit (.string bytes) => bytes.length + 1
  | .lit _ => 1
  | .nil => 1
  | .ptr d => uptoBulk d + 1
  | .slice elems spare => uptoBulkAll elems + uptoBulkAll spare + 1
  | .agg parts => uptoBulkAll parts + 1
  | .iface _ d => uptoBulk d + 1
  | .map entries => uptoBulkEntries entries + 1
  | .held _ => 1
def uptoBulkAll {H : Type} : List (DataW H) → Nat
  | [] => 0
  | d :: r => uptoBulk d + uptoBulkAll r
def uptoBulkEntries {H : Type} : List (Lit × DataW H) → Nat
  | [] => 0
  | x :: r => uptoBulkEntry x + uptoBulkEntries r
def uptoBulkEntry {H : Type} : Lit × DataW H → Nat
  | (.string bytes, d) => bytes.length + uptoBulk d + 1
  | (_, d) => uptoBulk d + 1
 end
def uptoSmall : (H : Type) → List (DataW H) → Bool := fun _ ds => decide (uptoBulkAll ds ≤ 1048576)
def OpenSpec.upto (s : _root_.Go.ChangeSpec) : _root_.Go.OpenSpec := { _root_.Go.OpenSpec.ofChange s with cond := some uptoSmall }

/-- 'weirgatelaw37.RepairFindsAsSpecified', WHERE WHAT IT READS IS OF BULK AT MOST 1048576: true; the input reads as it did. -/
def repairFindsAsSpecifiedUptoRow : OpenClaim := { program := "ytebjeeogjepcaaagreatdoor", sum := "82b5c0d07d58cccc8d1bea2aea3ae7893d6543b01934a697f6246953a94b6bb6", func := "weirgate/weirgatelaw37.RepairFindsAsSpecified", spec := "repairFindsAsSpecified", inPlace := ["internal/abi.NoEscape"], unfollowed := true, recurses := true, named := ["weirgate/hash.constants", "weirgate/weirgateref02.constants"], apart := false, laid := [("weirgate/weirgateref02.constants", laid_weirgate_weirgateref02_constants), ("weirgate/hash.constants", laid_weirgate_hash_constants)], narrowed := true }
def RepairFindsAsSpecifiedUptoSaid : Prop := repairFindsAsSpecifiedUptoRow.holds Tryz.pinned (OpenSpec.upto repairFindsAsSpecifiedSpec)

/-- 'weirgatelaw37.RepairAsksAsSpecified', WHERE WHAT IT READS IS OF BULK AT MOST 1048576: true; the input reads as it did. -/
def repairAsksAsSpecifiedUptoRow : OpenClaim := { program := "ytebjeeogjepcaaagreatdoor", sum := "82b5c0d07d58cccc8d1bea2aea3ae7893d6543b01934a697f6246953a94b6bb6", func := "weirgate/weirgatelaw37.RepairAsksAsSpecified", spec := "repairAsksAsSpecified", inPlace := ["internal/abi.NoEscape"], unfollowed := true, recurses := true, named := ["weirgate/hash.constants"], apart := false, laid := [("weirgate/hash.constants", laid_weirgate_hash_constants)], narrowed := true }
def RepairAsksAsSpecifiedUptoSaid : Prop := repairAsksAsSpecifiedUptoRow.holds Tryz.pinned (OpenSpec.upto repairAsksAsSpecifiedSpec)

/-- 'weirgatelaw37.RepairPatchesAsSpecified', WHERE WHAT IT READS IS OF BULK AT MOST 1048576: true; the input reads as it did. -/
def repairPatchesAsSpecifiedUptoRow : OpenClaim := { program := "ytebjeeogjepcaaagreatdoor", sum := "82b5c0d07d58cccc8d1bea2aea3ae7893d6543b01934a697f6246953a94b6bb6", func := "weirgate/weirgatelaw37.RepairPatchesAsSpecified", spec := "repairPatchesAsSpecified", inPlace := ["internal/abi.NoEscape"], unfollowed := true, recurses := true, named := ["weirgate/hash.constants", "weirgate/weirgateref02.constants"], apart := false, laid := [("weirgate/weirgateref02.constants", laid_weirgate_weirgateref02_constants), ("weirgate/hash.constants", laid_weirgate_hash_constants)], narrowed := true }
def RepairPatchesAsSpecifiedUptoSaid : Prop := repairPatchesAsSpecifiedUptoRow.holds Tryz.pinned (OpenSpec.upto repairPatchesAsSpecifiedSpec)

/-- 'weirgatelaw37.RepairPatches', WHERE WHAT IT READS IS OF BULK AT MOST 1048576: true; the input reads as it did. -/
def repairPatchesUptoRow : OpenClaim := { program := "ytebjeeogjepcaaagreatdoor", sum := "82b5c0d07d58cccc8d1bea2aea3ae7893d6543b01934a697f6246953a94b6bb6", func := "weirgate/weirgatelaw37.RepairPatches", spec := "repairPatches", inPlace := ["internal/abi.NoEscape"], unfollowed := true, recurses := true, named := ["weirgate/hash.constants"], apart := false, laid := [("weirgate/hash.constants", laid_weirgate_hash_constants)], narrowed := true }
def RepairPatchesUptoSaid : Prop := repairPatchesUptoRow.holds Tryz.pinned (OpenSpec.upto repairPatchesSpec)

/-- 'weirgatelaw37.RepairMakesAsSpecified', WHERE WHAT IT READS IS OF BULK AT MOST 1048576: true; the input reads as it did. -/
def repairMakesAsSpecifiedUptoRow : OpenClaim := { program := "ytebjeeogjepcaaagreatdoor", sum := "82b5c0d07d58cccc8d1bea2aea3ae7893d6543b01934a697f6246953a94b6bb6", func := "weirgate/weirgatelaw37.RepairMakesAsSpecified", spec := "repairMakesAsSpecified", inPlace := ["internal/abi.NoEscape"], unfollowed := true, recurses := true, named := ["weirgate/hash.constants", "weirgate/weirgateref02.constants"], apart := false, laid := [("weirgate/weirgateref02.constants", laid_weirgate_weirgateref02_constants), ("weirgate/hash.constants", laid_weirgate_hash_constants)], narrowed := true }
def RepairMakesAsSpecifiedUptoSaid : Prop := repairMakesAsSpecifiedUptoRow.holds Tryz.pinned (OpenSpec.upto repairMakesAsSpecifiedSpec)

/-- 'weirgatelaw37.RepairFindsDamage', WHERE WHAT IT READS IS OF BULK AT MOST 1048576: true; the input reads as it did. -/
def repairFindsDamageUptoRow : OpenClaim := { program := "ytebjeeogjepcaaagreatdoor", sum := "82b5c0d07d58cccc8d1bea2aea3ae7893d6543b01934a697f6246953a94b6bb6", func := "weirgate/weirgatelaw37.RepairFindsDamage", spec := "repairFindsDamage", inPlace := ["internal/abi.NoEscape"], unfollowed := true, recurses := true, named := ["weirgate/hash.constants"], apart := false, laid := [("weirgate/hash.constants", laid_weirgate_hash_constants)], narrowed := true }
def RepairFindsDamageUptoSaid : Prop := repairFindsDamageUptoRow.holds Tryz.pinned (OpenSpec.upto repairFindsDamageSpec)

/-- 'weirgatelaw37.RepairAsksLittle', WHERE WHAT IT READS IS OF BULK AT MOST 1048576: true; the input reads as it did. -/
def repairAsksLittleUptoRow : OpenClaim := { program := "ytebjeeogjepcaaagreatdoor", sum := "82b5c0d07d58cccc8d1bea2aea3ae7893d6543b01934a697f6246953a94b6bb6", func := "weirgate/weirgatelaw37.RepairAsksLittle", spec := "repairAsksLittle", inPlace := ["internal/abi.NoEscape"], unfollowed := true, recurses := true, named := ["weirgate/hash.constants"], apart := false, laid := [("weirgate/hash.constants", laid_weirgate_hash_constants)], narrowed := true }
def RepairAsksLittleUptoSaid : Prop := repairAsksLittleUptoRow.holds Tryz.pinned (OpenSpec.upto repairAsksLittleSpec)

/-- 'weirgatelaw37.RepairChecksBlocks', WHERE WHAT IT READS IS OF BULK AT MOST 1048576: true; the input reads as it did. -/
def repairChecksBlocksUptoRow : OpenClaim := { program := "ytebjeeogjepcaaagreatdoor", sum := "82b5c0d07d58cccc8d1bea2aea3ae7893d6543b01934a697f6246953a94b6bb6", func := "weirgate/weirgatelaw37.RepairChecksBlocks", spec := "repairChecksBlocks", inPlace := ["internal/abi.NoEscape"], unfollowed := true, recurses := true, named := ["weirgate/hash.constants"], apart := false, laid := [("weirgate/hash.constants", laid_weirgate_hash_constants)], narrowed := true }
def RepairChecksBlocksUptoSaid : Prop := repairChecksBlocksUptoRow.holds Tryz.pinned (OpenSpec.upto repairChecksBlocksSpec)

/-- 'weirgatelaw37.RepairScrubs', WHERE WHAT IT READS IS OF BULK AT MOST 1048576: true; the input reads as it did. -/
def repairScrubsUptoRow : OpenClaim := { program := "ytebjeeogjepcaaagreatdoor", sum := "82b5c0d07d58cccc8d1bea2aea3ae7893d6543b01934a697f6246953a94b6bb6", func := "weirgate/weirgatelaw37.RepairScrubs", spec := "repairScrubs", inPlace := ["internal/abi.NoEscape"], unfollowed := true, recurses := true, named := ["weirgate/hash.constants"], apart := false, laid := [("weirgate/hash.constants", laid_weirgate_hash_constants)], narrowed := true }
def RepairScrubsUptoSaid : Prop := repairScrubsUptoRow.holds Tryz.pinned (OpenSpec.upto repairScrubsSpec)

end Rows
end Go.Proofs.YtebjeeogjepcaaaGreatDoor
