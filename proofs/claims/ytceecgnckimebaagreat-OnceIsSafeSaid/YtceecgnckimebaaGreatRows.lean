/-
  No cell of these rows narrows 'for every input' (looked for: loops, veiled, ifaces, maps, wideKeys, modest, calm, conditions, laid).
  DERIVED. THE GIVEN ROWS OF THIS SEAT. 4 by the template 'for every input the law returns true; each argument reads behind the call as it read before'; 0 by the template 'total and deterministic' (their statements: YtceecgnckimebaaGreatTotals.lean).
  GIVEN WITH THE SEED: the statements are not yours to turn. If you find one false, say at which input.
  Laid BY PROGRAM, IN A SANDBOX (cutbox-rows.mjs): the forced cells as the released guide's own fill.sh prints them over the translation d3551a68282553d7… (all of the seat's roots in one cut). By AI agents, Wed Nov 11 2026. No macro, syntax, notation, axiom, sorry.
-/
import Derived.Test.YtceecgnckimebaaGreatChecked
import GoSem.Claim
import GoSem.ClaimJoined
import GoSem.ClaimMapViews
import Derived.JoinedTies
import Derived.KernelRfl
namespace Go.Proofs.YtceecgnckimebaaGreat
/- THE CELL 'sum', in the pinned program and in every row, IS THE sha256 OF THE DUMP (.gsa) THAT YtceecgnckimebaaGreatProg.lean LOADS. Nothing in Lean hashes anything: it is a label: what it is worth is what the hold of that sum in a sandbox is worth. -/
noncomputable def Tryz.pinned : Pinned := { name := "ytceecgnckimebaagreat", sum := "d3551a68282553d784e79530fdf66ded6e671239d44bff48816add3f2b2e5129", checked := Tryz.checked }
namespace Rows
def none {H : Type} : Left H := { results := [], args := [] }

/-- 'weirgatelaw26.OnceActsAsSpecified': WHATEVER THE INPUT: true; the input reads as it did. -/
def onceActsAsSpecifiedSpec : ChangeSpec := { name := "onceActsAsSpecified", fn := fun _ => fun
  | [d1, d2, d3] => { results := [.lit (.bool true)], args := [d1, d2, d3] }
  | _ => none }
def onceActsAsSpecifiedRow : OpenClaim := { program := "ytceecgnckimebaagreat", sum := "d3551a68282553d784e79530fdf66ded6e671239d44bff48816add3f2b2e5129", func := "weirgate/weirgatelaw26.OnceActsAsSpecified", spec := "onceActsAsSpecified", inPlace := ["slices.overlaps[weirgate/api.Mark]"], unfollowed := true, recurses := true, apart := false }
def OnceActsAsSpecifiedSaid : Prop := onceActsAsSpecifiedRow.holds Tryz.pinned (OpenSpec.ofChange onceActsAsSpecifiedSpec)

/-- ITS FALSE NEIGHBOUR: 'it returns false'. Refute it at one input. -/
def onceActsAsSpecifiedWrong : ChangeSpec := { name := "onceActsAsSpecified", fn := fun _ => fun
  | [d1, d2, d3] => { results := [.lit (.bool false)], args := [d1, d2, d3] }
  | _ => none }
def OnceActsAsSpecifiedWrongFalsely : Prop := onceActsAsSpecifiedRow.holds Tryz.pinned (OpenSpec.ofChange onceActsAsSpecifiedWrong)

/-- 'weirgatelaw26.OnceHearsAsSpecified': WHATEVER THE INPUT: true; the input reads as it did. -/
def onceHearsAsSpecifiedSpec : ChangeSpec := { name := "onceHearsAsSpecified", fn := fun _ => fun
  | [d1, d2, d3] => { results := [.lit (.bool true)], args := [d1, d2, d3] }
  | _ => none }
def onceHearsAsSpecifiedRow : OpenClaim := { program := "ytceecgnckimebaagreat", sum := "d3551a68282553d784e79530fdf66ded6e671239d44bff48816add3f2b2e5129", func := "weirgate/weirgatelaw26.OnceHearsAsSpecified", spec := "onceHearsAsSpecified", inPlace := ["slices.overlaps[weirgate/api.Mark]"], unfollowed := true, recurses := true, apart := false }
def OnceHearsAsSpecifiedSaid : Prop := onceHearsAsSpecifiedRow.holds Tryz.pinned (OpenSpec.ofChange onceHearsAsSpecifiedSpec)

/-- ITS FALSE NEIGHBOUR: 'it returns false'. Refute it at one input. -/
def onceHearsAsSpecifiedWrong : ChangeSpec := { name := "onceHearsAsSpecified", fn := fun _ => fun
  | [d1, d2, d3] => { results := [.lit (.bool false)], args := [d1, d2, d3] }
  | _ => none }
def OnceHearsAsSpecifiedWrongFalsely : Prop := onceHearsAsSpecifiedRow.holds Tryz.pinned (OpenSpec.ofChange onceHearsAsSpecifiedWrong)

/-- 'weirgatelaw26.OnceIsSafe': WHATEVER THE INPUT: true; the input reads as it did. -/
def onceIsSafeSpec : ChangeSpec := { name := "onceIsSafe", fn := fun _ => fun
  | [d1, d2] => { results := [.lit (.bool true)], args := [d1, d2] }
  | _ => none }
def onceIsSafeRow : OpenClaim := { program := "ytceecgnckimebaagreat", sum := "d3551a68282553d784e79530fdf66ded6e671239d44bff48816add3f2b2e5129", func := "weirgate/weirgatelaw26.OnceIsSafe", spec := "onceIsSafe", inPlace := ["slices.overlaps[weirgate/api.Mark]"], unfollowed := true, recurses := true, apart := false }
def OnceIsSafeSaid : Prop := onceIsSafeRow.holds Tryz.pinned (OpenSpec.ofChange onceIsSafeSpec)

/-- ITS FALSE NEIGHBOUR: 'it returns false'. Refute it at one input. -/
def onceIsSafeWrong : ChangeSpec := { name := "onceIsSafe", fn := fun _ => fun
  | [d1, d2] => { results := [.lit (.bool false)], args := [d1, d2] }
  | _ => none }
def OnceIsSafeWrongFalsely : Prop := onceIsSafeRow.holds Tryz.pinned (OpenSpec.ofChange onceIsSafeWrong)

/-- 'weirgatelaw26.OnceBeginsAsSpecified': WHATEVER THE INPUT: true; the input reads as it did. -/
def onceBeginsAsSpecifiedSpec : ChangeSpec := { name := "onceBeginsAsSpecified", fn := fun _ => fun
  | [d1, d2, d3, d4] => { results := [.lit (.bool true)], args := [d1, d2, d3, d4] }
  | _ => none }
def onceBeginsAsSpecifiedRow : OpenClaim := { program := "ytceecgnckimebaagreat", sum := "d3551a68282553d784e79530fdf66ded6e671239d44bff48816add3f2b2e5129", func := "weirgate/weirgatelaw26.OnceBeginsAsSpecified", spec := "onceBeginsAsSpecified", inPlace := ["slices.overlaps[weirgate/api.Mark]"], unfollowed := true, recurses := true, apart := false }
def OnceBeginsAsSpecifiedSaid : Prop := onceBeginsAsSpecifiedRow.holds Tryz.pinned (OpenSpec.ofChange onceBeginsAsSpecifiedSpec)

/-- ITS FALSE NEIGHBOUR: 'it returns false'. Refute it at one input. -/
def onceBeginsAsSpecifiedWrong : ChangeSpec := { name := "onceBeginsAsSpecified", fn := fun _ => fun
  | [d1, d2, d3, d4] => { results := [.lit (.bool false)], args := [d1, d2, d3, d4] }
  | _ => none }
def OnceBeginsAsSpecifiedWrongFalsely : Prop := onceBeginsAsSpecifiedRow.holds Tryz.pinned (OpenSpec.ofChange onceBeginsAsSpecifiedWrong)

/- THE SECOND FORM. 'bulk': how many values and letters a reading holds, each counted each time it is reached (what is shared counts as often as it is met; a slice's spare places count too). A statement '..UptoSaid' is the law's where the arguments, and the package variables that the reading takes, are together of bulk at most 1048576: NARROWER than '..Said'. Prove '..Said' where nothing that the law and all that it calls make is longer than what came in: it says more and counts as full. Else prove '..UptoSaid'. A law counts once. -/
mutual
def uptoBulk {H : Type} : DataW H → Nat
  | .lit (.string bytes) => bytes.length + 1
  | .lit _ => 1
  | .nil => 1
  | .ptr d => uptoBulk d + 1
  | .slice elems spare => uptoBulkAll elems + uptoBulkAll spare + 1
  | .agg parts => uptoBulkAll parts + 1
  | .iface _ d => uptoBulk d + 1
  | .map entries => uptoBulkEntries entries + 1
  | .held _ => 1
def uptoBulkAll {H : Type} : List (DataW H) → Nat
  | [] => 0
  | d :: r => uptoBulk d + uptoBulkAll r
def uptoBulkEntries {H : Type} : List (Lit × DataW H) → Nat
  | [] => 0
  | x :: r => uptoBulkEntry x + uptoBulkEntries r
def uptoBulkEntry {H : Type} : Lit × DataW H → Nat
  | (.string bytes, d) => bytes.length + uptoBulk d + 1
  | (_, d) => uptoBulk d + 1
 end
def uptoSmall : (H : Type) → List (DataW H) → Bool := fun _ ds => decide (uptoBulkAll ds ≤ 1048576)
def OpenSpec.upto (s : _root_.Go.ChangeSpec) : _root_.Go.OpenSpec := { _root_.Go.OpenSpec.ofChange s with cond := some uptoSmall }

/-- 'weirgatelaw26.OnceActsAsSpecified', WHERE WHAT IT READS IS OF BULK AT MOST 1048576: true; the input reads as it did. -/
def onceActsAsSpecifiedUptoRow : OpenClaim := { program := "ytceecgnckimebaagreat", sum := "d3551a68282553d784e79530fdf66ded6e671239d44bff48816add3f2b2e5129", func := "weirgate/weirgatelaw26.OnceActsAsSpecified", spec := "onceActsAsSpecified", inPlace := ["slices.overlaps[weirgate/api.Mark]"], unfollowed := true, recurses := true, apart := false, narrowed := true }
def OnceActsAsSpecifiedUptoSaid : Prop := onceActsAsSpecifiedUptoRow.holds Tryz.pinned (OpenSpec.upto onceActsAsSpecifiedSpec)

/-- 'weirgatelaw26.OnceHearsAsSpecified', WHERE WHAT IT READS IS OF BULK AT MOST 1048576: true; the input reads as it did. -/
def onceHearsAsSpecifiedUptoRow : OpenClaim := { program := "ytceecgnckimebaagreat", sum := "d3551a68282553d784e79530fdf66ded6e671239d44bff48816add3f2b2e5129", func := "weirgate/weirgatelaw26.OnceHearsAsSpecified", spec := "onceHearsAsSpecified", inPlace := ["slices.overlaps[weirgate/api.Mark]"], unfollowed := true, recurses := true, apart := false, narrowed := true }
def OnceHearsAsSpecifiedUptoSaid : Prop := onceHearsAsSpecifiedUptoRow.holds Tryz.pinned (OpenSpec.upto onceHearsAsSpecifiedSpec)

/-- 'weirgatelaw26.OnceIsSafe', WHERE WHAT IT READS IS OF BULK AT MOST 1048576: true; the input reads as it did. -/
def onceIsSafeUptoRow : OpenClaim := { program := "ytceecgnckimebaagreat", sum := "d3551a68282553d784e79530fdf66ded6e671239d44bff48816add3f2b2e5129", func := "weirgate/weirgatelaw26.OnceIsSafe", spec := "onceIsSafe", inPlace := ["slices.overlaps[weirgate/api.Mark]"], unfollowed := true, recurses := true, apart := false, narrowed := true }
def OnceIsSafeUptoSaid : Prop := onceIsSafeUptoRow.holds Tryz.pinned (OpenSpec.upto onceIsSafeSpec)

/-- 'weirgatelaw26.OnceBeginsAsSpecified', WHERE WHAT IT READS IS OF BULK AT MOST 1048576: true; the input reads as it did. -/
def onceBeginsAsSpecifiedUptoRow : OpenClaim := { program := "ytceecgnckimebaagreat", sum := "d3551a68282553d784e79530fdf66ded6e671239d44bff48816add3f2b2e5129", func := "weirgate/weirgatelaw26.OnceBeginsAsSpecified", spec := "onceBeginsAsSpecified", inPlace := ["slices.overlaps[weirgate/api.Mark]"], unfollowed := true, recurses := true, apart := false, narrowed := true }
def OnceBeginsAsSpecifiedUptoSaid : Prop := onceBeginsAsSpecifiedUptoRow.holds Tryz.pinned (OpenSpec.upto onceBeginsAsSpecifiedSpec)

end Rows
end Go.Proofs.YtceecgnckimebaaGreat
