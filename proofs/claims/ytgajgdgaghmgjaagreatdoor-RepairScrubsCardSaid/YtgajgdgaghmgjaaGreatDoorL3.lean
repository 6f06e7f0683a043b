import Derived.Test.YtgajgdgaghmgjaaGreatDoorFxUse
import Derived.Test.YtgajgdgaghmgjaaGreatDoorTW3
import Derived.Test.YtgajgdgaghmgjaaGreatDoorRows
import Derived.Test.YtgajgdgaghmgjaaGreatDoorTie
import Derived.Test.YtgajgdgaghmgjaaGreatDoorCards
import Derived.Lib.LaidTab
import Derived.ProofKit
import Derived.LaidMore
import Derived.OpenShut
import Derived.Lay
import Derived.Stop.Joined
set_option linter.unusedVariables false
set_option linter.unusedSimpArgs false
set_option linter.unusedSectionVars false
open Option.some renaming inj → yaa
namespace Go.Proofs.YtgajgdgaghmgjaaGreatDoor.repairScrubsX
open Go.ChangeShapes Go.WideShapes Go.ChangeAt Go.RowKit Go.Fx
theorem own:ownKnob Tryz.prog.godebug=none:=by kernel_rfl
def tys:List Fx.T:=[.sl 1 .str,.int .u16,.int .u16,.bool]
theorem aeV:So Tryz.prog Tryz.f3.params.toList=some tys:=by kernel_rfl
theorem laidOut:laidOutB Tryz.prog=true:=by kernel_rfl
theorem hfn:∀ xs,WfA tys xs→Fx.Fn Tryz.prog 3 xs [] [] (fun r _=>r=.b true):=Fx.K.fn3
def laid:List (String × DataW Unit):=Rows.repairScrubsRow.laid
def zs:List Int:=Pf.map fun (n:Nat)=>(n:Int)
theorem abJ:laid=[("weirgate/hash.constants",Lib.tabData .u32 zs)]:=by kernel_rfl
theorem cell_of {W:World} {name:String} {g:Nat} {t e:TypeId} {fuel:Nat} {cs:Array Value} {base:Nat} {sp:Nat→Bool} {held:Bool} {p:List MemPlace} (hg:Tryz.prog.globalNamed name=some g)
  (ht:Tryz.prog.underlying t=some (.array 64 e)) (he:Tryz.prog.underlying e=some (.int .u32)) (hce:Tryz.prog.cellsOf e=1) (hct:Tryz.prog.cellsOf t=64) (hv:W.var? Tryz.prog name=some cs)
  {enc:TypeId × Value→Unit} (hd:DataW.trod enc Tryz.prog W base sp held fuel t cs.toList=some (Lib.tabData .u32 zs,p)) (i:Nat) (h:i<Ch.length):W.cell? ⟨g,i,none⟩=some Ch[i]:=by
 have h1:=Lib.cells_of_tab ht he hce hct hd
 rw [World.var?_cell hg hv i,←Array.getElem?_toList,h1]
 have h2:(zs.map fun z=>Value.int .u32 z)=Ch:=by rfl
 rw [h2,List.getElem?_eq_getElem h]
theorem alW {W:World} {g:Nat} {v:Value} (h:W.cell? ⟨g,0,none⟩=some v):g<W.heap.size:=by
 unfold World.cell? at h
 apply Classical.byContradiction
 intro hn
 rw [Array.getElem?_eq_none (show W.heap.size≤g by omega)] at h
 cases h
theorem agR {W:World} (h:laidMetH Tryz.prog laid W):(∀ b,Tb b→b<W.heap.size)∧Zn W:=by
 rw [abJ,MakeChecks.laidMetH_plain _ _ _ (by kernel_rfl)] at h
 obtain ⟨ps,⟨g1,t1,cs1,f1,p1,q1,hg1,ht1,hv1,hd1,_,_⟩,_,_⟩:=h
 obtain rfl:=yaa ((show Tryz.prog.globalNamed "weirgate/hash.constants" = some 0 by kernel_rfl).symm.trans hg1)
 obtain rfl:=yaa ((show (Tryz.prog.globals[0]?).map (·.type)=some 213 by kernel_rfl).symm.trans ht1)
 have c0:∀ i (h:i<Ch.length),W.cell? ⟨0,i,none⟩=some Ch[i]:=cell_of hg1 (t:=213) (e:=171) (by kernel_rfl) (by kernel_rfl) (by kernel_rfl) (by kernel_rfl) hv1 hd1
 have hk:0<Ch.length:=by decide
 refine ⟨fun b hb=>?_,fun p hp i h=>?_⟩
 ·obtain ⟨p,hp,rfl⟩:=hb
  simp only [tabs,List.mem_cons,List.not_mem_nil,or_false] at hp
  subst hp
  exact alW (c0 0 hk)
 ·simp only [tabs,List.mem_cons,List.not_mem_nil,or_false] at hp
  subst hp
  exact c0 i h
set_option maxRecDepth 100000 in
theorem lifted (os:Os) (started:os.Started) (H:Type) (enc:TypeId × Value→H) :
  ReturnsInHanded {} Tryz.checked os 3 .any (fun w args=>(Rows.repairScrubsSpec.pre enc Tryz.prog Tryz.f3 Rows.repairScrubsRow.domain false w args∧laidMetH Tryz.prog laid w)∧sizedMet enc Tryz.prog Tryz.f3 (OpenSpec.ofChange Rows.repairScrubsSpec) false w args)
   (Rows.repairScrubsSpec.post enc Tryz.prog Tryz.f3 false true false false):=by
 refine returnsInHanded_of_change_and (C:=Tryz.checked) (X:=fun w _=>laidMetH Tryz.prog laid w) (fun _ _ _ hh h=>h.of_heap hh) own started (by kernel_rfl) Tryz.func3
  (ChangeSpec.witness_shaped (enc:=enc) (C:=Tryz.checked) (os:=os) (X:=fun w _=>laidMetH Tryz.prog laid w) false (World.laidAll Tryz.prog os laid) #[.slice none 0 0,.int .u16 0,.int .u16 0,.bool false] 8 (World.laidAll_os _ _ _)
   (World.shaped_of_ZipB (by kernel_rfl) (by kernel_rfl)) (by kernel_rfl) (by kernel_rfl) (by kernel_rfl)
   (by rw [MakeChecks.laidMetH_plain _ _ _ (by kernel_rfl)];exact laidMet_laidAll _ (by kernel_rfl) (by kernel_rfl))) ?_
 intro W base args ds gs before hval hW _ _ hL _
 refine Ki (tb:=4) laidOut aeV (by kernel_rfl) (by kernel_rfl) (by kernel_rfl) rfl (fun H ds hd=>?_) hfn W base args ds gs before hval hW (agR hL)
 match ds,hd with
 | [_,_,_,_],_=>rfl
theorem closed:joinedFacts Tryz.prog 3 Tryz.f3 Rows.repairScrubsSpec Rows.repairScrubsRow=true:=by kernel_rfl
theorem hnm:Tryz.prog.funcNamed Rows.repairScrubsRow.func=some 3:=by kernel_rfl
theorem amD:Tryz.f3.isInstance Tryz.prog Rows.repairScrubsRow.origin Rows.repairScrubsRow.targs:=of_decide_eq_true (by kernel_rfl)
theorem hpk:¬Check.packageOf Tryz.f3.name = "main":=by decide +kernel
theorem Rm:Tryz.f3.isWrapper Tryz.prog Rows.repairScrubsRow.wrapper Rows.repairScrubsRow.mainSum:=by
 unfold Func.isWrapper
 rw [if_neg hpk]
 exact ⟨rfl,rfl⟩
theorem over:Rows.RepairScrubsSaid :=
 OpenClaim.holds_of_wide 3 Tryz.f3 rfl rfl rfl rfl rfl rfl rfl ⟨rfl,rfl,rfl,rfl,rfl⟩ rfl rfl rfl rfl rfl hnm Tryz.func3 closed amD Rm
  (fun os started H enc _=>lifted os started H enc)
theorem proved:Rows.RepairScrubsCardSaid :=
 Claim7.holds_tied_plain_at .later [] [.data] true (true, "735fe399343542a1ea0cdd487521f322e390634e776358f014c72c55326dd6e6") true over (fun _ h=>by cases h) (by kernel_rfl) (fun _ h=>by cases h) repairScrubs_row_tie rfl ⟨rfl,rfl⟩ (by kernel_rfl) rfl
  (fun f fn hf hfn=>by
   obtain rfl:f=3:=yaa ((show Tryz.prog.funcNamed "weirgate/weirgatelaw37.RepairScrubs" = some 3 by kernel_rfl).symm.trans hf) |>.symm
   obtain rfl:fn=Tryz.f3:=(yaa (Tryz.func3.symm.trans hfn)).symm
   exact ⟨by kernel_rfl,fun j t ht=>by
    have hall:(Tryz.f3.params.toList.all fun u=>!Tryz.prog.wantsStandIn u)=true:=by kernel_rfl
    exact (show Tryz.prog.wantsStandIn t=false by simpa using List.all_eq_true.1 hall t (by simpa using Array.mem_of_getElem? ht))⟩)
  (by kernel_rfl)
end Go.Proofs.YtgajgdgaghmgjaaGreatDoor.repairScrubsX
