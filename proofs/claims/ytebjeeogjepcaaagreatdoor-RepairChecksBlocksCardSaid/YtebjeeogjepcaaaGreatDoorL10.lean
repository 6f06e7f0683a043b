import Derived.Test.YtebjeeogjepcaaaGreatDoorHLow0
import Derived.Test.YtebjeeogjepcaaaGreatDoorTW10
import Derived.Test.YtebjeeogjepcaaaGreatDoorRows
import Derived.Test.YtebjeeogjepcaaaGreatDoorTie
import Derived.Test.YtebjeeogjepcaaaGreatDoorCards
import Derived.Lib.LaidTab
import Derived.ProofKit
import Derived.LaidMore
import Derived.OpenShut
import Derived.Lay
import Derived.Stop.Joined
set_option linter.unusedVariables false
set_option linter.unusedSimpArgs false
set_option linter.unusedSectionVars false
open Option.some renaming inj → yaa
namespace Go.Proofs.YtebjeeogjepcaaaGreatDoor.repairChecksBlocksX
open Go.ChangeShapes Go.WideShapes Go.ChangeAt Go.RowKit Go.Fx
theorem own:ownKnob Tryz.prog.godebug=none:=by kernel_rfl
def tys:List Fx.T:=[.str,.int .i64,.int .u16]
theorem Ud:It Tryz.prog Tryz.f10.params.toList=some tys:=by kernel_rfl
theorem laidOut:laidOutB Tryz.prog=true:=by kernel_rfl
theorem hfn:∀ xs,WfA tys xs→Fx.Fn Tryz.prog 10 xs [] [] (fun r _=>r=.b true):=Fx.H.fn10
def laid:List (String × DataW Unit):=Rows.repairChecksBlocksRow.laid
def zs:List Int:=Fj.map fun (n:Nat)=>(n:Int)
theorem Re:laid=[("weirgate/hash.constants",Lib.tabData .u32 zs)]:=by kernel_rfl
theorem cell_of {W:World} {name:String} {g:Nat} {t e:TypeId} {fuel:Nat} {cs:Array Value} {base:Nat} {sp:Nat→Bool} {held:Bool} {p:List MemPlace} (hg:Tryz.prog.globalNamed name=some g)
  (ht:Tryz.prog.underlying t=some (.array 64 e)) (he:Tryz.prog.underlying e=some (.int .u32)) (hce:Tryz.prog.cellsOf e=1) (hct:Tryz.prog.cellsOf t=64) (hv:W.var? Tryz.prog name=some cs)
  {enc:TypeId × Value→Unit} (hd:DataW.trod enc Tryz.prog W base sp held fuel t cs.toList=some (Lib.tabData .u32 zs,p)) (i:Nat) (h:i<tC.length):W.cell? ⟨g,i,none⟩=some tC[i]:=by
 have h1:=Lib.cells_of_tab ht he hce hct hd
 rw [World.var?_cell hg hv i,←Array.getElem?_toList,h1]
 have h2:(zs.map fun z=>Value.int .u32 z)=tC:=by rfl
 rw [h2,List.getElem?_eq_getElem h]
theorem aaE {W:World} {g:Nat} {v:Value} (h:W.cell? ⟨g,0,none⟩=some v):g<W.heap.size:=by
 unfold World.cell? at h
 apply Classical.byContradiction
 intro hn
 rw [Array.getElem?_eq_none (show W.heap.size≤g by omega)] at h
 cases h
theorem Wh {W:World} (h:laidMetH Tryz.prog laid W):(∀ b,Tb b→b<W.heap.size)∧Pj W:=by
 rw [Re,MakeChecks.laidMetH_plain _ _ _ (by kernel_rfl)] at h
 obtain ⟨ps,⟨g1,t1,cs1,f1,p1,q1,hg1,ht1,hv1,hd1,_,_⟩,_,_⟩:=h
 obtain rfl:=yaa ((show Tryz.prog.globalNamed "weirgate/hash.constants" = some 0 by kernel_rfl).symm.trans hg1)
 obtain rfl:=yaa ((show (Tryz.prog.globals[0]?).map (·.type)=some 252 by kernel_rfl).symm.trans ht1)
 have c0:∀ i (h:i<tC.length),W.cell? ⟨0,i,none⟩=some tC[i]:=cell_of hg1 (t:=252) (e:=199) (by kernel_rfl) (by kernel_rfl) (by kernel_rfl) (by kernel_rfl) hv1 hd1
 have hk:0<tC.length:=by decide
 refine ⟨fun b hb=>?_,fun p hp i h=>?_⟩
 ·obtain ⟨p,hp,rfl⟩:=hb
  simp only [tabs,List.mem_cons,List.not_mem_nil,or_false] at hp
  subst hp
  exact aaE (c0 0 hk)
 ·simp only [tabs,List.mem_cons,List.not_mem_nil,or_false] at hp
  subst hp
  exact c0 i h
set_option maxRecDepth 100000 in
theorem lifted (os:Os) (started:os.Started) (H:Type) (enc:TypeId × Value→H) :
  ReturnsInHanded {} Tryz.checked os 10 .any (fun w args=>(Rows.repairChecksBlocksSpec.pre enc Tryz.prog Tryz.f10 Rows.repairChecksBlocksRow.domain false w args∧laidMetH Tryz.prog laid w)∧sizedMet enc Tryz.prog Tryz.f10 (OpenSpec.ofChange Rows.repairChecksBlocksSpec) false w args)
   (Rows.repairChecksBlocksSpec.post enc Tryz.prog Tryz.f10 false true false false):=by
 refine returnsInHanded_of_change_and (C:=Tryz.checked) (X:=fun w _=>laidMetH Tryz.prog laid w) (fun _ _ _ hh h=>h.of_heap hh) own started (by kernel_rfl) Tryz.func10
  (ChangeSpec.witness_shaped (enc:=enc) (C:=Tryz.checked) (os:=os) (X:=fun w _=>laidMetH Tryz.prog laid w) false (World.laidAll Tryz.prog os laid) #[.string ⟨#[]⟩,.int .i64 0,.int .u16 0] 8 (World.laidAll_os _ _ _)
   (World.shaped_of_ZipB (by kernel_rfl) (by kernel_rfl)) (by kernel_rfl) (by kernel_rfl) (by kernel_rfl)
   (by rw [MakeChecks.laidMetH_plain _ _ _ (by kernel_rfl)];exact laidMet_laidAll _ (by kernel_rfl) (by kernel_rfl))) ?_
 intro W base args ds gs before hval hW _ _ hL _
 refine Ae (tb:=4) laidOut Ud (by kernel_rfl) (by kernel_rfl) (by kernel_rfl) rfl (fun H ds hd=>?_) hfn W base args ds gs before hval hW (Wh hL)
 match ds,hd with
 | [_,_,_],_=>rfl
theorem closed:joinedFacts Tryz.prog 10 Tryz.f10 Rows.repairChecksBlocksSpec Rows.repairChecksBlocksRow=true:=by kernel_rfl
theorem hnm:Tryz.prog.funcNamed Rows.repairChecksBlocksRow.func=some 10:=by kernel_rfl
theorem aaO:Tryz.f10.isInstance Tryz.prog Rows.repairChecksBlocksRow.origin Rows.repairChecksBlocksRow.targs:=of_decide_eq_true (by kernel_rfl)
theorem hpk:¬Check.packageOf Tryz.f10.name = "main":=by decide +kernel
theorem Ig:Tryz.f10.isWrapper Tryz.prog Rows.repairChecksBlocksRow.wrapper Rows.repairChecksBlocksRow.mainSum:=by
 unfold Func.isWrapper
 rw [if_neg hpk]
 exact ⟨rfl,rfl⟩
theorem over:Rows.RepairChecksBlocksSaid :=
 OpenClaim.holds_of_wide 10 Tryz.f10 rfl rfl rfl rfl rfl rfl rfl ⟨rfl,rfl,rfl,rfl,rfl⟩ rfl rfl rfl rfl rfl hnm Tryz.func10 closed aaO Ig
  (fun os started H enc _=>lifted os started H enc)
theorem proved:Rows.RepairChecksBlocksCardSaid :=
 Claim7.holds_tied_plain_at .later [] [.data] true (true, "0b2f6ad84bf070f40bdb7e71ec86fd432f5077cca069f5d2df043c18a9208170") true over (fun _ h=>by cases h) (by kernel_rfl) (fun _ h=>by cases h) repairChecksBlocks_row_tie rfl ⟨rfl,rfl⟩ (by kernel_rfl) rfl
  (fun f fn hf hfn=>by
   obtain rfl:f=10:=yaa ((show Tryz.prog.funcNamed "weirgate/weirgatelaw37.RepairChecksBlocks" = some 10 by kernel_rfl).symm.trans hf) |>.symm
   obtain rfl:fn=Tryz.f10:=(yaa (Tryz.func10.symm.trans hfn)).symm
   exact ⟨by kernel_rfl,fun j t ht=>by
    have hall:(Tryz.f10.params.toList.all fun u=>!Tryz.prog.wantsStandIn u)=true:=by kernel_rfl
    exact (show Tryz.prog.wantsStandIn t=false by simpa using List.all_eq_true.1 hall t (by simpa using Array.mem_of_getElem? ht))⟩)
  (by kernel_rfl)
end Go.Proofs.YtebjeeogjepcaaaGreatDoor.repairChecksBlocksX
