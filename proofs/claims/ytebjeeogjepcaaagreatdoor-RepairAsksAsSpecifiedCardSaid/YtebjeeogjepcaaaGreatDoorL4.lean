import Derived.Test.YtebjeeogjepcaaaGreatDoorHLow0
import Derived.Test.YtebjeeogjepcaaaGreatDoorTW9
import Derived.Test.YtebjeeogjepcaaaGreatDoorRows
import Derived.Test.YtebjeeogjepcaaaGreatDoorTie
import Derived.Test.YtebjeeogjepcaaaGreatDoorCards
import Derived.Lib.LaidTab
import Derived.ProofKit
import Derived.LaidMore
import Derived.OpenShut
import Derived.Lay
import Derived.Stop.Joined
set_option linter.unusedVariables false
set_option linter.unusedSimpArgs false
set_option linter.unusedSectionVars false
open Option.some renaming inj → yaa
namespace Go.Proofs.YtebjeeogjepcaaaGreatDoor.repairAsksAsSpecifiedX
open Go.ChangeShapes Go.WideShapes Go.ChangeAt Go.RowKit Go.Fx
theorem own:ownKnob Tryz.prog.godebug=none:=by kernel_rfl
def tys:List Fx.T:=[.sl 2 (.st [.int .i64,.int .i64]),.int .i64]
theorem Tf:Ic Tryz.prog Tryz.f4.params.toList=some tys:=by kernel_rfl
theorem laidOut:laidOutB Tryz.prog=true:=by kernel_rfl
theorem hfn:∀ xs,WfA tys xs→Fx.Fn Tryz.prog 4 xs [] [] (fun r _=>r=.b true):=Fx.H.fn4
def laid:List (String × DataW Unit):=Rows.repairAsksAsSpecifiedRow.laid
def zs:List Int:=Eu.map fun (n:Nat)=>(n:Int)
theorem Qj:laid=[("weirgate/hash.constants",Lib.tabData .u32 zs)]:=by kernel_rfl
theorem cell_of {W:World} {name:String} {g:Nat} {t e:TypeId} {fuel:Nat} {cs:Array Value} {base:Nat} {sp:Nat→Bool} {held:Bool} {p:List MemPlace} (hg:Tryz.prog.globalNamed name=some g)
  (ht:Tryz.prog.underlying t=some (.array 64 e)) (he:Tryz.prog.underlying e=some (.int .u32)) (hce:Tryz.prog.cellsOf e=1) (hct:Tryz.prog.cellsOf t=64) (hv:W.var? Tryz.prog name=some cs)
  {enc:TypeId × Value→Unit} (hd:DataW.trod enc Tryz.prog W base sp held fuel t cs.toList=some (Lib.tabData .u32 zs,p)) (i:Nat) (h:i<sP.length):W.cell? ⟨g,i,none⟩=some sP[i]:=by
 have h1:=Lib.cells_of_tab ht he hce hct hd
 rw [World.var?_cell hg hv i,←Array.getElem?_toList,h1]
 have h2:(zs.map fun z=>Value.int .u32 z)=sP:=by rfl
 rw [h2,List.getElem?_eq_getElem h]
theorem Ze {W:World} {g:Nat} {v:Value} (h:W.cell? ⟨g,0,none⟩=some v):g<W.heap.size:=by
 unfold World.cell? at h
 apply Classical.byContradiction
 intro hn
 rw [Array.getElem?_eq_none (show W.heap.size≤g by omega)] at h
 cases h
theorem Vk {W:World} (h:laidMetH Tryz.prog laid W):(∀ b,Tb b→b<W.heap.size)∧Oi W:=by
 rw [Qj,MakeChecks.laidMetH_plain _ _ _ (by kernel_rfl)] at h
 obtain ⟨ps,⟨g1,t1,cs1,f1,p1,q1,hg1,ht1,hv1,hd1,_,_⟩,_,_⟩:=h
 obtain rfl:=yaa ((show Tryz.prog.globalNamed "weirgate/hash.constants" = some 0 by kernel_rfl).symm.trans hg1)
 obtain rfl:=yaa ((show (Tryz.prog.globals[0]?).map (·.type)=some 252 by kernel_rfl).symm.trans ht1)
 have c0:∀ i (h:i<sP.length),W.cell? ⟨0,i,none⟩=some sP[i]:=cell_of hg1 (t:=252) (e:=199) (by kernel_rfl) (by kernel_rfl) (by kernel_rfl) (by kernel_rfl) hv1 hd1
 have hk:0<sP.length:=by decide
 refine ⟨fun b hb=>?_,fun p hp i h=>?_⟩
 ·obtain ⟨p,hp,rfl⟩:=hb
  simp only [tabs,List.mem_cons,List.not_mem_nil,or_false] at hp
  subst hp
  exact Ze (c0 0 hk)
 ·simp only [tabs,List.mem_cons,List.not_mem_nil,or_false] at hp
  subst hp
  exact c0 i h
set_option maxRecDepth 100000 in
theorem lifted (os:Os) (started:os.Started) (H:Type) (enc:TypeId × Value→H) :
  ReturnsInHanded {} Tryz.checked os 4 .any (fun w args=>(Rows.repairAsksAsSpecifiedSpec.pre enc Tryz.prog Tryz.f4 Rows.repairAsksAsSpecifiedRow.domain false w args∧laidMetH Tryz.prog laid w)∧sizedMet enc Tryz.prog Tryz.f4 (OpenSpec.ofChange Rows.repairAsksAsSpecifiedSpec) false w args)
   (Rows.repairAsksAsSpecifiedSpec.post enc Tryz.prog Tryz.f4 false true false false):=by
 refine returnsInHanded_of_change_and (C:=Tryz.checked) (X:=fun w _=>laidMetH Tryz.prog laid w) (fun _ _ _ hh h=>h.of_heap hh) own started (by kernel_rfl) Tryz.func4
  (ChangeSpec.witness_shaped (enc:=enc) (C:=Tryz.checked) (os:=os) (X:=fun w _=>laidMetH Tryz.prog laid w) false (World.laidAll Tryz.prog os laid) #[.slice none 0 0,.int .i64 0] 8 (World.laidAll_os _ _ _)
   (World.shaped_of_ZipB (by kernel_rfl) (by kernel_rfl)) (by kernel_rfl) (by kernel_rfl) (by kernel_rfl)
   (by rw [MakeChecks.laidMetH_plain _ _ _ (by kernel_rfl)];exact laidMet_laidAll _ (by kernel_rfl) (by kernel_rfl))) ?_
 intro W base args ds gs before hval hW _ _ hL _
 refine y0 (tb:=4) laidOut Tf (by kernel_rfl) (by kernel_rfl) (by kernel_rfl) rfl (fun H ds hd=>?_) hfn W base args ds gs before hval hW (Vk hL)
 match ds,hd with
 | [_,_],_=>rfl
theorem closed:joinedFacts Tryz.prog 4 Tryz.f4 Rows.repairAsksAsSpecifiedSpec Rows.repairAsksAsSpecifiedRow=true:=by kernel_rfl
theorem hnm:Tryz.prog.funcNamed Rows.repairAsksAsSpecifiedRow.func=some 4:=by kernel_rfl
theorem Zp:Tryz.f4.isInstance Tryz.prog Rows.repairAsksAsSpecifiedRow.origin Rows.repairAsksAsSpecifiedRow.targs:=of_decide_eq_true (by kernel_rfl)
theorem hpk:¬Check.packageOf Tryz.f4.name = "main":=by decide +kernel
theorem Hu:Tryz.f4.isWrapper Tryz.prog Rows.repairAsksAsSpecifiedRow.wrapper Rows.repairAsksAsSpecifiedRow.mainSum:=by
 unfold Func.isWrapper
 rw [if_neg hpk]
 exact ⟨rfl,rfl⟩
theorem over:Rows.RepairAsksAsSpecifiedSaid :=
 OpenClaim.holds_of_wide 4 Tryz.f4 rfl rfl rfl rfl rfl rfl rfl ⟨rfl,rfl,rfl,rfl,rfl⟩ rfl rfl rfl rfl rfl hnm Tryz.func4 closed Zp Hu
  (fun os started H enc _=>lifted os started H enc)
theorem proved:Rows.RepairAsksAsSpecifiedCardSaid :=
 Claim7.holds_tied_plain_at .later [] [.data] true (true, "0b2f6ad84bf070f40bdb7e71ec86fd432f5077cca069f5d2df043c18a9208170") true over (fun _ h=>by cases h) (by kernel_rfl) (fun _ h=>by cases h) repairAsksAsSpecified_row_tie rfl ⟨rfl,rfl⟩ (by kernel_rfl) rfl
  (fun f fn hf hfn=>by
   obtain rfl:f=4:=yaa ((show Tryz.prog.funcNamed "weirgate/weirgatelaw37.RepairAsksAsSpecified" = some 4 by kernel_rfl).symm.trans hf) |>.symm
   obtain rfl:fn=Tryz.f4:=(yaa (Tryz.func4.symm.trans hfn)).symm
   exact ⟨by kernel_rfl,fun j t ht=>by
    have hall:(Tryz.f4.params.toList.all fun u=>!Tryz.prog.wantsStandIn u)=true:=by kernel_rfl
    exact (show Tryz.prog.wantsStandIn t=false by simpa using List.all_eq_true.1 hall t (by simpa using Array.mem_of_getElem? ht))⟩)
  (by kernel_rfl)
end Go.Proofs.YtebjeeogjepcaaaGreatDoor.repairAsksAsSpecifiedX
