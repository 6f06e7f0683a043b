import Derived.Test.YtebjeeogjepcaaaGreatDoorHLow0
import Derived.Test.YtebjeeogjepcaaaGreatDoorTW8
import Derived.Test.YtebjeeogjepcaaaGreatDoorRows
import Derived.Test.YtebjeeogjepcaaaGreatDoorTie
import Derived.Test.YtebjeeogjepcaaaGreatDoorCards
import Derived.Lib.LaidTab
import Derived.ProofKit
import Derived.LaidMore
import Derived.OpenShut
import Derived.Lay
import Derived.Stop.Joined
set_option linter.unusedVariables false
set_option linter.unusedSimpArgs false
set_option linter.unusedSectionVars false
open Option.some renaming inj → yaa
namespace Go.Proofs.YtebjeeogjepcaaaGreatDoor.repairFindsDamageX
open Go.ChangeShapes Go.WideShapes Go.ChangeAt Go.RowKit Go.Fx
theorem own:ownKnob Tryz.prog.godebug=none:=by kernel_rfl
def tys:List Fx.T:=[.str,.int .i64,.str,.sl 2 (.st [.int .i64,.int .i64])]
theorem Ua:Io Tryz.prog Tryz.f8.params.toList=some tys:=by kernel_rfl
theorem laidOut:laidOutB Tryz.prog=true:=by kernel_rfl
theorem hfn:∀ xs,WfA tys xs→Fx.Fn Tryz.prog 8 xs [] [] (fun r _=>r=.b true):=Fx.H.fn8
def laid:List (String × DataW Unit):=Rows.repairFindsDamageRow.laid
def zs:List Int:=Fe.map fun (n:Nat)=>(n:Int)
theorem Rb:laid=[("weirgate/hash.constants",Lib.tabData .u32 zs)]:=by kernel_rfl
theorem cell_of {W:World} {name:String} {g:Nat} {t e:TypeId} {fuel:Nat} {cs:Array Value} {base:Nat} {sp:Nat→Bool} {held:Bool} {p:List MemPlace} (hg:Tryz.prog.globalNamed name=some g)
  (ht:Tryz.prog.underlying t=some (.array 64 e)) (he:Tryz.prog.underlying e=some (.int .u32)) (hce:Tryz.prog.cellsOf e=1) (hct:Tryz.prog.cellsOf t=64) (hv:W.var? Tryz.prog name=some cs)
  {enc:TypeId × Value→Unit} (hd:DataW.trod enc Tryz.prog W base sp held fuel t cs.toList=some (Lib.tabData .u32 zs,p)) (i:Nat) (h:i<tC.length):W.cell? ⟨g,i,none⟩=some tC[i]:=by
 have h1:=Lib.cells_of_tab ht he hce hct hd
 rw [World.var?_cell hg hv i,←Array.getElem?_toList,h1]
 have h2:(zs.map fun z=>Value.int .u32 z)=tC:=by rfl
 rw [h2,List.getElem?_eq_getElem h]
theorem Zx {W:World} {g:Nat} {v:Value} (h:W.cell? ⟨g,0,none⟩=some v):g<W.heap.size:=by
 unfold World.cell? at h
 apply Classical.byContradiction
 intro hn
 rw [Array.getElem?_eq_none (show W.heap.size≤g by omega)] at h
 cases h
theorem Wf {W:World} (h:laidMetH Tryz.prog laid W):(∀ b,Tb b→b<W.heap.size)∧Pg W:=by
 rw [Rb,MakeChecks.laidMetH_plain _ _ _ (by kernel_rfl)] at h
 obtain ⟨ps,⟨g1,t1,cs1,f1,p1,q1,hg1,ht1,hv1,hd1,_,_⟩,_,_⟩:=h
 obtain rfl:=yaa ((show Tryz.prog.globalNamed "weirgate/hash.constants" = some 0 by kernel_rfl).symm.trans hg1)
 obtain rfl:=yaa ((show (Tryz.prog.globals[0]?).map (·.type)=some 252 by kernel_rfl).symm.trans ht1)
 have c0:∀ i (h:i<tC.length),W.cell? ⟨0,i,none⟩=some tC[i]:=cell_of hg1 (t:=252) (e:=199) (by kernel_rfl) (by kernel_rfl) (by kernel_rfl) (by kernel_rfl) hv1 hd1
 have hk:0<tC.length:=by decide
 refine ⟨fun b hb=>?_,fun p hp i h=>?_⟩
 ·obtain ⟨p,hp,rfl⟩:=hb
  simp only [tabs,List.mem_cons,List.not_mem_nil,or_false] at hp
  subst hp
  exact Zx (c0 0 hk)
 ·simp only [tabs,List.mem_cons,List.not_mem_nil,or_false] at hp
  subst hp
  exact c0 i h
set_option maxRecDepth 100000 in
theorem lifted (os:Os) (started:os.Started) (H:Type) (enc:TypeId × Value→H) :
  ReturnsInHanded {} Tryz.checked os 8 .any (fun w args=>(Rows.repairFindsDamageSpec.pre enc Tryz.prog Tryz.f8 Rows.repairFindsDamageRow.domain false w args∧laidMetH Tryz.prog laid w)∧sizedMet enc Tryz.prog Tryz.f8 (OpenSpec.ofChange Rows.repairFindsDamageSpec) false w args)
   (Rows.repairFindsDamageSpec.post enc Tryz.prog Tryz.f8 false true false false):=by
 refine returnsInHanded_of_change_and (C:=Tryz.checked) (X:=fun w _=>laidMetH Tryz.prog laid w) (fun _ _ _ hh h=>h.of_heap hh) own started (by kernel_rfl) Tryz.func8
  (ChangeSpec.witness_shaped (enc:=enc) (C:=Tryz.checked) (os:=os) (X:=fun w _=>laidMetH Tryz.prog laid w) false (World.laidAll Tryz.prog os laid) #[.string ⟨#[]⟩,.int .i64 0,.string ⟨#[]⟩,.slice none 0 0] 8 (World.laidAll_os _ _ _)
   (World.shaped_of_ZipB (by kernel_rfl) (by kernel_rfl)) (by kernel_rfl) (by kernel_rfl) (by kernel_rfl)
   (by rw [MakeChecks.laidMetH_plain _ _ _ (by kernel_rfl)];exact laidMet_laidAll _ (by kernel_rfl) (by kernel_rfl))) ?_
 intro W base args ds gs before hval hW _ _ hL _
 refine z6 (tb:=4) laidOut Ua (by kernel_rfl) (by kernel_rfl) (by kernel_rfl) rfl (fun H ds hd=>?_) hfn W base args ds gs before hval hW (Wf hL)
 match ds,hd with
 | [_,_,_,_],_=>rfl
theorem closed:joinedFacts Tryz.prog 8 Tryz.f8 Rows.repairFindsDamageSpec Rows.repairFindsDamageRow=true:=by kernel_rfl
theorem hnm:Tryz.prog.funcNamed Rows.repairFindsDamageRow.func=some 8:=by kernel_rfl
theorem aaI:Tryz.f8.isInstance Tryz.prog Rows.repairFindsDamageRow.origin Rows.repairFindsDamageRow.targs:=of_decide_eq_true (by kernel_rfl)
theorem hpk:¬Check.packageOf Tryz.f8.name = "main":=by decide +kernel
theorem Id:Tryz.f8.isWrapper Tryz.prog Rows.repairFindsDamageRow.wrapper Rows.repairFindsDamageRow.mainSum:=by
 unfold Func.isWrapper
 rw [if_neg hpk]
 exact ⟨rfl,rfl⟩
theorem over:Rows.RepairFindsDamageSaid :=
 OpenClaim.holds_of_wide 8 Tryz.f8 rfl rfl rfl rfl rfl rfl rfl ⟨rfl,rfl,rfl,rfl,rfl⟩ rfl rfl rfl rfl rfl hnm Tryz.func8 closed aaI Id
  (fun os started H enc _=>lifted os started H enc)
theorem proved:Rows.RepairFindsDamageCardSaid :=
 Claim7.holds_tied_plain_at .later [] [.data] true (true, "0b2f6ad84bf070f40bdb7e71ec86fd432f5077cca069f5d2df043c18a9208170") true over (fun _ h=>by cases h) (by kernel_rfl) (fun _ h=>by cases h) repairFindsDamage_row_tie rfl ⟨rfl,rfl⟩ (by kernel_rfl) rfl
  (fun f fn hf hfn=>by
   obtain rfl:f=8:=yaa ((show Tryz.prog.funcNamed "weirgate/weirgatelaw37.RepairFindsDamage" = some 8 by kernel_rfl).symm.trans hf) |>.symm
   obtain rfl:fn=Tryz.f8:=(yaa (Tryz.func8.symm.trans hfn)).symm
   exact ⟨by kernel_rfl,fun j t ht=>by
    have hall:(Tryz.f8.params.toList.all fun u=>!Tryz.prog.wantsStandIn u)=true:=by kernel_rfl
    exact (show Tryz.prog.wantsStandIn t=false by simpa using List.all_eq_true.1 hall t (by simpa using Array.mem_of_getElem? ht))⟩)
  (by kernel_rfl)
end Go.Proofs.YtebjeeogjepcaaaGreatDoor.repairFindsDamageX
