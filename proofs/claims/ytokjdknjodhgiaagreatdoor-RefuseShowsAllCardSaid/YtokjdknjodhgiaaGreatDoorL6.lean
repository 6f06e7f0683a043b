import Derived.Test.YtokjdknjodhgiaaGreatDoorFxRX
import Derived.Test.YtokjdknjodhgiaaGreatDoorTW6
import Derived.Test.YtokjdknjodhgiaaGreatDoorRows
import Derived.Test.YtokjdknjodhgiaaGreatDoorTie
import Derived.Test.YtokjdknjodhgiaaGreatDoorCards
import Derived.Lib.LaidTab
import Derived.ProofKit
import Derived.LaidMore
import Derived.OpenShut
import Derived.Lay
import Derived.Stop.Joined
set_option linter.unusedVariables false
set_option linter.unusedSimpArgs false
set_option linter.unusedSectionVars false
open Option.some renaming inj → yaa
namespace Go.Proofs.YtokjdknjodhgiaaGreatDoor.refuseShowsAllX
open Go.ChangeShapes Go.WideShapes Go.ChangeAt Go.RowKit Go.Fx
theorem own:ownKnob Tryz.prog.godebug=none:=by kernel_rfl
def tys:List Fx.T:=[.st [.sl 3 (.st [.int .i64,.int .i64,.int .i64]),.sl 4 (.st [.int .i64,.int .i64,.int .i64,.int .i64])],.int .i64]
theorem Zq:Nh Tryz.prog Tryz.f6.params.toList=some tys:=by kernel_rfl
theorem laidOut:laidOutB Tryz.prog=true:=by kernel_rfl
theorem hfn:∀ xs,WfA tys xs→Fx.Fn Tryz.prog 6 xs [] [] (fun r _=>r=.b true):=Fx.E.fn6
def laid:List (String × DataW Unit):=Rows.refuseShowsAllRow.laid
def zs:List Int:=Jv.map fun (n:Nat)=>(n:Int)
theorem Wd:laid=[("weirgate/hash.constants",Lib.tabData .u32 zs)]:=by kernel_rfl
theorem cell_of {W:World} {name:String} {g:Nat} {t e:TypeId} {fuel:Nat} {cs:Array Value} {base:Nat} {sp:Nat→Bool} {held:Bool} {p:List MemPlace} (hg:Tryz.prog.globalNamed name=some g)
  (ht:Tryz.prog.underlying t=some (.array 64 e)) (he:Tryz.prog.underlying e=some (.int .u32)) (hce:Tryz.prog.cellsOf e=1) (hct:Tryz.prog.cellsOf t=64) (hv:W.var? Tryz.prog name=some cs)
  {enc:TypeId × Value→Unit} (hd:DataW.trod enc Tryz.prog W base sp held fuel t cs.toList=some (Lib.tabData .u32 zs,p)) (i:Nat) (h:i<vN.length):W.cell? ⟨g,i,none⟩=some vN[i]:=by
 have h1:=Lib.cells_of_tab ht he hce hct hd
 rw [World.var?_cell hg hv i,←Array.getElem?_toList,h1]
 have h2:(zs.map fun z=>Value.int .u32 z)=vN:=by rfl
 rw [h2,List.getElem?_eq_getElem h]
theorem afG {W:World} {g:Nat} {v:Value} (h:W.cell? ⟨g,0,none⟩=some v):g<W.heap.size:=by
 unfold World.cell? at h
 apply Classical.byContradiction
 intro hn
 rw [Array.getElem?_eq_none (show W.heap.size≤g by omega)] at h
 cases h
theorem abC {W:World} (h:laidMetH Tryz.prog laid W):(∀ b,Tb b→b<W.heap.size)∧Ud W:=by
 rw [Wd,MakeChecks.laidMetH_plain _ _ _ (by kernel_rfl)] at h
 obtain ⟨ps,⟨g1,t1,cs1,f1,p1,q1,hg1,ht1,hv1,hd1,_,_⟩,_,_⟩:=h
 obtain rfl:=yaa ((show Tryz.prog.globalNamed "weirgate/hash.constants"=some 0 by kernel_rfl).symm.trans hg1)
 obtain rfl:=yaa ((show (Tryz.prog.globals[0]?).map (·.type)=some 208 by kernel_rfl).symm.trans ht1)
 have c0:∀ i (h:i<vN.length),W.cell? ⟨0,i,none⟩=some vN[i]:=cell_of hg1 (t:=208) (e:=149) (by kernel_rfl) (by kernel_rfl) (by kernel_rfl) (by kernel_rfl) hv1 hd1
 have hk:0<vN.length:=by decide
 refine ⟨fun b hb=>?_,fun p hp i h=>?_⟩
 ·obtain ⟨p,hp,rfl⟩:=hb
  simp only [tabs,List.mem_cons,List.not_mem_nil,or_false] at hp
  subst hp
  exact afG (c0 0 hk)
 ·simp only [tabs,List.mem_cons,List.not_mem_nil,or_false] at hp
  subst hp
  exact c0 i h
set_option maxRecDepth 100000 in
theorem lifted (os:Os) (started:os.Started) (H:Type) (enc:TypeId × Value→H) :
  ReturnsInHanded {} Tryz.checked os 6 .any (fun w args=>(Rows.refuseShowsAllSpec.pre enc Tryz.prog Tryz.f6 Rows.refuseShowsAllRow.domain false w args∧laidMetH Tryz.prog laid w)∧sizedMet enc Tryz.prog Tryz.f6 (OpenSpec.ofChange Rows.refuseShowsAllSpec) false w args)
   (Rows.refuseShowsAllSpec.post enc Tryz.prog Tryz.f6 false true false false):=by
 refine returnsInHanded_of_change_and (C:=Tryz.checked) (X:=fun w _=>laidMetH Tryz.prog laid w) (fun _ _ _ hh h=>h.of_heap hh) own started (by kernel_rfl) Tryz.func6
  (ChangeSpec.witness_shaped (enc:=enc) (C:=Tryz.checked) (os:=os) (X:=fun w _=>laidMetH Tryz.prog laid w) false (World.laidAll Tryz.prog os laid) #[.agg #[.slice none 0 0,.slice none 0 0],.int .i64 0] 8 (World.laidAll_os _ _ _)
   (World.shaped_of_ZipB (by kernel_rfl) (by kernel_rfl)) (by kernel_rfl) (by kernel_rfl) (by kernel_rfl)
   (by rw [MakeChecks.laidMetH_plain _ _ _ (by kernel_rfl)];exact laidMet_laidAll _ (by kernel_rfl) (by kernel_rfl))) ?_
 intro W base args ds gs before hval hW _ _ hL _
 refine Em (tb:=4) laidOut Zq (by kernel_rfl) (by kernel_rfl) (by kernel_rfl) rfl (fun H ds hd=>?_) hfn W base args ds gs before hval hW (abC hL)
 match ds,hd with
 | [_,_],_=>rfl
theorem over:Rows.RefuseShowsAllSaid :=
 OpenClaim.holds_of_wide 6 Tryz.f6 rfl rfl rfl rfl rfl rfl rfl ⟨rfl,rfl,rfl,rfl,rfl⟩ rfl rfl rfl rfl rfl (by kernel_rfl) Tryz.func6 (by kernel_rfl)
  (of_decide_eq_true (by kernel_rfl)) (by unfold Func.isWrapper;first|(rw [if_pos (by decide +kernel)];kernel_rfl)|(rw [if_neg (by decide +kernel)];exact ⟨rfl,rfl⟩))
  (fun os started H enc _=>lifted os started H enc)
theorem proved:Rows.RefuseShowsAllCardSaid :=
 Claim7.holds_tied_plain_at .later [] [.data] true (true, "3ba1a38e1e48c92718de5ca1122190e124041f9677043c297d89d276cd0f10f9") false over (fun _ h=>by cases h) (by kernel_rfl) (fun _ h=>by cases h) refuseShowsAll_row_tie rfl ⟨rfl,rfl⟩ (by kernel_rfl) rfl
  (fun f fn hf hfn=>by
   obtain rfl:f=6:=yaa ((show Tryz.prog.funcNamed "weirgate/weirgatelaw41.RefuseShowsAll"=some 6 by kernel_rfl).symm.trans hf) |>.symm
   obtain rfl:fn=Tryz.f6:=(yaa (Tryz.func6.symm.trans hfn)).symm
   exact ⟨by kernel_rfl,fun j t ht=>by
    have hall:(Tryz.f6.params.toList.all fun u=>!Tryz.prog.wantsStandIn u)=true:=by kernel_rfl
    exact (show Tryz.prog.wantsStandIn t=false by simpa using List.all_eq_true.1 hall t (by simpa using Array.mem_of_getElem? ht))⟩)
  (by kernel_rfl)
end Go.Proofs.YtokjdknjodhgiaaGreatDoor.refuseShowsAllX
