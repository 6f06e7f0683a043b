import Derived.Test.YtpnikndmidcedaaDoorKLow1
import Derived.Test.YtpnikndmidcedaaDoorTW3
import Derived.Test.YtpnikndmidcedaaDoorRows
import Derived.Test.YtpnikndmidcedaaDoorTie
import Derived.Test.YtpnikndmidcedaaDoorCards
import Derived.Lib.LaidTab
import Derived.ProofKit
import Derived.LaidMore
import Derived.OpenShut
import Derived.Lay
import Derived.Stop.Joined
set_option linter.unusedVariables false
set_option linter.unusedSimpArgs false
set_option linter.unusedSectionVars false
open Option.some renaming inj → yaa
namespace Go.Proofs.YtpnikndmidcedaaDoor.chunkOpensAnythingX
open Go.ChangeShapes Go.WideShapes Go.ChangeAt Go.RowKit Go.Fx
theorem own:ownKnob Tryd.prog.godebug=none:=by kernel_rfl
def tys:List Fx.T:=[.int .u16,.sl 1 (.int .u16),.sl 64 (.st [.int .u8,.int .u8,.int .u8,.int .u8,.int .u8,.int .u8,.int .u8,.int .u8,.int .u8,.int .u8,.int .u8,.int .u8,.int .u8,.int .u8,.int .u8,.int .u8,.int .u8,.int .u8,.int .u8,.int .u8,.int .u8,.int .u8,.int .u8,.int .u8,.int .u8,.int .u8,.int .u8,.int .u8,.int .u8,.int .u8,.int .u8,.int .u8,.int .u8,.int .u8,.int .u8,.int .u8,.int .u8,.int .u8,.int .u8,.int .u8,.int .u8,.int .u8,.int .u8,.int .u8,.int .u8,.int .u8,.int .u8,.int .u8,.int .u8,.int .u8,.int .u8,.int .u8,.int .u8,.int .u8,.int .u8,.int .u8,.int .u8,.int .u8,.int .u8,.int .u8,.int .u8,.int .u8,.int .u8,.int .u8])]
theorem Va:Jr Tryd.prog Tryd.f3.params.toList=some tys:=by kernel_rfl
theorem laidOut:laidOutB Tryd.prog=true:=by kernel_rfl
theorem hfn:∀ xs,WfA tys xs→Fx.Fn Tryd.prog 3 xs [] [] (fun r _=>r=.b true):=Fx.K.fn3
def laid:List (String × DataW Unit):=Rows.chunkOpensAnythingRow.laid
def zs:List Int:=Gj.map fun (n:Nat)=>(n:Int)
theorem Sb:laid=[("weirgate/hash.constants",Lib.tabData .u32 zs)]:=by kernel_rfl
theorem cell_of {W:World} {name:String} {g:Nat} {t e:TypeId} {fuel:Nat} {cs:Array Value} {base:Nat} {sp:Nat→Bool} {held:Bool} {p:List MemPlace} (hg:Tryd.prog.globalNamed name=some g)
  (ht:Tryd.prog.underlying t=some (.array 64 e)) (he:Tryd.prog.underlying e=some (.int .u32)) (hce:Tryd.prog.cellsOf e=1) (hct:Tryd.prog.cellsOf t=64) (hv:W.var? Tryd.prog name=some cs)
  {enc:TypeId × Value→Unit} (hd:DataW.trod enc Tryd.prog W base sp held fuel t cs.toList=some (Lib.tabData .u32 zs,p)) (i:Nat) (h:i<tM.length):W.cell? ⟨g,i,none⟩=some tM[i]:=by
 have h1:=Lib.cells_of_tab ht he hce hct hd
 rw [World.var?_cell hg hv i,←Array.getElem?_toList,h1]
 have h2:(zs.map fun z=>Value.int .u32 z)=tM:=by rfl
 rw [h2,List.getElem?_eq_getElem h]
theorem acD {W:World} {g:Nat} {v:Value} (h:W.cell? ⟨g,0,none⟩=some v):g<W.heap.size:=by
 unfold World.cell? at h
 apply Classical.byContradiction
 intro hn
 rw [Array.getElem?_eq_none (show W.heap.size≤g by omega)] at h
 cases h
theorem Wv {W:World} (h:laidMetH Tryd.prog laid W):(∀ b,Tb b→b<W.heap.size)∧Qg W:=by
 rw [Sb,MakeChecks.laidMetH_plain _ _ _ (by kernel_rfl)] at h
 obtain ⟨ps,⟨g1,t1,cs1,f1,p1,q1,hg1,ht1,hv1,hd1,_,_⟩,_,_⟩:=h
 obtain rfl:=yaa ((show Tryd.prog.globalNamed "weirgate/hash.constants" = some 0 by kernel_rfl).symm.trans hg1)
 obtain rfl:=yaa ((show (Tryd.prog.globals[0]?).map (·.type)=some 139 by kernel_rfl).symm.trans ht1)
 have c0:∀ i (h:i<tM.length),W.cell? ⟨0,i,none⟩=some tM[i]:=cell_of hg1 (t:=139) (e:=101) (by kernel_rfl) (by kernel_rfl) (by kernel_rfl) (by kernel_rfl) hv1 hd1
 have hk:0<tM.length:=by decide
 refine ⟨fun b hb=>?_,fun p hp i h=>?_⟩
 ·obtain ⟨p,hp,rfl⟩:=hb
  simp only [tabs,List.mem_cons,List.not_mem_nil,or_false] at hp
  subst hp
  exact acD (c0 0 hk)
 ·simp only [tabs,List.mem_cons,List.not_mem_nil,or_false] at hp
  subst hp
  exact c0 i h
set_option maxRecDepth 100000 in
theorem lifted (os:Os) (started:os.Started) (H:Type) (enc:TypeId × Value→H) :
  ReturnsInHanded {} Tryd.checked os 3 .any (fun w args=>(Rows.chunkOpensAnythingSpec.pre enc Tryd.prog Tryd.f3 Rows.chunkOpensAnythingRow.domain false w args∧laidMetH Tryd.prog laid w)∧sizedMet enc Tryd.prog Tryd.f3 (OpenSpec.ofChange Rows.chunkOpensAnythingSpec) false w args)
   (Rows.chunkOpensAnythingSpec.post enc Tryd.prog Tryd.f3 false true false false):=by
 refine returnsInHanded_of_change_and (C:=Tryd.checked) (X:=fun w _=>laidMetH Tryd.prog laid w) (fun _ _ _ hh h=>h.of_heap hh) own started (by kernel_rfl) Tryd.func3
  (ChangeSpec.witness_shaped (enc:=enc) (C:=Tryd.checked) (os:=os) (X:=fun w _=>laidMetH Tryd.prog laid w) false (World.laidAll Tryd.prog os laid) #[.int .u16 0,.slice none 0 0,.slice none 0 0] 8 (World.laidAll_os _ _ _)
   (World.shaped_of_ZipB (by kernel_rfl) (by kernel_rfl)) (by kernel_rfl) (by kernel_rfl) (by kernel_rfl)
   (by rw [MakeChecks.laidMetH_plain _ _ _ (by kernel_rfl)];exact laidMet_laidAll _ (by kernel_rfl) (by kernel_rfl))) ?_
 intro W base args ds gs before hval hW _ _ hL _
 refine Bl (tb:=4) laidOut Va (by kernel_rfl) (by kernel_rfl) (by kernel_rfl) rfl (fun H ds hd=>?_) hfn W base args ds gs before hval hW (Wv hL)
 match ds,hd with
 | [_,_,_],_=>rfl
theorem closed:joinedFacts Tryd.prog 3 Tryd.f3 Rows.chunkOpensAnythingSpec Rows.chunkOpensAnythingRow=true:=by kernel_rfl
theorem hnm:Tryd.prog.funcNamed Rows.chunkOpensAnythingRow.func=some 3:=by kernel_rfl
theorem acJ:Tryd.f3.isInstance Tryd.prog Rows.chunkOpensAnythingRow.origin Rows.chunkOpensAnythingRow.targs:=of_decide_eq_true (by kernel_rfl)
theorem hpk:¬Check.packageOf Tryd.f3.name = "main":=by decide +kernel
theorem Ir:Tryd.f3.isWrapper Tryd.prog Rows.chunkOpensAnythingRow.wrapper Rows.chunkOpensAnythingRow.mainSum:=by
 unfold Func.isWrapper
 rw [if_neg hpk]
 exact ⟨rfl,rfl⟩
theorem over:Rows.ChunkOpensAnythingSaid :=
 OpenClaim.holds_of_wide 3 Tryd.f3 rfl rfl rfl rfl rfl rfl rfl ⟨rfl,rfl,rfl,rfl,rfl⟩ rfl rfl rfl rfl rfl hnm Tryd.func3 closed acJ Ir
  (fun os started H enc _=>lifted os started H enc)
theorem proved:Rows.ChunkOpensAnythingCardSaid :=
 Claim7.holds_tied_plain_at .later [] [.data] true (true, "df59007bc068d6163b9737578afc6930cfaceb5e63dc0103a1c90dc3bbae6e06") true over (fun _ h=>by cases h) (by kernel_rfl) (fun _ h=>by cases h) chunkOpensAnything_row_tie rfl ⟨rfl,rfl⟩ (by kernel_rfl) rfl
  (fun f fn hf hfn=>by
   obtain rfl:f=3:=yaa ((show Tryd.prog.funcNamed "weirgate/weirgatelaw14.ChunkOpensAnything" = some 3 by kernel_rfl).symm.trans hf) |>.symm
   obtain rfl:fn=Tryd.f3:=(yaa (Tryd.func3.symm.trans hfn)).symm
   exact ⟨by kernel_rfl,fun j t ht=>by
    have hall:(Tryd.f3.params.toList.all fun u=>!Tryd.prog.wantsStandIn u)=true:=by kernel_rfl
    exact (show Tryd.prog.wantsStandIn t=false by simpa using List.all_eq_true.1 hall t (by simpa using Array.mem_of_getElem? ht))⟩)
  (by kernel_rfl)
end Go.Proofs.YtpnikndmidcedaaDoor.chunkOpensAnythingX
