import Derived.Test.YtgajgdgaghmgjaaGreatDoorFxFrz
import Derived.WideKeyRuns
import Derived.Laws.BytesArg
import Derived.StillTail
import Derived.Deep.LoopGhost
import Derived.RangeFuncRecord
import Derived.RangeFuncNested
import Derived.OrdersHeld
set_option linter.unusedVariables false
set_option linter.unusedSimpArgs false
set_option linter.unusedSectionVars false
open Option.some renaming injEq → yaa
open Nat renaming add_mul → yab, mul_le_mul_right → yad, le_refl → yae, one_mul → yai, zero_add → yan, lt_of_lt_of_le → yaw, zero_le → yax, add_zero → yaB, mul_one → yaF, mul_comm → yaH, lt_or_gt_of_ne → yaK, zero_mul → yaO, le_mul_of_pos_right → yaR, lt_or_ge → yaU, mul_le_mul_left → ybh, le_of_eq → ybi, div_lt_of_lt_mul → ybq
open List renaming getElem?_eq_some_iff → yac, getElem?_map → yag, all_eq_true → yah, getElem?_append_left → yaj, mem_of_getElem? → yak, getElem?_take → yal, getElem?_append_right → yam, getElem?_eq_getElem → yao, getD_eq_getElem?_getD → yap, getElem?_drop → yar, append_assoc → yat, getElem?_set_ne → yau, replicate → yav, mem_cons_self → yay, getElem?_of_mem → yaA, getElem?_set_self → yaC, length_map → yaE, getElem?_replicate → yaG, mem_cons_of_mem → yaI, getElem?_set → yaJ, length_take → yaL, map_cons → yaN, eq_nil_of_length_eq_zero → yaP, length_pos_iff → yaQ, length_append → yaS, nodup_cons → yaT, mem_cons → yaW, getElem_mem → yaX, getElem?_cons_zero → yaZ, take_of_length_le → yba, size_toArray → ybd, take_zero → ybe, ext_getElem? → ybf, mem_of_mem_take → ybg, mapM_cons → ybj, getElem?_zip_eq_some → ybm, mem_append_right → ybn, range_eq_range' → ybo, drop_eq_getElem_cons → ybp, contains_iff_mem → ybs
open Option renaming map_eq_some_iff → yaf, isSome_none → yaY, map_some → ybc, bind_eq_some_iff → ybk
open Array renaming getElem?_toList → yaq, getElem?_eq_getElem → yas, toList_map → yaM, length_toList → ybb, getElem?_eq_some_iff → ybr
open Bool renaming and_eq_true → yaz, false_eq_true → yaD, false_ne_true → yaV
open List.cons renaming injEq → ybl
namespace Go.Fx
open Go.RowKit
def oM (fx bn:List Nat) (ρ:Nat→Loc) (X:Nat→Prop) (w:World) (t:Array Value) (K:V→St→Prop) (val:Value) (w':World):Prop :=
 ∃ x s' ρ',K x s'∧(aD fx s'.h∧(∀ k∈fx,ρ' k=ρ k)∧∀ k∈bn,(ρ k).real=true→ρ' k=ρ k∧w'.heap[(ρ k).blk]?=w.heap[(ρ k).blk]?)∧Fr ρ w ρ' w'∧Rep ρ' X w' s'.h∧cS ρ' X w' s'.e t∧aX ρ' X w' x val
section
variable {ρ:Nat→Loc} {X:Nat→Prop} {w:World} {P:Program}
theorem bQ {h:List Blk} {k:Nat} {B:Blk} (hB:B≠.dead) (j:Nat) (hj:aC h j):aC (h.set k B) j:=by
 unfold aC at hj ⊢
 rw [yaJ]
 by_cases hk:k=j
 ·subst hk
  rw [if_pos rfl]
  cases hb:h[k]? with
  | none=>rw [hb] at hj;exact hj.elim
  | some B' =>
   have hl:k<h.length:=(yac.1 hb).1
   rw [if_pos hl]
   cases B<;>first|trivial|exact (hB rfl).elim
 ·rw [if_neg hk]
  exact hj
theorem bB {h:List Blk}:∀ {fx:List Nat},aD fx h→∀ k∈fx,aC h k
 | [],_,_,hk=>by simp at hk
 | a::r,hf,k,hk=>by
  rcases yaW.1 hk with rfl|hk
  ·exact hf.1
  ·exact bB hf.2 k hk
theorem dP {h:List Blk}:∀ {fx:List Nat},(∀ k∈fx,aC h k)→aD fx h
 | [],_=>trivial
 | a::r,hf=>⟨hf a (by simp),dP fun k hk=>hf k (by simp [hk])⟩
theorem bG {h h':List Blk} {fx:List Nat} (hf:aD fx h) (hl:∀ k,aC h k→aC h' k):aD fx h' :=
 dP fun k hk=>hl k (bB hf k hk)
theorem eQ {h:List Blk} {k j:Nat} (hk:aF h k) (hj:aC h j):j≠k:=by
 rintro rfl
 have:=gL hk
 simp [aC,this] at hj
theorem hlv {h:List Blk} {k:Nat} {cs:List V} (_:aF h k):∀ j,aC h j→aC (h.set k (.var cs)) j:=bQ (by simp)
theorem Nw {x:V} {val:Value} (hc:isC x=true) (h:aX ρ X w x val):val.oneCell'=true:=by
 cases x with
 | v y=>have h':val=y:=h;subst h';cases val<;>simp_all [isC,Value.oneCell']
 | ro sz els=>obtain ⟨a,len,cap,rfl,_⟩:=h;rfl
 | bro sz els=>obtain ⟨a,len,cap,rfl,_⟩:=h;rfl
 | full sz els=>obtain ⟨a,len,rfl,_⟩:=h;rfl
 | sl k i n=>obtain ⟨cap,_,_,h3⟩:=h;rcases h3 with ⟨_,a,rfl⟩|⟨_,rfl,_⟩<;>rfl
 | ptr k i f=>obtain ⟨_,rfl⟩:=h;rfl
 | rp sz els i f=>obtain ⟨b,off,rfl,_⟩:=h;rfl
 | clo f cs=>obtain ⟨arr,rfl,_⟩:=h;rfl
 | mp k=>obtain ⟨_,rfl⟩:=h;rfl
 | _=>simp [isC] at hc
theorem Ua {cs:List V} {vs:List Value} (h:bL ρ X w cs vs) (hd:cs.all isC=true):∀ v∈vs,v.oneCell'=true:=by
 intro v hv
 obtain ⟨i,hi⟩:=yaA hv
 have hl:=cZ h
 have hi':i<cs.length:=by rw [hl];exact (yac.1 hi).1
 obtain ⟨u,h1,h2⟩:=cG h (yao hi')
 rw [hi] at h1
 simp only [yaa] at h1
 subst h1
 exact Nw (yah.1 hd _ (yaX hi')) h2
theorem Qy {h:List Blk} (hr:Rep ρ X w h) {k:Nat} (hk:aF h k) {cs:List V} {arr:Array Value} {T:TypeId} (hl:bL ρ X w cs arr.toList) {w':World} (hm:Made w w' (.cells arr T)) :
  ∃ ρ',Fr ρ w ρ' w'∧(∀ j,(ρ j).real=true→ρ' j=ρ j)∧((∀ j,j≠k→ρ' j=ρ j)∧∀ j,(ρ j).real=true→w'.heap[(ρ j).blk]?=w.heap[(ρ j).blk]?)∧Rep ρ' X w' (h.set k (.var cs))∧aX ρ' X w' (.ptr k 0 0) (.pointer (some ⟨w.heap.size,0,none⟩)):=by
 have hk':=gL hk
 have hkr:(ρ k).real=false:=hr.blk k _ hk'
 let l:Loc:=⟨true,w.heap.size,0,1,arr.size,default⟩
 have hf:Fr ρ w (upd ρ k l) w':=q9 hm (k:=k) rfl
 have hag:=rA hkr l
 refine ⟨upd ρ k l,hf,hag,⟨fun j hj=>aV _ _ hj,fun j hj=>hm.old (hr.lt j hj)⟩,vU hr hm hk' rfl ?_,?_⟩
 ·simp only [bE,upd_same]
  exact ⟨⟨rfl,rfl,rfl⟩,arr,T,hm.new,eG hf hag _ _ hl,rfl⟩
 ·simp only [aX,upd_same]
  exact ⟨rfl,rfl⟩
theorem oY {t:TypeId} {b o:Nat} {val:Value} {inf:TypeInfo} {c:Array Value} {T:TypeId} (hi:P.info? t=some inf) (hn:val.cells.size=inf.size) (h:w.heap[b]?=some (.cells c T (0,0)))
  (hl:o+val.cells.size≤c.size) (h1:∀ v∈val.cells.toList,v.oneCell'=true) :
  (Instr.storeAt t (.pointer (some ⟨b,o,none⟩)) val).run P w=.ok () (w.setCells b o val.cells.toList):=by
 have:=run_storeCells_cells (P:=P) b o val.cells.toList 0 w (fun j hj=>by
   simp at hj
   simp [World.cell?,h,yas (show o+j<c.size by omega)]) (fun j hj=>by simp [World.frozen?,h]) h1
 simp only [yaB] at this
 simp [Instr.storeAt,Instr.sureAddr,storeVar,sizeOf,typeInfo,hi,hn,this]
theorem Od {t:TypeId} {h:List Blk} {p:V} {pv val:Value} {cs:List V} {K:List Blk→Prop} {inf:TypeInfo} (hr:Rep ρ X w h) (hi:P.info? t=some inf) (hp:aX ρ X w p pv) (hcs:bL ρ X w cs val.cells.toList)
  {bn:List Nat} (hk:y9 bn h inf.size p cs K):∃ h' w',K h'∧((∀ k,aC h k→aC h' k)∧∀ k∈bn,(ρ k).real=true→w'.heap[(ρ k).blk]?=w.heap[(ρ k).blk]?)∧Fr ρ w ρ w'∧Rep ρ X w' h'∧(Instr.storeAt t pv val).run P w=.ok () w':=by
 have hlen:=cZ hcs
 cases p with
 | ptr k i f =>
  obtain ⟨hreal,rfl⟩:=hp
  obtain ⟨⟨hn,hkbn⟩,hone,hk⟩:=hk
  have hbn:∀ o:Nat,∀ j∈bn,(ρ j).real=true→(w.setCells (ρ k).blk o val.cells.toList).heap[(ρ j).blk]?=w.heap[(ρ j).blk]?:=fun _ j hj hjr=>cU _ _ _ _ _ (hr.inj j k (fun e=>hkbn (e▸hj)) hjr hreal)
  have h1:=Ua hcs hone
  simp only [blk,yap] at hk
  have hn':val.cells.size=inf.size:=by rw [←hn,hlen];simp
  cases hb:h[k]? with
  | none=>simp [hb,o0] at hk
  | some B =>
   have hB:=hr.blk k B hb
   rw [hb] at hk
   cases B with
   | dead=>exact hk.elim
   | map _ _=>exact hk.elim
   | it _ _ _ _=>exact hk.elim
   | rcd _ _=>exact hk.elim
   | arv sz els =>
    obtain ⟨⟨hsz,hpos⟩,_,c,T,hh,hc,hroom,hels⟩:=hB
    obtain ⟨hfit,hlt,hk⟩:(f+inf.size≤sz)∧∃ hi:i<els.length,K _:=hk
    have hel:=hels i _ (yao hlt)
    have hle:(i+1)*sz≤els.length*sz:=yad _ (by omega)
    rw [yab,yai] at hle
    have hfit':(ρ k).off+i*sz+f+val.cells.size≤c.size:=by omega
    obtain ⟨c',h2,h3,h4⟩:=c6 _ val.cells.toList ((ρ k).off+i*sz+f) w c T (0,0) hh (by simpa using hfit')
    have hf:=f7 hr hreal ((ρ k).off+i*sz+f) val.cells.toList
    refine ⟨_,_,hk,⟨bQ (by simp),hbn _⟩,hf,?_,?_⟩
    rotate_left
    ·rw [hsz]
     exact oY hi hn' hh hfit' h1
    ·refine iU hr hreal ⟨⟨hsz,hpos⟩,hreal,c',T,h2,by omega,by simpa using hroom,?_⟩
     intro j e he
     by_cases hj:j=i
     ·subst hj
      rw [yaC (by simpa using hlt)] at he
      simp only [yaa] at he
      subst he
      refine ⟨by rw [j9 (by omega)];exact hel.1,fun g x hx=>?_⟩
      rw [k7 (by omega)] at hx
      split at hx
      ·rename_i hg
       obtain ⟨v,h5,h6⟩:=cG hcs hx
       refine ⟨v,?_,bT hf (fun _ _=>rfl) _ _ h6⟩
       rw [h4,if_pos (by simp;omega)]
       rw [show (ρ k).off+j*sz+g-((ρ k).off+j*sz+f)=g-f by omega]
       exact h5
      ·rename_i hg
       obtain ⟨v,h5,h6⟩:=hel.2 g x hx
       refine ⟨v,?_,bT hf (fun _ _=>rfl) _ _ h6⟩
       rw [h4,if_neg (by simp;omega)]
       exact h5
     ·rw [yau (Ne.symm hj)] at he
      have hej:=hels j e he
      have hjl:j<els.length:=(yac.1 he).1
      refine ⟨hej.1,fun g x hx=>?_⟩
      obtain ⟨v,h5,h6⟩:=hej.2 g x hx
      have hgl:g<sz:=by rw [←hej.1];exact (yac.1 hx).1
      refine ⟨v,?_,bT hf (fun _ _=>rfl) _ _ h6⟩
      have hapart:(ρ k).off+j*sz+g<(ρ k).off+i*sz+f∨(ρ k).off+i*sz+f+val.cells.toList.length≤(ρ k).off+j*sz+g:=by
       rcases yaK hj with h7|h7
       ·have:(j+1)*sz≤i*sz:=yad _ (by omega)
        rw [yab,yai] at this
        omega
       ·have:(i+1)*sz≤j*sz:=yad _ (by omega)
        rw [yab,yai] at this
        right
        simp
        omega
      rw [h4,if_neg (by omega)]
      exact h5
   | var old =>
    obtain ⟨⟨_,hoff,hsz⟩,c,T,hh,hl,hrm⟩:=hB
    obtain ⟨hfit,hk⟩:(i+f+inf.size≤old.length)∧K _:=hk
    have holdl:=cZ hl
    have hcs':c.size=old.length:=by simpa using holdl.symm
    have hfit':i+f+val.cells.size≤c.size:=by omega
    obtain ⟨c',h2,h3,h4⟩:=c6 _ val.cells.toList (i+f) w c T (0,0) hh (by simpa using hfit')
    have hf:=f7 hr hreal (i+f) val.cells.toList
    refine ⟨_,_,hk,⟨bQ (by simp),hbn _⟩,hf,iU hr hreal ?_,?_⟩
    ·refine ⟨⟨hreal,hoff,hsz⟩,c',T,h2,gW ?_ ?_,by omega⟩
     ·rw [j9 (by omega)]
      simp
      omega
     ·intro g x hx
      rw [k7 (by omega)] at hx
      simp only [yaq,h4]
      split at hx
      ·rename_i hg
       rw [if_pos (by simp;omega)]
       obtain ⟨v,h5,h6⟩:=cG hcs hx
       exact ⟨v,by simpa using h5,bT hf (fun _ _=>rfl) _ _ h6⟩
      ·rename_i hg
       rw [if_neg (by simp;omega)]
       obtain ⟨v,h5,h6⟩:=cG hl hx
       exact ⟨v,by simpa using h5,bT hf (fun _ _=>rfl) _ _ h6⟩
    ·rw [hoff,hsz,show 0+i*1+f=i+f by omega]
     exact oY hi hn' hh hfit' h1
   | arr sz els =>
    obtain ⟨⟨hsz,hpos⟩,hor⟩:=hB
    obtain ⟨⟨hfit,hdat⟩,hlt,hk⟩:(f+inf.size≤sz∧cs.all isD=true)∧∃ hi:i<els.length,K _:=hk
    rcases hor with ⟨_,rfl⟩|⟨_,c,T,hh,hc,hroom,hels⟩
    ·simp at hlt
    ·have hel:=eO hels (yao hlt)
     have hle:(i+1)*sz≤els.length*sz:=yad _ (by omega)
     rw [yab,yai] at hle
     have hfit':(ρ k).off+i*sz+f+val.cells.size≤c.size:=by omega
     obtain ⟨c',h2,h3,h4⟩:=c6 _ val.cells.toList ((ρ k).off+i*sz+f) w c T (0,0) hh (by simpa using hfit')
     have hf:=f7 hr hreal ((ρ k).off+i*sz+f) val.cells.toList
     refine ⟨_,_,hk,⟨bQ (by simp),hbn _⟩,hf,?_,?_⟩
     rotate_left
     ·rw [hsz]
      exact oY hi hn' hh hfit' h1
     ·refine iU hr hreal ⟨⟨hsz,hpos⟩,.inr ⟨hreal,c',T,h2,by omega,by simpa using hroom,?_⟩⟩
      refine eH fun j e he=>?_
      by_cases hj:j=i
      ·subst hj
       rw [yaC (by simpa using hlt)] at he
       simp only [yaa] at he
       subst he
       refine ⟨by rw [j9 (by omega)];exact hel.1,oQ fun g x hx=>?_⟩
       rw [k7 (by omega)] at hx
       simp only [World.cell?,h2]
       split at hx
       ·rename_i hg
        obtain ⟨v,h5,h6⟩:=cG hcs hx
        refine ⟨v,?_,dN hf.sta _ _ (oP ?_ h6)⟩
        ·simp only [yaY,yaD,if_false,h4]
         rw [if_pos (by simp;omega)]
         rw [show (ρ k).off+j*sz+g-((ρ k).off+j*sz+f)=g-f by omega]
         exact h5
        ·exact yah.1 hdat _ (yak hx)
       ·rename_i hg
        obtain ⟨v,h5,h6⟩:=gQ hel.2 hx
        refine ⟨v,?_,dN hf.sta _ _ h6⟩
        simp only [yaY,yaD,if_false,h4]
        rw [if_neg (by simp;omega)]
        simpa [World.cell?,hh] using h5
      ·rw [yau (Ne.symm hj)] at he
       have hej:=eO hels he
       have hjl:j<els.length:=(yac.1 he).1
       refine ⟨hej.1,oQ fun g x hx=>?_⟩
       obtain ⟨v,h5,h6⟩:=gQ hej.2 hx
       have hgl:g<sz:=by rw [←hej.1];exact (yac.1 hx).1
       refine ⟨v,?_,dN hf.sta _ _ h6⟩
       simp only [World.cell?,h2,yaY,yaD,if_false,h4]
       have hapart:(ρ k).off+j*sz+g<(ρ k).off+i*sz+f∨(ρ k).off+i*sz+f+val.cells.toList.length≤(ρ k).off+j*sz+g:=by
        rcases yaK hj with h7|h7
        ·have:(j+1)*sz≤i*sz:=yad _ (by omega)
         rw [yab,yai] at this
         omega
        ·have:(i+1)*sz≤j*sz:=yad _ (by omega)
         rw [yab,yai] at this
         right
         simp
         omega
       rw [if_neg (by omega)]
       simpa [World.cell?,hh] using h5
 | _=>exact hk.elim
theorem gB {S S':Nat→Prop} {w':World} {sz b off:Nat} {els:List (List V)} {c:Array Value} {T:TypeId} {fz:Nat × Nat} (hS:∀ b,S b→S' b∧w'.heap[b]?=w.heap[b]?) (hh:w'.heap[b]?=some (.cells c T fz))
  (h:∀ (i:Nat) (e:List V),els[i]?=some e→e.length=sz∧∀ (f:Nat) (x:V),e[f]?=some x→∃ u,c[off+i*sz+f]?=some u∧fO S w x u):cP S' w' sz b off els :=
 eH fun i e he=>⟨(h i e he).1,oQ fun f x hx=>by
  obtain ⟨u,h1,h2⟩:=(h i e he).2 f x hx
  exact ⟨u,by simp [World.cell?,hh,h1],dN hS x u h2⟩⟩
theorem Cv {h:List Blk} (hr:Rep ρ X w h) {k:Nat} (hk:aF h k) {sz:Nat} (hsz:0<sz) {els:List (List V)} {c:Array Value} {T:TypeId} {w':World} (hm:Made w w' (.cells c T)) (hlen:els.length*sz≤c.size)
  (hc:∀ (i:Nat) (e:List V),els[i]?=some e→e.length=sz∧∀ (f:Nat) (x:V),e[f]?=some x→∃ u,c[i*sz+f]?=some u∧fO (Sta ρ X w) w x u) (n cap:Nat) (hn:n≤cap) (hcm:cap≤maxLen) (hcs:cap*sz≤c.size) :
  ∃ ρ',Fr ρ w ρ' w'∧(∀ j,(ρ j).real=true→ρ' j=ρ j)∧((∀ j,j≠k→ρ' j=ρ j)∧∀ j,(ρ j).real=true→w'.heap[(ρ j).blk]?=w.heap[(ρ j).blk]?)∧Rep ρ' X w' (h.set k (.arr sz els))∧aX ρ' X w' (.sl k 0 n) (.slice (some ⟨w.heap.size,0,none⟩) n cap):=by
 have hk':=gL hk
 have hkr:(ρ k).real=false:=hr.blk k _ hk'
 have hf:Fr ρ w (upd ρ k ⟨true,w.heap.size,0,sz,c.size,default⟩) w':=q9 hm (k:=k) rfl
 have hag:=rA hkr ⟨true,w.heap.size,0,sz,c.size,default⟩
 refine ⟨upd ρ k ⟨true,w.heap.size,0,sz,c.size,default⟩,hf,hag,⟨fun j hj=>aV _ _ hj,fun j hj=>hm.old (hr.lt j hj)⟩,vU hr hm hk' rfl ?_,?_⟩
 ·simp only [bE,upd_same]
  refine ⟨⟨trivial,hsz⟩,.inr ⟨trivial,c,T,hm.new,rfl,by omega,?_⟩⟩
  exact gB hf.sta hm.new (by simpa using hc)
 ·simp only [aX,upd_same]
  exact ⟨cap,hn,hcm,.inr ⟨trivial,by simp,by simpa using hcs⟩⟩
theorem Ke {h:List Blk} (hr:Rep ρ X w h) {k:Nat} (hk:aF h k) {sz:Nat} (hsz:0<sz) {els:List (List V)} {c:Array Value} {T:TypeId} {w':World} (hm:Made w w' (.cells c T)) (hlen:els.length*sz≤c.size)
  (hc:∀ (i:Nat) (e:List V),els[i]?=some e→e.length=sz∧∀ (f:Nat) (x:V),e[f]?=some x→∃ u,c[i*sz+f]?=some u∧aX ρ X w x u) (n cap:Nat) (hn:n≤cap) (hcm:cap≤maxLen) (hcs:cap*sz≤c.size) :
  ∃ ρ',Fr ρ w ρ' w'∧(∀ j,(ρ j).real=true→ρ' j=ρ j)∧((∀ j,j≠k→ρ' j=ρ j)∧∀ j,(ρ j).real=true→w'.heap[(ρ j).blk]?=w.heap[(ρ j).blk]?)∧Rep ρ' X w' (h.set k (.arv sz els))∧aX ρ' X w' (.sl k 0 n) (.slice (some ⟨w.heap.size,0,none⟩) n cap):=by
 have hk':=gL hk
 have hkr:(ρ k).real=false:=hr.blk k _ hk'
 have hf:Fr ρ w (upd ρ k ⟨true,w.heap.size,0,sz,c.size,default⟩) w':=q9 hm (k:=k) rfl
 have hag:=rA hkr ⟨true,w.heap.size,0,sz,c.size,default⟩
 refine ⟨upd ρ k ⟨true,w.heap.size,0,sz,c.size,default⟩,hf,hag,⟨fun j hj=>aV _ _ hj,fun j hj=>hm.old (hr.lt j hj)⟩,vU hr hm hk' rfl ?_,?_⟩
 ·simp only [bE,upd_same]
  refine ⟨⟨trivial,hsz⟩,trivial,c,T,hm.new,rfl,by omega,fun i e he=>⟨(hc i e he).1,fun f x hx=>?_⟩⟩
  obtain ⟨u,h1,h2⟩:=(hc i e he).2 f x hx
  exact ⟨u,by simpa using h1,bT hf hag _ _ h2⟩
 ·simp only [aX,upd_same]
  exact ⟨cap,hn,hcm,.inr ⟨trivial,by simp,by simpa using hcs⟩⟩
theorem Mp {h:List Blk} (hr:Rep ρ X w h) {k:Nat} (hk:aF h k) {sz:Nat} (hsz:0<sz) :
  ∃ ρ',Fr ρ w ρ' w∧(∀ j,(ρ j).real=true→ρ' j=ρ j)∧((∀ j,j≠k→ρ' j=ρ j)∧∀ j,(ρ j).real=true→w.heap[(ρ j).blk]?=w.heap[(ρ j).blk]?)∧Rep ρ' X w (h.set k (.arr sz [])):=by
 have hk':=gL hk
 have hkr:(ρ k).real=false:=hr.blk k _ hk'
 have hklt:k<h.length:=(yac.1 hk').1
 let l:Loc:=⟨false,0,0,sz,0,default⟩
 have hown:∀ b,Own (upd ρ k l) b→Own ρ b:=by
  rintro b ⟨j,h1,h2⟩
  by_cases hj:j=k
  ·subst hj;rw [upd_same] at h1;cases h1
  ·rw [aV _ _ hj] at h1 h2;exact ⟨j,h1,h2⟩
 have hf:Fr ρ w (upd ρ k l) w:=⟨rfl,rfl,rfl,yae _,fun b _ ho=>⟨rfl,fun h=>ho (hown b h)⟩⟩
 have hag:=rA hkr l
 refine ⟨upd ρ k l,hf,hag,⟨fun j hj=>aV _ _ hj,fun _ _=>rfl⟩,⟨?_,?_,?_,fun b hb=>hr.disj b (hown b hb),?_,hr.xlt⟩⟩
 ·intro i j hij hi hj
  by_cases h1:i=k
  ·subst h1;rw [upd_same] at hi;cases hi
  ·by_cases h2:j=k
   ·subst h2;rw [upd_same] at hj;cases hj
   ·rw [aV _ _ h1] at hi ⊢
    rw [aV _ _ h2] at hj ⊢
    exact hr.inj i j hij hi hj
 ·intro j hj
  rw [aV _ _ (by simp at hj;omega)]
  exact hr.out j (by simpa using hj)
 ·intro j B' hB'
  by_cases h1:j=k
  ·subst h1
   rw [yaC hklt] at hB'
   simp only [yaa] at hB'
   subst hB'
   simp only [bE,upd_same]
   exact ⟨⟨rfl,hsz⟩,.inl ⟨rfl,trivial⟩⟩
  ·rw [yau (Ne.symm h1)] at hB'
   exact gR hf hag (aV _ _ h1) (fun _=>rfl) (hr.blk j B' hB')
 ·intro j hj
  by_cases h3:j=k
  ·subst h3;rw [upd_same] at hj;cases hj
  ·rw [aV _ _ h3] at hj ⊢;exact hr.lt j hj
def Cc (ρ:Nat→Loc) (X:Nat→Prop) (w:World) (val:Value) (sz:Nat) (els:List (List V)):Prop :=
 ∃ a cap,val=.slice a els.length cap∧els.length≤maxLen∧(els=[]∨∃ b off,a=some ⟨b,off,none⟩∧cP (Sta ρ X w) w sz b off els)
theorem y6 {h:List Blk} (hr:Rep ρ X w h) {x:V} {val:Value} {K:Nat→List (List V)→Prop} (hx:aX ρ X w x val) (hk:iG h x K):∃ sz els,K sz els∧Cc ρ X w val sz els:=by
 unfold iG at hk
 split at hk
 ·rename_i k i n
  unfold blk at hk
  rw [yap] at hk
  cases hb:h[k]? with
  | none=>simp [hb] at hk
  | some B =>
   rw [hb] at hk
   have hB:=hr.blk k B hb
   cases B with
   | arr sz els =>
    obtain ⟨⟨hsz,hpos⟩,hor⟩:=hB
    obtain ⟨h1,h2⟩:i+n≤els.length∧K sz ((els.drop i).take n):=hk
    have hlen:((els.drop i).take n).length=n:=by simp;omega
    refine ⟨sz,_,h2,?_⟩
    obtain ⟨cap,h4,h5,h6⟩:=hx
    rcases h6 with ⟨rfl,a,rfl⟩|⟨hreal,rfl,hroom⟩
    ·have hn:n=0:=by omega
     subst hn
     exact ⟨a,0,by simp,by simp [maxLen],.inl (by simp)⟩
    ·rcases hor with ⟨h7,_⟩|⟨_,c,T,hh,hc,hrm,hels⟩
     ·rw [h7] at hreal;cases hreal
     ·exact ⟨_,cap,by rw [hlen],by rw [hlen];omega,.inr ⟨_,_,rfl,by rw [hsz];exact mB hels⟩⟩
   | var cs =>
    obtain ⟨⟨_,hoff,hsz⟩,c,T,hh,hcl,hrm⟩:=hB
    obtain ⟨⟨h1,hd⟩,h2⟩:(i+n≤cs.length∧((cs.drop i).take n).all isD=true)∧K 1 (((cs.drop i).take n).map fun c=>[c]):=hk
    have hlen:(((cs.drop i).take n).map fun c=>[c]).length=n:=by simp;omega
    refine ⟨1,_,h2,?_⟩
    obtain ⟨cap,h4,h5,h6⟩:=hx
    rcases h6 with ⟨rfl,a,rfl⟩|⟨hreal,rfl,hroom⟩
    ·have hn:n=0:=by omega
     subst hn
     exact ⟨a,0,by simp,by simp [maxLen],.inl (by simp)⟩
    ·refine ⟨_,cap,by rw [hlen],by rw [hlen];omega,.inr ⟨_,_,rfl,?_⟩⟩
     rw [hsz,hoff]
     refine eH fun j e' he'=>?_
     simp only [yag,yaf] at he'
     obtain ⟨x,hx,rfl⟩:=he'
     have hxd:isD x=true:=yah.1 hd _ (yak hx)
     rw [yal] at hx
     split at hx
     ·rw [yar] at hx
      obtain ⟨v,g4,g5⟩:=cG hcl hx
      refine ⟨rfl,⟨v,?_,oP hxd g5⟩,trivial⟩
      rw [show 0+i*1+j*1=i+j by omega]
      simpa [World.cell?,hh] using g4
     ·cases hx
   | _=>exact hk.elim
 ·obtain ⟨a,len,cap,rfl,rfl,h4,h5,h6⟩:=hx
  exact ⟨_,_,hk,a,cap,rfl,by omega,h6.imp id fun ⟨b,off,e1,_,e2⟩=>⟨b,off,e1,e2⟩⟩
 ·obtain ⟨a,len,cap,rfl,rfl,h4,h5,h6⟩:=hx
  exact ⟨_,_,hk,a,cap,rfl,by omega,h6.imp id fun ⟨b,off,e1,_,e2⟩=>⟨b,off,e1,e2⟩⟩
 ·obtain ⟨a,len,rfl,rfl,h5,h6⟩:=hx
  exact ⟨_,_,hk,a,_,rfl,by omega,h6.imp id fun ⟨b,off,e1,_,e2⟩=>⟨b,off,e1,e2⟩⟩
 ·have hx':val=.slice none 0 0:=hx
  subst hx'
  exact ⟨_,_,hk,none,0,rfl,by simp [maxLen],.inl rfl⟩
 ·exact hk.elim
theorem uX {S:Nat→Prop} {sz b:Nat}:∀ {off:Nat} {els:List (List V)},cP S w sz b off els →
  ∃ vs:List Value,vs.length=els.length*sz∧(∀ j v,vs[j]?=some v→w.cell? ⟨b,off+j,none⟩=some v)∧(∀ v∈vs,v.oneCell'=true) ∧
   ∀ (i:Nat) (e:List V),els[i]?=some e→e.length=sz∧∀ (f:Nat) (x:V),e[f]?=some x→∃ u,vs[i*sz+f]?=some u∧fO S w x u
 | off,[],_=>⟨[],by simp,fun j v h=>by simp at h,by simp,fun i e h=>by simp at h⟩
 | off,e::r,⟨⟨hlen,hcs⟩,hr⟩=>by
  obtain ⟨vs,h1,h2,h3,h4⟩:=uX hr
  have key:∀ {o:Nat} {cs:List V},iH S w b o cs→∃ us:List Value,us.length=cs.length∧(∀ j v,us[j]?=some v→w.cell? ⟨b,o+j,none⟩=some v)∧(∀ v∈us,v.oneCell'=true)∧∀ (f:Nat) (x:V),cs[f]?=some x→∃ u,us[f]?=some u∧fO S w x u:=by
   intro o cs hc
   induction cs generalizing o with
   | nil=>exact ⟨[],rfl,fun j v h=>by simp at h,by simp,fun f x h=>by simp at h⟩
   | cons x rest ih =>
    obtain ⟨⟨u,g1,g2⟩,g3⟩:=hc
    obtain ⟨us,k1,k2,k3,k4⟩:=ih g3
    refine ⟨u::us,by simp [k1],fun j v hj=>?_,fun v hv=>?_,fun f y hy=>?_⟩
    ·cases j with
     | zero=>simp at hj;subst hj;simpa using g1
     | succ j =>
      rw [show o+(j+1)=o+1+j by omega]
      exact k2 j v (by simpa using hj)
    ·rcases yaW.1 hv with rfl|hv
     ·exact Nx g2
     ·exact k3 v hv
    ·cases f with
     | zero=>simp at hy;subst hy;exact ⟨u,rfl,g2⟩
     | succ f=>simpa using k4 f y (by simpa using hy)
  obtain ⟨us,k1,k2,k3,k4⟩:=key hcs
  have hul:us.length=sz:=by rw [k1,hlen]
  refine ⟨us++vs,by simp [hul,h1,yab];omega,fun j v hj=>?_,fun v hv=>?_,fun i e' he'=>?_⟩
  ·by_cases hjs:j<sz
   ·rw [yaj (by omega)] at hj
    exact k2 j v hj
   ·rw [yam (by omega),hul] at hj
    have:=h2 _ v hj
    rw [show off+sz+(j-sz)=off+j by omega] at this
    exact this
  ·rcases List.mem_append.1 hv with hv|hv
   ·exact k3 v hv
   ·exact h3 v hv
  ·cases i with
   | zero =>
    simp only [yaZ,yaa] at he'
    subst he'
    refine ⟨hlen,fun f x hx=>?_⟩
    have hf:f<sz:=by rw [←hlen];exact (yac.1 hx).1
    rw [yaj (by omega)]
    simpa using k4 f x hx
   | succ i =>
    obtain ⟨g1,g2⟩:=h4 i e' (by simpa using he')
    refine ⟨g1,fun f x hx=>?_⟩
    rw [yam (by rw [hul,yab];omega),hul]
    rw [show (i+1)*sz+f-sz=i*sz+f by rw [yab];omega]
    exact g2 f x hx
theorem Cc.cells {val:Value} {sz:Nat} {els:List (List V)} (h:Cc ρ X w val sz els) (hne:els≠[]) :
  ∃ (b off cap:Nat) (vs:List Value),val=.slice (some ⟨b,off,none⟩) els.length cap∧vs.length=els.length*sz∧(∀ j v,vs[j]?=some v→w.cell? ⟨b,off+j,none⟩=some v)∧(∀ v∈vs,v.oneCell'=true) ∧
   ∀ (i:Nat) (e:List V),els[i]?=some e→e.length=sz∧∀ (f:Nat) (x:V),e[f]?=some x→∃ u,vs[i*sz+f]?=some u∧fO (Sta ρ X w) w x u:=by
 obtain ⟨a,cap,rfl,_,h3⟩:=h
 rcases h3 with h3|⟨b,off,rfl,h4⟩
 ·exact absurd h3 hne
 ·obtain ⟨vs,k1,k2,k3,k4⟩:=uX h4
  exact ⟨b,off,cap,vs,rfl,k1,k2,k3,k4⟩
structure Je (P:Program) (sz:Nat) (tx:TypeId) (x:Value) (n:Nat) (news:List Value) (w:World):Prop where
 kind:(∃ e',P.underlying tx=some (.slice e'))∨P.underlying tx=some .string
 len:∀ w':World,(Builtin.lenOf x).run P w'=.ok n w'
 cells:∀ m,m≤n→∀ w':World,w'.heap=w.heap→(Builtin.firstCells sz m x).run P w'=.ok (news.take (m*sz)).toArray w'
 newsLen:news.length=n*sz
 one:∀ v∈news,v.oneCell'=true
theorem Je.src {sz:Nat} {tx:TypeId} {x:Value} {n:Nat} {news:List Value} (h:Je P sz tx x n news w):Src P sz tx x n news w :=
 ⟨h.kind,h.len,by have:=h.cells n (yae _) w rfl;rwa [yba (by rw [h.newsLen];exact yae _)] at this,
  by have:=h.cells n (yae _) w.drew rfl;rwa [yba (by rw [h.newsLen];exact yae _)] at this,h.newsLen,h.one⟩
def Bf (P:Program) (ρ:Nat→Loc) (X:Nat→Prop) (w:World) (tx:TypeId) (val:Value) (sz:Nat) (els:List (List V)):Prop :=
 ∃ vs,Je P sz tx val els.length vs w∧∀ (i:Nat) (e:List V),els[i]?=some e→e.length=sz∧∀ (f:Nat) (x:V),e[f]?=some x→∃ u,vs[i*sz+f]?=some u∧fO (Sta ρ X w) w x u
theorem Cc.g {tx e:TypeId} {val:Value} {sz:Nat} {els:List (List V)} (h:Cc ρ X w val sz els) (hk:P.underlying tx=some (.slice e)):Bf P ρ X w tx val sz els:=by
 by_cases hne:els=[]
 ·subst hne
  obtain ⟨a,cap,rfl,_,_⟩:=h
  refine ⟨[],⟨.inl ⟨e,hk⟩,fun _=>rfl,fun m hm w' _=>?_,by simp,by simp⟩,fun i e he=>by simp at he⟩
  have hm0:m=0:=by simpa using hm
  subst hm0
  cases a<;>simp [Builtin.firstCells,loadCells,loadCellsFrom]
 ·obtain ⟨b,off,cap,vs,rfl,h1,h2,h3,h4⟩:=h.cells hne
  refine ⟨vs,⟨.inl ⟨e,hk⟩,fun _=>rfl,fun m hm w' hw=>?_,h1,h3⟩,h4⟩
  refine run_firstCells_some w' sz m ⟨b,off,none⟩ els.length cap _ ?_ fun j v hj=>?_
  ·have:m*sz≤els.length*sz:=yad _ hm
   rw [yaL]
   omega
  ·rw [Addr.add_none]
   have hj':vs[j]?=some v:=by
    rw [yal] at hj
    split at hj
    ·exact hj
    ·cases hj
   rw [World.cell?_of_block (a:=⟨b,off+j,none⟩) (w:=w) (by rw [hw])]
   exact h2 j v hj'
theorem aiC {tx:TypeId} (hk:P.underlying tx=some .string) (s:ByteArray):Bf P ρ X w tx (.string s) 1 (eM s):=by
 have hl:(eM s).length=s.size:=by
  unfold eM
  rw [yaE,ybb]
  rfl
 refine ⟨byteCells s,⟨.inr hk,fun _=>by rw [hl];rfl,fun m hm w' _=>?_,by rw [byteCells_length,hl,yaF],fun u hu=>?_⟩,fun i e he=>?_⟩
 ·rw [hl] at hm
  simp only [Builtin.firstCells,byteCells,yaF]
  have hm':min m s.data.size=m:=Nat.min_eq_left hm
  have:Array.map (fun b:UInt8=>Value.int IntKind.u8 (b.toNat:Int)) (s.extract 0 m).data=(List.take m (List.map (fun b:UInt8=>Value.int IntKind.u8 (b.toNat:Int)) s.data.toList)).toArray:=by
   apply Array.ext'
   rw [yaM,ByteArray.data_extract,Array.toList_extract]
   simp [List.extract,List.map_take]
  rw [this]
  rfl
 ·obtain ⟨_,_,rfl⟩:=List.mem_map.1 hu
  rfl
 ·unfold eM at he
  rw [yag,yaf] at he
  obtain ⟨b,hb,rfl⟩:=he
  refine ⟨rfl,fun f x hx=>?_⟩
  cases f with
  | succ f=>simp at hx
  | zero =>
   simp only [yaZ,yaa] at hx
   subst hx
   refine ⟨.int .u8 b.toNat,?_,rfl,rfl⟩
   unfold byteCells
   rw [yaF,yaB,yag,hb]
   rfl
theorem Gp {S:Nat→Prop} {sz:Nat} {A B:List (List V)} {us vs rest:List Value} (hu:us.length=A.length*sz) (hv:vs.length=B.length*sz)
  (hA:∀ (i:Nat) (e:List V),A[i]?=some e→e.length=sz∧∀ (f:Nat) (x:V),e[f]?=some x→∃ u,us[i*sz+f]?=some u∧fO S w x u)
  (hB:∀ (i:Nat) (e:List V),B[i]?=some e→e.length=sz∧∀ (f:Nat) (x:V),e[f]?=some x→∃ u,vs[i*sz+f]?=some u∧fO S w x u) :
  ∀ (i:Nat) (e:List V),(A++B)[i]?=some e→e.length=sz∧∀ (f:Nat) (x:V),e[f]?=some x→∃ u,(us++vs++rest)[i*sz+f]?=some u∧fO S w x u:=by
 intro i e he
 by_cases hi:i<A.length
 ·rw [yaj hi] at he
  obtain ⟨h1,h2⟩:=hA i e he
  refine ⟨h1,fun f x hx=>?_⟩
  obtain ⟨u,h3,h4⟩:=h2 f x hx
  have hlt:i*sz+f<us.length:=(yac.1 h3).1
  exact ⟨u,by rw [yat,yaj hlt];exact h3,h4⟩
 ·rw [yam (by omega)] at he
  obtain ⟨h1,h2⟩:=hB _ e he
  refine ⟨h1,fun f x hx=>?_⟩
  obtain ⟨u,h3,h4⟩:=h2 f x hx
  have hlt:(i-A.length)*sz+f<vs.length:=(yac.1 h3).1
  have e1:i*sz=A.length*sz+(i-A.length)*sz:=by rw [←yab];congr 1;omega
  refine ⟨u,?_,h4⟩
  rw [yat,yam (by omega),yaj (by omega),hu]
  rw [show i*sz+f-A.length*sz=(i-A.length)*sz+f by omega]
  exact h3
theorem iX {z:Value} {sz n:Nat} (hz:z.cells.size=sz) (hsz:0<sz) (hone:∀ v∈z.cells.toList,isD (.v v)=true) {S:Nat→Prop} :
  ∀ (i:Nat) (e:List V),(yav n (z.cells.toList.map V.v))[i]?=some e→e.length=sz∧∀ (f:Nat) (x:V),e[f]?=some x→∃ u,(madeCells z.cells (n*sz))[i*sz+f]?=some u∧fO S w x u:=by
 intro i e he
 rw [yaG] at he
 split at he
 ·rename_i hi
  simp only [yaa] at he
  subst he
  refine ⟨by simpa using hz,fun f x hx=>?_⟩
  simp only [yag,yaf] at hx
  obtain ⟨u,hu,rfl⟩:=hx
  have hf:f<sz:=by rw [←hz];simpa using (yac.1 hu).1
  have hlt:i*sz+f<n*sz:=by
   have:(i+1)*sz≤n*sz:=yad _ (by omega)
   rw [yab] at this
   omega
  refine ⟨u,?_,rfl,hone u (yak hu)⟩
  have hmod:(i*sz+f)%sz=f:=by rw [yaH,Nat.mul_add_mod,Nat.mod_eq_of_lt hf]
  unfold madeCells
  rw [Array.getElem?_map,Array.getElem?_range,if_pos hlt]
  simp only [ybc,yaa,hz,hmod]
  have hu':z.cells[f]?=some u:=by simpa using hu
  rw [getElem!_def,hu']
 ·cases he
def Flat (S:Nat→Prop) (w:World) (sz:Nat) (els:List (List V)) (c:Array Value):Prop :=
 c.size=els.length*sz∧∀ (i:Nat) (e:List V),els[i]?=some e→e.length=sz∧∀ (f:Nat) (x:V),e[f]?=some x→∃ u,c[i*sz+f]?=some u∧fO S w x u
theorem At {e:Env} {a:Act} (he:cS ρ X w e a.tmps) {sz:Nat} {K:List (List V)→Prop}:∀ (ps:List (Nat × Operand)) (acc:List (List V)) (cells:Array Value),
  Flat (Sta ρ X w) w sz acc cells→bR e sz acc ps K →
   ∃ els cells',K els∧els.length=acc.length∧Instr.fill (fun i=>some (i*sz,sz)) cells (ps.map fun p=>(p.1,a.eval p.2))=some cells'∧Flat (Sta ρ X w) w sz els cells'
 | [],acc,cells,ha,hk=>⟨acc,cells,hk,rfl,rfl,ha⟩
 | (i,x)::r,acc,cells,ha,hk=>by
  obtain ⟨cs,h1,⟨⟨h2,h3⟩,h4⟩,h5⟩:=dO hk
  have hx:=i6 h1 (aT he x)
  have hl:=cZ hx
  simp only [ybb] at hl
  have hle:(i+1)*sz≤acc.length*sz:=yad _ (by omega)
  rw [yab,yai] at hle
  have hfit:i*sz+(a.eval x).cells.size≤cells.size:=by rw [ha.1];omega
  obtain ⟨g1,g2⟩:=uW (a.eval x).cells (i*sz) cells hfit
  have hfl:Flat (Sta ρ X w) w sz (acc.set i cs) ((a.eval x).cells.zipIdx.foldl (fun cs (x:Value × Nat)=>cs.setIfInBounds (i*sz+x.2) x.1) cells):=by
   refine ⟨by rw [g1,ha.1];simp,fun j e' he'=>?_⟩
   by_cases hj:j=i
   ·subst hj
    rw [yaC h3] at he'
    simp only [yaa] at he'
    subst he'
    refine ⟨h2,fun f y hy=>?_⟩
    have hf:f<cs.length:=(yac.1 hy).1
    obtain ⟨u,k1,k2⟩:=cG hx hy
    refine ⟨u,?_,oP (yah.1 h4 _ (yak hy)) k2⟩
    rw [g2,if_pos (by omega),show j*sz+f-j*sz=f by omega]
    simpa using k1
   ·rw [yau (Ne.symm hj)] at he'
    obtain ⟨k1,k2⟩:=ha.2 j e' he'
    refine ⟨k1,fun f y hy=>?_⟩
    have hf:f<sz:=by rw [←k1];exact (yac.1 hy).1
    obtain ⟨u,k3,k4⟩:=k2 f y hy
    refine ⟨u,?_,k4⟩
    rw [g2,if_neg ?_]
    ·exact k3
    ·rcases yaK hj with h7|h7
     ·have:(j+1)*sz≤i*sz:=yad _ (by omega)
      rw [yab,yai] at this
      omega
     ·have:(i+1)*sz≤j*sz:=yad _ (by omega)
      rw [yab,yai] at this
      omega
  obtain ⟨els,cells',k1,k2,k3,k4⟩:=At he r _ _ hfl h5
  refine ⟨els,cells',k1,by rw [k2];simp,?_,k4⟩
  simp only [yaN,Instr.fill]
  rw [if_neg (by simp;omega)]
  exact k3
theorem Ey {t e:TypeId} {n:Nat} {parts:Array (Nat × Value)} {inf:TypeInfo} {z:Value} {cells:Array Value} (hu:P.underlying t=some (.slice e)) (hi:P.info? e=some inf) (hz:inf.zero=some z) (hs:0<inf.size) (hsm:n*inf.size≤16777216)
  (h:Instr.fill (fun i=>some (i*inf.size,inf.size)) (madeCells z.cells (n*inf.size)) parts.toList=some cells) :
  (Instr.buildSlice t n parts).run P w=.ok (.slice (some ⟨w.heap.size,0,none⟩) n n) (w.alloc (.cells cells e)):=by
 have h2:¬n*inf.size>2 ^ 24:=by omega
 by_cases h0:n*inf.size=0
 ·have hn:n=0:=by
   rcases Nat.mul_eq_zero.1 h0 with h|h
   ·exact h
   ·omega
  subst hn
  have e0:Array.range (0*inf.size)=#[]:=by rw [yaO];exact Array.range_zero'
  unfold madeCells at h
  rw [e0] at h
  have h':Instr.fill (fun i=>some (i*inf.size,inf.size)) #[] parts.toList=some cells:=by rw [Array.map_empty] at h;exact h
  simp [Instr.buildSlice,run_underlying hu,sizeOf,typeInfo,hi,Array.range_zero',h',newRow]
 ·unfold madeCells at h
  simp [Instr.buildSlice,run_underlying hu,sizeOf,typeInfo,zeroValue,hi,hz,h2,h0,h,newRow]
theorem Ih {t tx ty e:TypeId} {inf:TypeInfo} {z:Value} {a:Option Addr} {n cap:Nat} {olds news:List Value} {m:Nat} {y:Value} (ht:P.underlying t=some (.slice e)) (hi:P.info? e=some inf) (hz:inf.zero=some z) (hzs:z.cells.size=inf.size)
  (hol:olds.length=n*inf.size) (holds:(n=0∧cap=0)∨∃ b',a=some b'∧∀ j v,olds[j]?=some v→w.cell? (b'.add j)=some v)
  (hy:Je P inf.size tx y m news w) (hg:cap<n+m) (hb:(n+m)*inf.bytes≤140737488355328) (hmax:n+m≤maxLen) :
  ∃ (cc:Nat) (rest:Array Value),n+m≤cc∧cc≤maxLen∧(olds.toArray++news.toArray++rest).size=cc*inf.size ∧
   (Builtin.append_ #[t,tx] ty #[.slice a n cap,y]).run P w=.ok (.slice (some ⟨w.heap.size,0,none⟩) (n+m) cc) (w.drew.alloc (.cells (olds.toArray++news.toArray++rest) e)):=by
 have h63:((n+m:Nat):Int)≤9223372036854775807:=by simp only [maxLen] at hmax;omega
 have hge:=grownCap_ge w (n+m) cap e
 have hle:=grownCap_le_maxLen w (n+m) cap e hmax
 have hsz:(olds.toArray++news.toArray++Builtin.zeroCells z.cells (grownCap w (n+m) cap e-(n+m))).size=grownCap w (n+m) cap e*inf.size:=by
  simp only [Array.size_append,ybd,size_zeroCells,hzs,hol,hy.newsLen,←yab]
  congr 1
  omega
 have hold:(Builtin.firstCells inf.size n (.slice a n cap)).run P w.drew=.ok olds.toArray w.drew:=by
  rcases holds with ⟨h0,hcap0⟩|⟨b',rfl,hold⟩
  ·subst h0
   have hon:olds=[]:=yaP (by simpa using hol)
   subst hon
   cases a<;>simp [Builtin.firstCells,loadCells,loadCellsFrom]
  ·exact run_firstCells_some w.drew inf.size n b' n cap olds hol (by simpa using hold)
 refine ⟨_,_,hge,hle,hsz,?_⟩
 have:=run_append_grow_src w t tx ty e inf z ht hi hz a n cap olds hold y m news hy.src hg h63 (growslice_fits hg hb)
 simpa using this
theorem gM {t tx ty e:TypeId} {inf:TypeInfo} {a:Option Addr} {n cap:Nat} {y:Value} {vs:List Value} (ht:P.underlying t=some (.slice e)) (hi:P.info? e=some inf) (hn:n≤cap) (hy:Je P inf.size tx y 0 vs w) :
  (Builtin.append_ #[t,tx] ty #[.slice a n cap,y]).run P w=.ok (.slice a n cap) w:=by
 have hf:=hy.cells 0 (yae _) w rfl
 simp only [yaO,ybe] at hf
 rcases hy.kind with ⟨e',hk⟩|hk<;>cases a<;>simp [Builtin.append_,run_underlying ht,run_underlying hk,sizeOf,typeInfo,hi,hy.len,hn,hf,storeCells]
theorem Sz {t tx ty e:TypeId} {inf:TypeInfo} {g off n cap:Nat} {news:List Value} {m:Nat} {y:Value} {cur:Array Value} {T:TypeId} (ht:P.underlying t=some (.slice e)) (hi:P.info? e=some inf)
  (hg:w.heap[g]?=some (.cells cur T (0,0))) (hy:Je P inf.size tx y m news w) (hroom:n+m≤cap) (hfit:off+n*inf.size+news.length≤cur.size) :
  (Builtin.append_ #[t,tx] ty #[.slice (some ⟨g,off,none⟩) n cap,y]).run P w=.ok (.slice (some ⟨g,off,none⟩) (n+m) cap) (w.setCells g (off+n*inf.size) news) :=
 run_append_room_src w t tx ty e inf ht hi g off n cap y m news hy.src hroom (fun j hj=>by
   simp [World.cell?,hg,yas (show off+n*inf.size+j<cur.size by omega)]) (fun j hj=>by simp [World.frozen?,hg])
theorem Nb {t ty e:TypeId} {inf:TypeInfo} {z:Value} {a:Option Addr} {n cap:Nat} {olds news:List Value} {m:Nat} {b:Addr} {c:Nat} (ht:P.underlying t=some (.slice e)) (hi:P.info? e=some inf) (hz:inf.zero=some z) (hzs:z.cells.size=inf.size)
  (hol:olds.length=n*inf.size) (holds:(n=0∧cap=0)∨∃ b',a=some b'∧∀ j v,olds[j]?=some v→w.cell? (b'.add j)=some v)
  (hnl:news.length=m*inf.size) (hnews:∀ j v,news[j]?=some v→w.cell? (b.add j)=some v) (hg:cap<n+m) (hb:(n+m)*inf.bytes≤140737488355328) (hmax:n+m≤maxLen) :
  ∃ (cc:Nat) (rest:Array Value),n+m≤cc∧cc≤maxLen∧(olds.toArray++news.toArray++rest).size=cc*inf.size ∧
   (Builtin.append_ #[t,t] ty #[.slice a n cap,.slice (some b) m c]).run P w=.ok (.slice (some ⟨w.heap.size,0,none⟩) (n+m) cc) (w.drew.alloc (.cells (olds.toArray++news.toArray++rest) e)):=by
 have h63:((n+m:Nat):Int)≤9223372036854775807:=by simp only [maxLen] at hmax;omega
 have hge:=grownCap_ge w (n+m) cap e
 have hle:=grownCap_le_maxLen w (n+m) cap e hmax
 have hsz:(olds.toArray++news.toArray++Builtin.zeroCells z.cells (grownCap w (n+m) cap e-(n+m))).size=grownCap w (n+m) cap e*inf.size:=by
  simp only [Array.size_append,ybd,size_zeroCells,hzs,hol,hnl,←yab]
  congr 1
  omega
 rcases holds with ⟨h0,hcap0⟩|⟨b',rfl,hold⟩
 ·subst h0
  have hon:olds=[]:=yaP (by simpa using hol)
  subst hon
  subst hcap0
  cases a with
  | none =>
   refine ⟨_,_,hge,hle,hsz,?_⟩
   have hr:=run_append_nil (P:=P) w t ty e inf z ht hi hz b m c news hnl hnews (by omega) (by simpa using h63) (by have:=hb;simp only [yan] at this;omega)
   simpa using hr
  | some b' =>
   exact ⟨_,_,hge,hle,hsz,run_append_grow (P:=P) w t ty e inf z ht hi hz b' 0 0 [] (by simp) (by simp) b m c news hnl hnews hg h63 (growslice_fits (by omega) hb)⟩
 ·exact ⟨_,_,hge,hle,hsz,run_append_grow (P:=P) w t ty e inf z ht hi hz b' n cap olds hol hold b m c news hnl hnews hg h63 (growslice_fits hg hb)⟩
theorem Vo {t ty e:TypeId} {inf:TypeInfo} {g off n cap:Nat} {news:List Value} {m:Nat} {b:Addr} {c:Nat} {cur:Array Value} {T:TypeId} (ht:P.underlying t=some (.slice e)) (hi:P.info? e=some inf)
  (hg:w.heap[g]?=some (.cells cur T (0,0))) (hnl:news.length=m*inf.size) (hnews:∀ j v,news[j]?=some v→w.cell? (b.add j)=some v) (h1:∀ v∈news,v.oneCell'=true) (hroom:n+m≤cap) (hfit:off+n*inf.size+news.length≤cur.size) :
  (Builtin.append_ #[t,t] ty #[.slice (some ⟨g,off,none⟩) n cap,.slice (some b) m c]).run P w=.ok (.slice (some ⟨g,off,none⟩) (n+m) cap) (w.setCells g (off+n*inf.size) news):=by
 have hf:=run_firstCells_some (P:=P) w inf.size m b m c news hnl hnews
 have hst:=run_storeCells_cells (P:=P) g (off+n*inf.size) news 0 w (fun j hj=>by
   simp [World.cell?,hg,yas (show off+n*inf.size+j<cur.size by omega)]) (fun j hj=>by simp [World.frozen?,hg]) h1
 simp only [yaB] at hst
 simp [Builtin.append_,run_underlying ht,sizeOf,typeInfo,hi,Builtin.lenOf,hroom,hf,Addr.add_none,hst]
theorem Ia {h:List Blk} (hr:Rep ρ X w h) {k:Nat} (hk:k<h.length) {l:Loc} {w':World} {B:Blk} (hf:Fr ρ w (upd ρ k l) w')
  (hnew:l.real=true→(w.heap.size≤l.blk∨((ρ k).real=true∧l.blk=(ρ k).blk))∧l.blk<w'.heap.size)
  (hold:∀ j,j≠k→(ρ j).real=true→w'.heap[(ρ j).blk]?=w.heap[(ρ j).blk]?) (hB:bE (upd ρ k l) X w' k B) :
  Rep (upd ρ k l) X w' ((h.map (aK [k])).set k B):=by
 have hag:∀ j,j∉[k]→(ρ j).real=true→upd ρ k l j=ρ j:=fun j hj _=>aV _ _ (by simpa using hj)
 have hcase:∀ b,Own (upd ρ k l) b→Own ρ b∨w.heap.size≤b:=by
  rintro b ⟨j,h1,h2⟩
  by_cases hj:j=k
  ·subst hj
   rw [upd_same] at h1 h2
   rcases (hnew h1).1 with h3|⟨h3,h4⟩
   ·right;omega
   ·exact .inl ⟨j,h3,by rw [←h4];exact h2⟩
  ·rw [aV _ _ hj] at h1 h2
   exact .inl ⟨j,h1,h2⟩
 refine ⟨?_,?_,?_,?_,?_,?_⟩
 ·intro i j hij hi hj
  by_cases h1:i=k
  ·subst h1
   rw [upd_same] at hi ⊢
   rw [aV _ _ (Ne.symm hij)] at hj ⊢
   rcases (hnew hi).1 with h3|⟨h3,h4⟩
   ·have:=hr.lt j hj;omega
   ·rw [h4];exact hr.inj i j hij h3 hj
  ·by_cases h2:j=k
   ·subst h2
    rw [upd_same] at hj ⊢
    rw [aV _ _ h1] at hi ⊢
    rcases (hnew hj).1 with h3|⟨h3,h4⟩
    ·have:=hr.lt i hi;omega
    ·rw [h4];exact hr.inj i j hij hi h3
   ·rw [aV _ _ h1] at hi ⊢
    rw [aV _ _ h2] at hj ⊢
    exact hr.inj i j hij hi hj
 ·intro j hj
  simp at hj
  rw [aV _ _ (by omega)]
  exact hr.out j hj
 ·intro j B' hB'
  by_cases h1:j=k
  ·subst h1
   rw [yaC (by simpa using hk)] at hB'
   simp only [yaa] at hB'
   subst hB'
   exact hB
  ·rw [yau (Ne.symm h1),yag,yaf] at hB'
   obtain ⟨B0,hB0,rfl⟩:=hB'
   exact Jd hf [k] hag (aV _ _ h1) (fun hj=>hold j h1 hj) (hr.blk j B0 hB0)
 ·intro b ho hx
  rcases hcase b ho with h1|h1
  ·exact hr.disj b h1 hx
  ·have:=hr.xlt.1 b hx;omega
 ·intro j hj
  by_cases h1:j=k
  ·subst h1
   rw [upd_same] at hj ⊢
   exact (hnew hj).2
  ·rw [aV _ _ h1] at hj ⊢
   exact yaw (hr.lt j hj) hf.size
 ·exact hr.xfr hf
theorem Hc {i n:Nat} {els:List (List V)} {sz:Nat} {c:Array Value} {off:Nat} {S:Nat→Prop}
  (h:∀ (j:Nat) (e:List V),els[j]?=some e→e.length=sz∧∀ (f:Nat) (x:V),e[f]?=some x→∃ u,c[off+j*sz+f]?=some u∧fO S w x u) :
  ∀ (j:Nat) (e:List V),((els.drop i).take n)[j]?=some e→j<n∧e.length=sz∧∀ (f:Nat) (x:V),e[f]?=some x→∃ u,c[off+i*sz+j*sz+f]?=some u∧fO S w x u:=by
 intro j e he
 rw [yal] at he
 split at he
 ·rename_i hj
  rw [yar] at he
  obtain ⟨h1,h2⟩:=h _ e he
  refine ⟨hj,h1,fun f x hx=>?_⟩
  obtain ⟨u,h3,h4⟩:=h2 f x hx
  exact ⟨u,by rw [yab,←Nat.add_assoc] at h3;exact h3,h4⟩
 ·cases he
theorem Av {S:Nat→Prop} {sz b off:Nat} {els:List (List V)} {c:Array Value} {T:TypeId} {fz:Nat × Nat} (hh:w.heap[b]?=some (.cells c T fz)) (h:cP S w sz b off els) :
  ∀ (i:Nat) (e:List V),els[i]?=some e→e.length=sz∧∀ (f:Nat) (x:V),e[f]?=some x→∃ u,c[off+i*sz+f]?=some u∧fO S w x u:=by
 intro i e he
 obtain ⟨h1,h2⟩:=eO h he
 refine ⟨h1,fun f x hx=>?_⟩
 obtain ⟨u,h3,h4⟩:=gQ h2 hx
 exact ⟨u,by simpa [World.cell?,hh] using h3,h4⟩
def pU (P:Program) (fx bn:List Nat) (ρ:Nat→Loc) (X:Nat→Prop) (w:World) (t:Array Value) (run:Sem Value) (K:V→St→Prop):Prop :=
 ∃ val w',run.run P w=.ok val w'∧oM fx bn ρ X w t K val w'
theorem pL {t tx ty e:TypeId} {inf:TypeInfo} {z:Value} {id:Nat} {s:St} {fx bn:List Nat} {ts:Array Value} {old new:List (List V)} {xv yv:Value} {K:V→St→Prop} (ht:P.underlying t=some (.slice e)) (hi:P.info? e=some inf) (hz:inf.zero=some z) (hs:0<inf.size) (hzs:z.cells.size=inf.size) (hby:0<inf.bytes)
  (hr:Rep ρ X w s.h) (he:cS ρ X w s.e ts) (hfx:aD fx s.h) (hx:(old=[]∧xv=.slice none 0 0)∨(new≠[]∧∃ a,xv=.slice a old.length old.length∧Cc ρ X w xv inf.size old))
  (hy:Bf P ρ X w tx yv inf.size new) (h:rM id inf.size inf.bytes s old new K):pU P fx bn ρ X w ts (Builtin.append_ #[t,tx] ty #[xv,yv]) K:=by
 obtain ⟨hb,hfr,hK⟩:=h
 by_cases hne:new=[]
 ·subst hne
  rcases hx with ⟨rfl,rfl⟩|⟨hne,_⟩
  ·obtain ⟨vs,hg,_⟩:=hy
   obtain ⟨ρ',hf,hag,hot,hr'⟩:=Mp hr hfr hs
   refine ⟨_,w,gM ht hi (yae _) hg,_,_,ρ',hK,⟨bG hfx (bQ (by simp)),fun k hk=>hot.1 k (eQ hfr (bB hfx k hk)),fun k _ hreal=>⟨hag k hreal,hot.2 k hreal⟩⟩,hf,hr',bF hf hag he,?_⟩
   exact ⟨0,by simp,yax _,.inl ⟨rfl,none,rfl⟩⟩
  ·exact absurd rfl hne
 ·obtain ⟨vs,hyg,h4⟩:=hy
  have h1:=hyg.newsLen
  have hpos:0<new.length:=yaQ.2 hne
  have hml:old.length+new.length≤maxLen:=by
   have:old.length+new.length≤(old.length+new.length)*inf.bytes:=yaR _ hby
   simp only [maxLen]
   omega
  have hgo:∃ (olds:List Value) (a:Option Addr) (cp:Nat),xv=.slice a old.length cp∧cp≤old.length∧olds.length=old.length*inf.size∧((old.length=0∧cp=0)∨∃ b',a=some b'∧∀ j v,olds[j]?=some v→w.cell? (b'.add j)=some v) ∧
    ∀ (i:Nat) (e:List V),old[i]?=some e→e.length=inf.size∧∀ (f:Nat) (x:V),e[f]?=some x→∃ u,olds[i*inf.size+f]?=some u∧fO (Sta ρ X w) w x u:=by
   rcases hx with ⟨rfl,rfl⟩|⟨_,a,rfl,hsh⟩
   ·exact ⟨[],none,0,rfl,yae _,by simp,.inl ⟨rfl,rfl⟩,fun i e he=>by simp at he⟩
   ·by_cases ho:old=[]
    ·subst ho
     exact ⟨[],a,0,rfl,yae _,by simp,.inl ⟨rfl,rfl⟩,fun i e he=>by simp at he⟩
    ·obtain ⟨b',off',cap',us,e1,k1,k2,k3,k4⟩:=hsh.cells ho
     cases e1
     exact ⟨us,_,_,rfl,yae _,k1,.inr ⟨_,rfl,fun j v hj=>by rw [Addr.add_none];exact k2 j v hj⟩,k4⟩
  obtain ⟨olds,a,cp,rfl,hcp,hol,holds,hoe⟩:=hgo
  obtain ⟨cc,rest,g1,g2,g3,g4⟩:=Ih (ty:=ty) ht hi hz hzs hol holds hyg (by omega) hb hml
  have hae:=Gp (rest:=rest.toList) hol h1 hoe h4
  have hto:(olds.toArray++vs.toArray++rest).toList=olds++vs++rest.toList:=by simp
  obtain ⟨ρ',hf,hag,hot,hr',hp⟩:=Cv hr hfr hs (els:=old++new) (Made.drewAlloc w (.cells (olds.toArray++vs.toArray++rest) e)) (by rw [g3];simp;exact yad _ g1)
   (fun i e' he'=>by
    obtain ⟨q1,q2⟩:=hae i e' he'
    refine ⟨q1,fun f x hx=>?_⟩
    obtain ⟨u,q3,q4⟩:=q2 f x hx
    exact ⟨u,by rw [←yaq,hto];exact q3,q4⟩) (old.length+new.length) cc g1 g2 (by rw [g3];exact yae _)
  exact ⟨_,_,g4,_,_,ρ',hK,⟨bG hfx (bQ (by simp)),fun k hk=>hot.1 k (eQ hfr (bB hfx k hk)),fun k _ hreal=>⟨hag k hreal,hot.2 k hreal⟩⟩,hf,hr',bF hf hag he,hp⟩
theorem Ex {h:List Blk} {M:List Nat} (j:Nat) (hj:aC h j):aC (h.map (aK M)) j:=by
 unfold aC at hj ⊢
 rw [yag]
 cases hb:h[j]? with
 | none=>rw [hb] at hj;exact hj.elim
 | some B=>rw [hb] at hj;cases B<;>first|trivial|exact hj.elim
theorem Nu {t tx ty e:TypeId} {inf:TypeInfo} {z:Value} {s:St} {fx bn:List Nat} {ts:Array Value} {k i n:Nat} {new:List (List V)} {xv yv:Value} {K:V→St→Prop} (ht:P.underlying t=some (.slice e)) (hi:P.info? e=some inf) (hz:inf.zero=some z) (hs:0<inf.size) (hzs:z.cells.size=inf.size) (hby:0<inf.bytes)
  (hr:Rep ρ X w s.h) (he:cS ρ X w s.e ts) (hfx:aD fx s.h) (hx:aX ρ X w (.sl k i n) xv)
  (hy:Bf P ρ X w tx yv inf.size new) (h:Pw fx bn k i n inf.size inf.bytes s new (blk s.h k) K):pU P fx bn ρ X w ts (Builtin.append_ #[t,tx] ty #[xv,yv]) K:=by
 unfold blk at h
 rw [yap] at h
 cases hb:s.h[k]? with
 | none=>simp [hb,Pw] at h
 | some B =>
  rw [hb] at h
  have hB:=hr.blk k B hb
  have hklt:k<s.h.length:=(yac.1 hb).1
  cases B with
  | arr sz' els =>
   obtain ⟨⟨rfl,hin,hbytes⟩,hkfx,hK⟩:=h
   obtain ⟨⟨hsz,hpos⟩,hor⟩:=hB
   obtain ⟨cap,hnc,hcm,hxv⟩:=hx
   have hlen:((els.drop i).take n).length=n:=by simp;omega
   have hkeep:aD fx ((s.h.map (aK [k])).set k (.arr inf.size ((els.drop i).take n++new))):=bG hfx fun j hj=>bQ (by simp) j (Ex j hj)
   -- what it takes to close: the new place,the world's change,the block
   have close:∀ (l:Loc) (w':World) (val:Value),(Builtin.append_ #[t,tx] ty #[xv,yv]).run P w=.ok val w'→Fr ρ w (upd ρ k l) w' →
     (l.real=true→(w.heap.size≤l.blk∨((ρ k).real=true∧l.blk=(ρ k).blk))∧l.blk<w'.heap.size) →
     (∀ j,j≠k→(ρ j).real=true→w'.heap[(ρ j).blk]?=w.heap[(ρ j).blk]?)→bE (upd ρ k l) X w' k (.arr inf.size ((els.drop i).take n++new)) →
     aX (upd ρ k l) X w' (.sl k 0 (n+new.length)) val→pU P fx bn ρ X w ts (Builtin.append_ #[t,tx] ty #[xv,yv]) K:=by
    intro l w' val hrun hf hnew hold hBk hv
    refine ⟨val,w',hrun,_,_,upd ρ k l,hK,⟨hkeep,fun j hj=>aV _ _ (fun e=>hkfx.1 (e▸hj)),fun j hj hjr=>⟨aV _ _ (fun e=>hkfx.2 (e▸hj)),hold j (fun e=>hkfx.2 (e▸hj)) hjr⟩⟩,hf,Ia hr hklt hf hnew hold hBk,?_,hv⟩
    exact t6 hf [k] (fun j hj _=>aV _ _ (by simpa using hj)) he
   have hml:n+new.length≤maxLen:=by
    have:n+new.length≤(n+new.length)*inf.bytes:=yaR _ hby
    simp only [maxLen]
    omega
   by_cases hne:new=[]
   ·-- nothing is appended
    subst hne
    obtain ⟨vs,hg,_⟩:=hy
    have hrun:(Builtin.append_ #[t,tx] ty #[xv,yv]).run P w=.ok xv w:=by
     rcases hxv with ⟨rfl,a,rfl⟩|⟨hreal,rfl,hroom⟩
     ·exact gM ht hi (yae _) hg
     ·exact gM ht hi hnc hg
    have hsub:∀ b,Own (upd ρ k { ρ k with off:=(ρ k).off+i*inf.size }) b→Own ρ b:=by
     rintro b ⟨j,h1,h2⟩
     by_cases hj:j=k
     ·subst hj;rw [upd_same] at h1 h2;exact ⟨j,h1,h2⟩
     ·rw [aV _ _ hj] at h1 h2;exact ⟨j,h1,h2⟩
    refine close { ρ k with off:=(ρ k).off+i*inf.size } w xv hrun ⟨rfl,rfl,rfl,yae _,fun b _ ho=>⟨rfl,fun h=>ho (hsub b h)⟩⟩ (fun hreal=>⟨.inr ⟨hreal,rfl⟩,hr.lt k hreal⟩) (fun _ _ _=>rfl) ?_ ?_
    ·simp only [bE,upd_same,List.append_nil]
     refine ⟨⟨hsz,hpos⟩,?_⟩
     rcases hor with ⟨h1,rfl⟩|⟨h1,c,T,h2,h3,h4,h5⟩
     ·exact .inl ⟨h1,by simp⟩
     ·have hle:i*inf.size+n*inf.size≤els.length*inf.size:=by rw [←yab];exact yad _ hin
      refine .inr ⟨h1,c,T,h2,h3,by rw [hlen];omega,?_⟩
      exact aW (fun b hb=>⟨⟨hb.1,fun h=>hb.2.1 (hsub b h),hb.2.2⟩,rfl⟩) _ _ rfl _ _ (mB h5)
    ·simp only [aX,upd_same]
     refine ⟨cap,by simpa using hnc,hcm,?_⟩
     rcases hxv with ⟨h1,a,h2⟩|⟨h1,h2,h3⟩
     ·exact .inl ⟨h1,a,h2⟩
     ·refine .inr ⟨h1,by rw [h2,hsz];simp,?_⟩
      rw [hsz] at h3 ⊢
      rw [yab] at h3
      simp only [yan]
      omega
   ·obtain ⟨vs,hyg,h4⟩:=hy
    have h1:=hyg.newsLen
    have hpos':0<new.length:=yaQ.2 hne
    by_cases hroom:n+new.length≤cap
    ·-- there is room
     rcases hxv with ⟨rfl,a,rfl⟩|⟨hreal,hxe,hrm⟩
     ·omega
     ·rw [hsz] at hxe
      subst hxe
      rcases hor with ⟨g1,_⟩|⟨_,c,T,hh,hcs,hrm2,hels⟩
      ·rw [g1] at hreal;cases hreal
      ·rw [hsz] at hrm
       have hle1:(i+(n+new.length))*inf.size≤(i+cap)*inf.size:=yad _ (by omega)
       simp only [yab] at hle1 hrm
       have hfit:(ρ k).off+i*inf.size+n*inf.size+vs.length≤c.size:=by rw [h1];omega
       obtain ⟨c',k1,k2,k3⟩:=c6 _ vs ((ρ k).off+i*inf.size+n*inf.size) w c T (0,0) hh hfit
       have hsub:∀ b,Own (upd ρ k { ρ k with off:=(ρ k).off+i*inf.size }) b→Own ρ b:=by
        rintro b ⟨j,h1,h2⟩
        by_cases hj:j=k
        ·subst hj;rw [upd_same] at h1 h2;exact ⟨j,h1,h2⟩
        ·rw [aV _ _ hj] at h1 h2;exact ⟨j,h1,h2⟩
       have hf0:=f7 hr hreal ((ρ k).off+i*inf.size+n*inf.size) vs
       have hf:Fr ρ w (upd ρ k { ρ k with off:=(ρ k).off+i*inf.size }) (w.setCells (ρ k).blk ((ρ k).off+i*inf.size+n*inf.size) vs) :=
        ⟨hf0.os,hf0.tape,hf0.output,hf0.size,fun b hb ho=>⟨(hf0.keep b hb ho).1,fun h=>ho (hsub b h)⟩⟩
       have hrun:=Sz (ty:=ty) (off:=(ρ k).off+i*inf.size) ht hi hh hyg hroom hfit
       refine close { ρ k with off:=(ρ k).off+i*inf.size } _ _ hrun hf (fun _=>⟨.inr ⟨hreal,rfl⟩,by rw [setCells_size];exact hr.lt k hreal⟩) (fun j hj hjr=>cU _ _ _ _ _ (hr.inj j k hj hjr hreal)) ?_ ?_
       ·simp only [bE,upd_same]
        refine ⟨⟨hsz,hpos⟩,.inr ⟨hreal,c',T,k1,by omega,?_,?_⟩⟩
        ·simp only [yaS,hlen,yab]
         omega
        ·refine gB (S:=Sta ρ X w) (w:=w) hf.sta k1 ?_
         intro j e' he'
         by_cases hj:j<n
         ·rw [yaj (by omega)] at he'
          obtain ⟨_,q1,q2⟩:=Hc (Av hh hels) j e' he'
          refine ⟨q1,fun f x hx=>?_⟩
          have hfl:f<inf.size:=by rw [←q1];exact (yac.1 hx).1
          obtain ⟨u,q3,q4⟩:=q2 f x hx
          have hjn:(j+1)*inf.size≤n*inf.size:=yad _ (by omega)
          rw [yab,yai] at hjn
          refine ⟨u,?_,q4⟩
          rw [k3,if_neg (by omega)]
          exact q3
         ·rw [yam (by omega),hlen] at he'
          obtain ⟨q1,q2⟩:=h4 _ e' he'
          refine ⟨q1,fun f x hx=>?_⟩
          obtain ⟨u,q3,q4⟩:=q2 f x hx
          have hlt:(j-n)*inf.size+f<vs.length:=(yac.1 q3).1
          have ej:j*inf.size=n*inf.size+(j-n)*inf.size:=by rw [←yab];congr 1;omega
          refine ⟨u,?_,q4⟩
          rw [k3,if_pos (by omega)]
          rw [show (ρ k).off+i*inf.size+j*inf.size+f-((ρ k).off+i*inf.size+n*inf.size)=(j-n)*inf.size+f by omega]
          exact q3
       ·simp only [aX,upd_same]
        refine ⟨cap,hroom,hcm,.inr ⟨hreal,by rw [hsz];simp,?_⟩⟩
        rw [hsz]
        simp only [yan]
        omega
    ·-- a new row
     have hgo:∃ (olds:List Value) (a:Option Addr),xv=.slice a n cap∧olds.length=n*inf.size∧((n=0∧cap=0)∨∃ b',a=some b'∧∀ j v,olds[j]?=some v→w.cell? (b'.add j)=some v) ∧
       ∀ (j:Nat) (e:List V),((els.drop i).take n)[j]?=some e→e.length=inf.size∧∀ (f:Nat) (x:V),e[f]?=some x→∃ u,olds[j*inf.size+f]?=some u∧fO (Sta ρ X w) w x u:=by
      rcases hxv with ⟨rfl,a,rfl⟩|⟨hreal,rfl,hrm⟩
      ·have hn:n=0:=by omega
       subst hn
       exact ⟨[],a,rfl,by simp,.inl ⟨rfl,rfl⟩,fun j e he=>by simp at he⟩
      ·rcases hor with ⟨g1,_⟩|⟨_,c,T,hh,hcs,hrm2,hels⟩
       ·rw [g1] at hreal;cases hreal
       ·obtain ⟨us,m1,m2,m3,m4⟩:=uX (mB (l:=i) (n:=n) hels)
        rw [hlen] at m1
        exact ⟨us,_,rfl,m1,.inr ⟨_,rfl,fun j v hj=>by rw [Addr.add_none,hsz];exact m2 j v hj⟩,m4⟩
     obtain ⟨olds,a,rfl,hol,holds,hoe⟩:=hgo
     obtain ⟨cc,rest,g1,g2,g3,g4⟩:=Ih (ty:=ty) ht hi hz hzs hol holds hyg (by omega) hbytes hml
     have hae:=Gp (rest:=rest.toList) (A:=(els.drop i).take n) (by rw [hlen];exact hol) h1 hoe h4
     have hto:(olds.toArray++vs.toArray++rest).toList=olds++vs++rest.toList:=by simp
     have hmd:=Made.drewAlloc w (.cells (olds.toArray++vs.toArray++rest) e)
     have hf:Fr ρ w (upd ρ k ⟨true,w.heap.size,0,inf.size,(olds.toArray++vs.toArray++rest).size,default⟩) (w.drew.alloc (.cells (olds.toArray++vs.toArray++rest) e)):=q9 hmd (k:=k) rfl
     refine close _ _ _ g4 hf (fun _=>⟨.inl (yae _),by rw [hmd.size];exact Nat.lt_succ_self _⟩) (fun j hj hjr=>hmd.old (hr.lt j hjr)) ?_ ?_
     ·simp only [bE,upd_same]
      refine ⟨⟨trivial,hpos⟩,.inr ⟨trivial,_,e,hmd.new,rfl,?_,?_⟩⟩
      ·rw [g3]
       simp only [yaS,hlen,yan]
       exact yad _ g1
      ·refine gB (S:=Sta ρ X w) (w:=w) hf.sta hmd.new ?_
       intro j e' he'
       obtain ⟨q1,q2⟩:=hae j e' he'
       refine ⟨q1,fun f x hx=>?_⟩
       obtain ⟨u,q3,q4⟩:=q2 f x hx
       exact ⟨u,by rw [←yaq,hto,yan];exact q3,q4⟩
     ·simp only [aX,upd_same]
      exact ⟨cc,g1,g2,.inr ⟨trivial,by simp,by simp only [yan];rw [g3];exact yae _⟩⟩
  | _=>exact h.elim
theorem Iu {t t' ty e:TypeId} {inf:TypeInfo} {s:St} {fx bn:List Nat} {ts:Array Value} {k i n:Nat} {new:List (List V)} {xv yv:Value} {K:V→St→Prop} (ht:P.underlying t=some (.slice e)) (hi:P.info? e=some inf)
  (hr:Rep ρ X w s.h) (he:cS ρ X w s.e ts) (hfx:aD fx s.h) (hx:aX ρ X w (.sl k i n) xv)
  (hy:Bf P ρ X w t' yv inf.size new) (h:Bt bn k i n inf.size s new (blk s.h k) K):pU P fx bn ρ X w ts (Builtin.copy_ #[t,t'] ty #[xv,yv]) K:=by
 unfold blk at h
 rw [yap] at h
 cases hb:s.h[k]? with
 | none=>simp [hb,Bt] at h
 | some B =>
  rw [hb] at h
  have hB:=hr.blk k B hb
  have hklt:k<s.h.length:=(yac.1 hb).1
  cases B with
  | arr sz' els =>
   obtain ⟨⟨rfl,hin,hkbn⟩,hK⟩:=h
   obtain ⟨⟨hsz,hpos⟩,hor⟩:=hB
   obtain ⟨cap,hnc,hcm,hxv⟩:=hx
   have hkeep:∀ B',B'≠.dead→aD fx (s.h.set k B'):=fun B' hB'=>bG hfx (bQ hB')
   by_cases h0:min new.length n=0
   ·-- nothing is copied
    have hsame:els.take i++new.take n++els.drop (i+min new.length n)=els:=by
     have:new.take n=[]:=by
      apply yaP
      rw [yaL]
      omega
     rw [this,h0]
     simp
    have hset:s.h.set k (.arr inf.size els)=s.h:=by
     apply ybf
     intro j
     rw [yaJ]
     split
     ·rename_i hj;subst hj;exact hb.symm
     ·rfl
    rw [hsame,hset] at hK
    have hrun:(Builtin.copy_ #[t,t'] ty #[xv,yv]).run P w=.ok (.int .i64 (min new.length n:Nat)) w:=by
     obtain ⟨vs,hyg,_⟩:=hy
     have hf:=hyg.cells 0 (yax _) w rfl
     simp only [yaO,ybe] at hf
     have hm:Nat.min new.length n=0:=h0
     rcases hxv with ⟨rfl,a,rfl⟩|⟨hreal,rfl,hroom⟩
     ·have hn:n=0:=by omega
      subst hn
      cases a<;>simp [Builtin.copy_,run_underlying ht,hyg.len,sizeOf,typeInfo,hi,hf,storeCells,goInt]
     ·simp [Builtin.copy_,run_underlying ht,hyg.len,sizeOf,typeInfo,hi,hm,hf,storeCells,goInt]
    exact ⟨_,w,hrun,_,_,ρ,hK,⟨hfx,fun _ _=>rfl,fun _ _ _=>⟨rfl,rfl⟩⟩,Fr.refl _ _,hr,he,rfl⟩
   ·have hne:new≠[]:=by rintro rfl;simp at h0
    obtain ⟨vs,hyg,h4⟩:=hy
    have h1:=hyg.newsLen
    have h3:=hyg.one
    rcases hxv with ⟨rfl,a,rfl⟩|⟨hreal,hxe,hrm⟩
    ·omega
    ·rw [hsz] at hxe hrm
     subst hxe
     rcases hor with ⟨g1,_⟩|⟨_,c,T,hh,hcs,hrm2,hels⟩
     ·rw [g1] at hreal;cases hreal
     ·have hcl:min new.length n*inf.size≤vs.length:=by rw [h1];exact yad _ (by omega)
      have htl:(vs.take (min new.length n*inf.size)).length=min new.length n*inf.size:=by simp;omega
      have hle1:(i+n)*inf.size≤els.length*inf.size:=yad _ hin
      have hle2:min new.length n*inf.size≤n*inf.size:=yad _ (by omega)
      rw [yab] at hle1
      have hfit:(ρ k).off+i*inf.size+(vs.take (min new.length n*inf.size)).length≤c.size:=by rw [htl];omega
      obtain ⟨c',k1,k2,k3⟩:=c6 _ (vs.take (min new.length n*inf.size)) ((ρ k).off+i*inf.size) w c T (0,0) hh hfit
      have hf:=f7 hr hreal ((ρ k).off+i*inf.size) (vs.take (min new.length n*inf.size))
      have hone:∀ v∈vs.take (min new.length n*inf.size),v.oneCell'=true:=fun v hv=>h3 v (ybg hv)
      have hrun:(Builtin.copy_ #[t,t'] ty #[.slice (some ⟨(ρ k).blk,(ρ k).off+i*inf.size,none⟩) n cap,yv]).run P w =
        .ok (.int .i64 (min new.length n:Nat)) (w.setCells (ρ k).blk ((ρ k).off+i*inf.size) (vs.take (min new.length n*inf.size))):=by
       have hfc:=hyg.cells (min new.length n) (Nat.min_le_left _ _) w rfl
       have hst:=run_storeCells_cells (P:=P) (ρ k).blk ((ρ k).off+i*inf.size) (vs.take (min new.length n*inf.size)) 0 w (fun j hj=>by
        simp [World.cell?,hh,yas (show (ρ k).off+i*inf.size+j<c.size by omega)]) (fun j hj=>by simp [World.frozen?,hh]) hone
       simp only [yaB] at hst
       have hm:Nat.min new.length n=min new.length n:=rfl
       simp [Builtin.copy_,run_underlying ht,hyg.len,sizeOf,typeInfo,hi,hm,hfc,hst,goInt]
      refine ⟨_,_,hrun,_,_,ρ,hK,⟨hkeep _ (by simp),fun _ _=>rfl,fun j hj hjr=>⟨rfl,cU _ _ _ _ _ (hr.inj j k (fun e=>hkbn (e▸hj)) hjr hreal)⟩⟩,hf,iU hr hreal ⟨⟨hsz,hpos⟩,.inr ⟨hreal,c',T,k1,by omega,?_,?_⟩⟩,bF hf (fun _ _=>rfl) he,rfl⟩
      ·have:(els.take i++new.take n++els.drop (i+min new.length n)).length=els.length:=by simp;omega
       rw [this]
       exact hrm2
      ·refine gB (S:=Sta ρ X w) (w:=w) hf.sta k1 ?_
       intro j e' he'
       have hold:=Av hh hels
       have hfar:∀ f,f<inf.size→(j<i∨i+min new.length n≤j)→c'[(ρ k).off+j*inf.size+f]?=c[(ρ k).off+j*inf.size+f]?:=by
        intro f hf' hj
        rw [k3,htl,if_neg ?_]
        rcases hj with hj|hj
        ·have:(j+1)*inf.size≤i*inf.size:=yad _ (by omega)
         rw [yab,yai] at this
         omega
        ·have:(i+min new.length n)*inf.size≤j*inf.size:=yad _ (by omega)
         rw [yab] at this
         omega
       have holdj:els[j]?=some e'→(j<i∨i+min new.length n≤j)→e'.length=inf.size∧∀ (f:Nat) (x:V),e'[f]?=some x→∃ u,c'[(ρ k).off+j*inf.size+f]?=some u∧fO (Sta ρ X w) w x u:=by
        intro hje hj
        obtain ⟨q1,q2⟩:=hold j e' hje
        refine ⟨q1,fun f x hx=>?_⟩
        have hfl:f<inf.size:=by rw [←q1];exact (yac.1 hx).1
        obtain ⟨u,q3,q4⟩:=q2 f x hx
        exact ⟨u,by rw [hfar f hfl hj];exact q3,q4⟩
       by_cases hj:j<i
       ·rw [yat,yaj (by simp;omega),yal,if_pos hj] at he'
        exact holdj he' (.inl hj)
       ·by_cases hj2:j<i+min new.length n
        ·rw [yat,yam (by simp;omega),yaj (by simp;omega),yal] at he'
         have htk:(els.take i).length=i:=by simp;omega
         rw [htk,if_pos (by omega)] at he'
         obtain ⟨q1,q2⟩:=h4 _ e' he'
         refine ⟨q1,fun f x hx=>?_⟩
         have hfl:f<inf.size:=by rw [←q1];exact (yac.1 hx).1
         obtain ⟨u,q3,q4⟩:=q2 f x hx
         have ej:j*inf.size=i*inf.size+(j-i)*inf.size:=by rw [←yab];congr 1;omega
         have hlt:(j-i+1)*inf.size≤min new.length n*inf.size:=yad _ (by omega)
         rw [yab,yai] at hlt
         refine ⟨u,?_,q4⟩
         rw [k3,htl,if_pos (by omega)]
         rw [show (ρ k).off+j*inf.size+f-((ρ k).off+i*inf.size)=(j-i)*inf.size+f by omega,yal,if_pos (by omega)]
         exact q3
        ·have htk:(els.take i++new.take n).length=i+min new.length n:=by simp;omega
         rw [yam (by omega),htk,yar] at he'
         rw [show i+min new.length n+(j-(i+min new.length n))=j by omega] at he'
         exact holdj he' (.inr (by omega))
  | var cs =>
   obtain ⟨⟨h1,hin,hkbn⟩,hK⟩:=h
   obtain ⟨⟨_,hoff,hsz⟩,c,T,hh,hcl,hroomc⟩:=hB
   have hclen:c.size=cs.length:=by simpa using (cZ hcl).symm
   obtain ⟨cap,hnc,hcm,hxv⟩:=hx
   have hkeep:∀ B',B'≠.dead→aD fx (s.h.set k B'):=fun B' hB'=>bG hfx (bQ hB')
   by_cases h0:min new.length n=0
   ·have hsame:splice cs i (new.take n).flatten=cs:=by
     have:new.take n=[]:=by
      apply yaP
      rw [yaL]
      omega
     rw [this]
     simp [splice]
    have hset:s.h.set k (.var cs)=s.h:=by
     apply ybf
     intro j
     rw [yaJ]
     split
     ·rename_i hj;subst hj;exact hb.symm
     ·rfl
    rw [hsame,hset] at hK
    have hrun:(Builtin.copy_ #[t,t'] ty #[xv,yv]).run P w=.ok (.int .i64 (min new.length n:Nat)) w:=by
     obtain ⟨vs,hyg,_⟩:=hy
     have hf:=hyg.cells 0 (yax _) w rfl
     simp only [yaO,ybe] at hf
     have hm:Nat.min new.length n=0:=h0
     rcases hxv with ⟨rfl,a,rfl⟩|⟨hreal,rfl,hroom⟩
     ·have hn:n=0:=by omega
      subst hn
      cases a<;>simp [Builtin.copy_,run_underlying ht,hyg.len,sizeOf,typeInfo,hi,hf,storeCells,goInt]
     ·simp [Builtin.copy_,run_underlying ht,hyg.len,sizeOf,typeInfo,hi,hm,hf,storeCells,goInt]
    exact ⟨_,w,hrun,_,_,ρ,hK,⟨hfx,fun _ _=>rfl,fun _ _ _=>⟨rfl,rfl⟩⟩,Fr.refl _ _,hr,he,rfl⟩
   ·have hne:new≠[]:=by rintro rfl;simp at h0
    obtain ⟨vs,hyg,q4⟩:=hy
    have q1:=hyg.newsLen
    have q3:=hyg.one
    rcases hxv with ⟨rfl,a,rfl⟩|⟨hreal,hxe,hrm⟩
    ·omega
    ·rw [hsz,hoff] at hxe hrm
     subst hxe
     rw [←h1,yaF] at q1
     have htl:(vs.take (min new.length n)).length=min new.length n:=by simp;omega
     have hfit:i+(vs.take (min new.length n)).length≤c.size:=by rw [htl];omega
     obtain ⟨c',k1,k2,k3⟩:=c6 _ (vs.take (min new.length n)) i w c T (0,0) hh hfit
     have hf:=f7 hr hreal i (vs.take (min new.length n))
     have hone:∀ v∈vs.take (min new.length n),v.oneCell'=true:=fun v hv=>q3 v (ybg hv)
     have hrun:(Builtin.copy_ #[t,t'] ty #[.slice (some ⟨(ρ k).blk,0+i*1,none⟩) n cap,yv]).run P w =
       .ok (.int .i64 (min new.length n:Nat)) (w.setCells (ρ k).blk i (vs.take (min new.length n))):=by
      have hfc:=hyg.cells (min new.length n) (Nat.min_le_left _ _) w rfl
      rw [show min new.length n*inf.size=min new.length n by rw [←h1,yaF]] at hfc
      have hst:=run_storeCells_cells (P:=P) (ρ k).blk i (vs.take (min new.length n)) 0 w (fun j hj=>by
       simp [World.cell?,hh,yas (show i+j<c.size by omega)]) (fun j hj=>by simp [World.frozen?,hh]) hone
      simp only [yaB] at hst
      have hm:Nat.min new.length n=min new.length n:=rfl
      simp [Builtin.copy_,run_underlying ht,hyg.len,sizeOf,typeInfo,hi,hm,hfc,hst,goInt]
     -- the cells that are put in
     have hflat:∀ (l:List (List V)),(∀ e∈l,e.length=1)→l.flatten.length=l.length∧∀ (g:Nat) (x:V),l.flatten[g]?=some x→l[g]?=some [x]:=by
      intro l
      induction l with
      | nil=>intro _;exact ⟨rfl,fun g x hx=>by simp at hx⟩
      | cons e l ih =>
       intro hl
       obtain ⟨i1,i2⟩:=ih fun e he=>hl e (yaI _ he)
       have he1:=hl e yay
       match e,he1 with
       | [y],_ =>
        refine ⟨by simp [i1],fun g x hx=>?_⟩
        cases g with
        | zero=>simpa using hx
        | succ g=>simpa using i2 g x (by simpa using hx)
     have hrow1:∀ e∈new.take n,e.length=1:=by
      intro e he
      obtain ⟨j,hj⟩:=yaA (ybg he)
      rw [(q4 j e hj).1,h1]
     obtain ⟨f1,f2⟩:=hflat _ hrow1
     have f1':(new.take n).flatten.length=min new.length n:=by rw [f1,yaL];omega
     refine ⟨_,_,hrun,_,_,ρ,hK,⟨hkeep _ (by simp),fun _ _=>rfl,fun j hj hjr=>⟨rfl,cU _ _ _ _ _ (hr.inj j k (fun e=>hkbn (e▸hj)) hjr hreal)⟩⟩,hf,iU hr hreal ⟨⟨hreal,hoff,hsz⟩,c',T,k1,gW ?_ ?_,by omega⟩,bF hf (fun _ _=>rfl) he,rfl⟩
     ·rw [j9 (by omega)]
      have hc':c'.toList.length=c'.size:=by simp
      omega
     ·intro g x hx
      rw [k7 (by omega)] at hx
      simp only [yaq,k3]
      split at hx
      ·rename_i hg
       rw [if_pos (by rw [htl];omega)]
       have h5:=f2 _ _ hx
       rw [yal] at h5
       split at h5
       ·obtain ⟨_,h6⟩:=q4 _ _ h5
        obtain ⟨u,h7,h8⟩:=h6 0 x rfl
        refine ⟨u,?_,bT hf (fun _ _=>rfl) _ _ (oN h8)⟩
        rw [yal,if_pos (by omega)]
        rw [←h1] at h7
        simpa using h7
       ·cases h5
      ·rename_i hg
       rw [if_neg (by rw [htl];omega)]
       obtain ⟨v,h5,h6⟩:=cG hcl hx
       exact ⟨v,by simpa using h5,bT hf (fun _ _=>rfl) _ _ h6⟩
  | _=>exact h.elim
theorem acU {o:Oper} {l0 l:LOp} {a:Act} {s:St} {cx:Cx} {K:V→St→Prop} (hm:rl0 P o.op l0=some l)
  (hr:Rep ρ X w s.h) (he:cS ρ X w s.e a.tmps) (hfx:aD cx.fx s.h) (h:aOp cx l s K) (hn:bH l=false) (hc:∀ f xs,l≠.call f xs) (hv:∀ f xs,l≠.callv f xs) :
  (∃ val w',(execOp a.eval o).run P w=.ok (.value val) w'∧oM cx.fx cx.bn ρ X w a.tmps K val w') ∨
  (∃ w',(execOp a.eval o).run P w=.ok .skip w'∧oM cx.fx cx.bn ρ X w a.tmps K undef w'):=by
 unfold execOp
 generalize o.op=op at hm ⊢
 cases op with
 | box t x =>
  simp only [rl0] at hm
  split at hm
  ·rename_i j _
   simp only [yaa] at hm
   subst hm
   obtain ⟨cs,h1,h2,h3⟩:=dO h
   have hx:=i6 h1 (aT he x)
   obtain ⟨ρ',hf,hag,hot,hr',hp⟩:=Qy hr h2 (T:=t) hx (Made.alloc w _)
   refine .inl ⟨_,_,by simp [Instr.box,newVar,newRow,newObj,Sem.run],_,_,ρ',h3,⟨bG hfx (hlv h2),fun k hk=>hot.1 k (eQ h2 (bB hfx k hk)),fun k _ hreal=>⟨hag k hreal,hot.2 k hreal⟩⟩,hf,hr',bF hf hag he,hp⟩
  ·cases hm
 | alloc t =>
  simp only [rl0] at hm
  split at hm
  ·rename_i j _
   split at hm
   ·rename_i inf hi
    split at hm
    ·rename_i z hz
     simp only [yaa] at hm
     subst hm
     obtain ⟨cs,h1,h2,h3⟩:=dO h
     have hx:=i6 h1 (dM (ρ:=ρ) (X:=X) (w:=w) z)
     obtain ⟨ρ',hf,hag,hot,hr',hp⟩:=Qy hr h2 (T:=t) hx (Made.alloc w _)
     refine .inl ⟨_,_,by simp [Instr.alloc,zeroValue,typeInfo,hi,hz,newVar,newRow,newObj,Sem.run],_,_,ρ',h3,⟨bG hfx (hlv h2),fun k hk=>hot.1 k (eQ h2 (bB hfx k hk)),fun k _ hreal=>⟨hag k hreal,hot.2 k hreal⟩⟩,hf,hr',bF hf hag he,hp⟩
    ·cases hm
   ·cases hm
  ·cases hm
 | store t p x =>
  simp only [rl0] at hm
  split at hm
  ·rename_i inf hi
   simp only [yaa] at hm
   subst hm
   obtain ⟨cs,h1,h2⟩:=dO h
   have hx:=i6 h1 (aT he x)
   obtain ⟨h',w',h3,hlen,hf,hr',hrun⟩:=Od hr hi (aT he p) hx h2
   exact .inr ⟨w',by simp [hrun],_,_,ρ,h3,⟨bG hfx hlen.1,fun _ _=>rfl,fun k hk hreal=>⟨rfl,hlen.2 k hk hreal⟩⟩,hf,hr',bF hf (fun _ _=>rfl) he,rfl⟩
  ·cases hm
 | makeMap t r =>
  simp only [rl0] at hm
  split at hm
  ·rename_i j _
   split at hm
   ·rename_i kt e hu
    simp only [yaa] at hm
    subst hm
    simp only [aOp] at h
    obtain ⟨h1,h2,h3⟩:=h
    obtain ⟨ρ',hf,hag,hot,hr',hp⟩:=Ra hr h2 (B:=.map [] 0) (Made.alloc w (.map #[] 0)) (fun ρ' _ _ hp=>by
     simp only [bE,hp]
     exact ⟨⟨trivial,trivial,trivial⟩,#[],heap_alloc_new w _,rfl,trivial⟩)
    have hrun:(Instr.makeMap t (r.map a.eval)).run P w=.ok (.map (some w.heap.size)) (w.alloc (.map #[] 0)):=by
     cases r with
     | none=>simp [Instr.makeMap]
     | some x =>
      obtain ⟨q,n,hq,_⟩:=cV h1
      have hx:=aT he x
      rw [hq] at hx
      have hx':a.eval x=.int q n:=hx
      simp [Instr.makeMap,run_underlying hu,asInt,asIntOf,hx']
    exact .inl ⟨.map (some w.heap.size),w.alloc (.map #[] 0),by simp [hrun],_,_,ρ',h3,⟨bG hfx (bQ (by simp)),fun k hk=>hot.1 k (eQ h2 (bB hfx k hk)),fun k _ hreal=>⟨hag k hreal,hot.2 k hreal⟩⟩,hf,hr',bF hf hag he,by simp only [aX,hp];exact ⟨trivial,trivial⟩⟩
   ·cases hm
  ·cases hm
 | lookup t m k ok =>
  simp only [rl0] at hm
  split at hm
  ·rename_i kt e hu
   split at hm
   ·rename_i kd inf hkt hi
    split at hm
    ·rename_i z hz
     simp only [yaa] at hm
     subst hm
     simp only [aOp] at h
     obtain ⟨key,hkv,hkey,h⟩:=Fe h
     have hk:=aT he k
     rw [hkv] at hk
     have hk':a.eval k=key:=hk
     have hmr:=aT he m
     split at h
     ·rename_i hmv
      rw [hmv] at hmr
      have hm':a.eval m=.map none:=hmr
      obtain ⟨x,val,h1,h2,h3⟩:=Ox (ρ:=ρ) (X:=X) (w:=w) hu hkt hi hz hkey h
      exact .inl ⟨val,w,by simp [hm',hk',h3],x,s,ρ,h1,⟨hfx,fun _ _=>rfl,fun _ _ _=>⟨rfl,rfl⟩⟩,Fr.refl _ _,hr,he,h2⟩
     ·obtain ⟨b,es,c,arr,_,h1,_,_,_,_,hm',hb,hrm⟩:=gV hr hmr h
      obtain ⟨x,val,h1,h2,h3⟩:=Ow hu hkt hi hz hkey hb hrm h1
      exact .inl ⟨val,w,by simp [hm',hk',h3],x,s,ρ,h1,⟨hfx,fun _ _=>rfl,fun _ _ _=>⟨rfl,rfl⟩⟩,Fr.refl _ _,hr,he,h2⟩
    ·cases hm
   ·cases hm
  ·cases hm
 | mapUpdate t m k x|insert t m k x =>
  simp only [rl0] at hm
  split at hm
  ·rename_i kt e hu
   split at hm
   ·rename_i kd hkt
    simp only [yaa] at hm
    subst hm
    simp only [aOp] at h
    obtain ⟨key,hkv,hkey,h⟩:=Fe h
    have hk:=aT he k
    rw [hkv] at hk
    have hk':a.eval k=key:=hk
    obtain ⟨b,es,c,arr,_,⟨hbn,h1⟩,g1,g2,g3,_,hm',hb,hrm⟩:=gV hr (aT he m) h
    obtain ⟨B,w',h2,h3,h4,h5,h6,h7⟩:=Wx hr hu hkt hkey g1 g2 g3 hb hrm (aT he x) h1
    exact .inr ⟨w',by simp [hm',hk',h7],_,_,ρ,h2,⟨bG hfx (bQ h3),fun _ _=>rfl,fun j hj hjr=>⟨rfl,h6 j (fun e=>hbn (e▸hj)) hjr⟩⟩,h4,h5,bF h4 (fun _ _=>rfl) he,rfl⟩
   ·cases hm
  ·cases hm
 | range t m =>
  simp only [rl0] at hm
  split at hm
  ·rename_i j _
   split at hm
   ·rename_i kt e hu
    simp only [yaa] at hm
    subst hm
    simp only [aOp] at h
    have hmr:=aT he m
    obtain ⟨b,es,c,arr,hmv,⟨h1,h2⟩,g1,g2,g3,_,hm',hb,hrm⟩:=gV hr hmr h
    obtain ⟨ρ',hf,hag,hot,hr',hp⟩:=Ra hr h1 (B:=.it (ev s.e m) c [] c) (Made.alloc w (.mapIter (some (ρ b).blk) c #[] c)) (fun ρ' hf hag hp=>by
     simp only [bE,hp]
     refine ⟨⟨trivial,trivial,trivial⟩,some (ρ b).blk,heap_alloc_new w _,?_⟩
     rw [hm'] at hmr
     exact bT hf hag _ _ hmr)
    have hrun:=run_range_map w t kt e (ρ b).blk arr c hu hb
    refine .inl ⟨.pointer (some ⟨w.heap.size,0,none⟩),w.alloc (.mapIter (some (ρ b).blk) c #[] c),by simp [hm',hrun],_,_,ρ',h2,⟨bG hfx (bQ (by simp)),fun k hk=>hot.1 k (eQ h1 (bB hfx k hk)),fun k _ hreal=>⟨hag k hreal,hot.2 k hreal⟩⟩,hf,hr',bF hf hag he,?_⟩
    simp only [aX,hp]
    exact ⟨trivial,by simp⟩
   ·cases hm
  ·cases hm
 | next i isS =>
  simp only [rl0] at hm
  split at hm
  ·cases hm
  ·rename_i hs
   have hs':isS=false:=by simpa using hs
   subst hs'
   simp only [yaa] at hm
   subst hm
   simp only [aOp] at h
   obtain ⟨k,m,since,seen,last,bm,_,h1,g1,g2,g3,hi',hit,hmv⟩:=Xm hr (aT he i) h
   obtain ⟨b,es,c,arr,_,⟨hbn,h2⟩,_,_,_,_,hm',hb,hrm⟩:=gV hr hmv h1
   simp only [Value.map.injEq] at hm'
   subst hm'
   rcases Ws (P:=P) (ty:=o.type) hr g1 g2 g3 hit hmv hb hrm h2 with ⟨h3,hrun⟩|⟨key,x,born,w',val,h3,h4,h5,h6,h7,hrun⟩
   ·exact .inl ⟨.tuple #[.bool false],w,by simp [hi',hrun],_,_,ρ,h3,⟨hfx,fun _ _=>rfl,fun _ _ _=>⟨rfl,rfl⟩⟩,Fr.refl _ _,hr,he,⟨_,rfl,rfl,trivial⟩⟩
   ·exact .inl ⟨.tuple #[.bool true,key,val],w',by simp [hi',hrun],_,_,ρ,h3,⟨bG hfx (bQ (by simp)),fun _ _=>rfl,fun j hj hjr=>⟨rfl,h6 j (fun e=>hbn (e▸hj)) hjr⟩⟩,h4,h5,bF h4 (fun _ _=>rfl) he,⟨_,rfl,rfl,rfl,h7,trivial⟩⟩
 | entry i =>
  simp only [rl0,yaa] at hm
  subst hm
  simp only [aOp] at h
  obtain ⟨k,m,since,seen,last,bm,_,h1,g1,g2,g3,hi',hit,hmv⟩:=Xm hr (aT he i) h
  obtain ⟨b,es,c,arr,_,⟨hlast,h2⟩,_,_,_,_,hm',hb,hrm⟩:=gV hr hmv h1
  simp only [Value.map.injEq] at hm'
  subst hm'
  obtain ⟨x,val,h3,h4,hrun⟩:=Tn (P:=P) hit hb hrm hlast h2
  exact .inl ⟨val,w,by simp [hi',hrun],x,s,ρ,h3,⟨hfx,fun _ _=>rfl,fun _ _ _=>⟨rfl,rfl⟩⟩,Fr.refl _ _,hr,he,h4⟩
 | makeSlice t lx cx' =>
  simp only [rl0] at hm
  split at hm
  ·rename_i j _ _ _ _ _
   split at hm
   ·rename_i e hu
    split at hm
    ·rename_i inf hi
     split at hm
     ·rename_i z hz
      split at hm
      ·rename_i hcnd
       simp only [yaa] at hm
       subst hm
       obtain ⟨hs,hzs,hpl⟩:=hcnd
       obtain ⟨k,n,h1,h2⟩:=cV h
       obtain ⟨k',n',h3,⟨⟨h4,h5⟩,h6,h7⟩,h8,h9⟩:=cV h2
       have hx:=aT he lx
       rw [h1] at hx
       have hx':a.eval lx=.int k n:=hx
       have hy:=aT he cx'
       rw [h3] at hy
       have hy':a.eval cx'=.int k' n':=hy
       have hle:n.toNat*inf.size≤n'.toNat*inf.size:=yad _ (by omega)
       have hmz:=iX (w:=w) (n:=n'.toNat) (S:=Sta ρ X w) hzs hs (fun v hv=>yah.1 hpl v hv)
       obtain ⟨ρ',hf,hag,hot,hr',hp⟩:=Ke hr h8 hs (els:=yav n.toNat (z.cells.toList.map .v)) (Made.alloc w (.cells (madeCells z.cells (n'.toNat*inf.size)) e)) (by simp [size_madeCells];exact hle)
        (fun i e' he'=>by
         obtain ⟨q1,q2⟩:=hmz i e' (by
          rw [yaG] at he' ⊢
          split at he'
          ·rw [if_pos (by omega)];exact he'
          ·cases he')
         refine ⟨q1,fun f x hx=>?_⟩
         obtain ⟨u,q3,q4⟩:=q2 f x hx
         exact ⟨u,q3,oN q4⟩) n.toNat n'.toNat (by omega) (by simp only [maxLen];omega) (by simp [size_madeCells])
       exact .inl ⟨_,_,by simp [hx',hy',run_make w t e inf z hu hi hz k k' n n' h4 h5 h6 h7],_,_,ρ',h9,⟨bG hfx (bQ (by simp)),fun k hk=>hot.1 k (eQ h8 (bB hfx k hk)),fun k _ hreal=>⟨hag k hreal,hot.2 k hreal⟩⟩,hf,hr',bF hf hag he,hp⟩
      ·cases hm
     ·cases hm
    ·cases hm
   ·cases hm
  ·rename_i j _ _ _ _ _
   split at hm
   ·rename_i e hu
    split at hm
    ·rename_i inf hi
     split at hm
     ·rename_i z hz
      split at hm
      ·rename_i hcnd
       simp only [yaa] at hm
       subst hm
       obtain ⟨hs,hzs,hpl⟩:=hcnd
       obtain ⟨k,n,h1,h2⟩:=cV h
       obtain ⟨k',n',h3,⟨⟨h4,h5⟩,h6,h7⟩,h8,h9⟩:=cV h2
       have hx:=aT he lx
       rw [h1] at hx
       have hx':a.eval lx=.int k n:=hx
       have hy:=aT he cx'
       rw [h3] at hy
       have hy':a.eval cx'=.int k' n':=hy
       have hle:n.toNat*inf.size≤n'.toNat*inf.size:=yad _ (by omega)
       have hmz:=iX (w:=w) (n:=n'.toNat) (S:=Sta ρ X w) hzs hs (fun v hv=>yah.1 hpl v hv)
       obtain ⟨ρ',hf,hag,hot,hr',hp⟩:=Cv hr h8 hs (els:=yav n.toNat (z.cells.toList.map .v)) (Made.alloc w (.cells (madeCells z.cells (n'.toNat*inf.size)) e)) (by simp [size_madeCells];exact hle)
        (fun i e' he'=>hmz i e' (by
         rw [yaG] at he' ⊢
         split at he'
         ·rw [if_pos (by omega)];exact he'
         ·cases he')) n.toNat n'.toNat (by omega) (by simp only [maxLen];omega) (by simp [size_madeCells])
       exact .inl ⟨_,_,by simp [hx',hy',run_make w t e inf z hu hi hz k k' n n' h4 h5 h6 h7],_,_,ρ',h9,⟨bG hfx (bQ (by simp)),fun k hk=>hot.1 k (eQ h8 (bB hfx k hk)),fun k _ hreal=>⟨hag k hreal,hot.2 k hreal⟩⟩,hf,hr',bF hf hag he,hp⟩
      ·cases hm
     ·cases hm
    ·cases hm
   ·cases hm
  ·cases hm
 | buildSlice t n parts =>
  simp only [rl0] at hm
  split at hm
  ·rename_i xs j _ _ _ _
   split at hm
   ·rename_i e hu
    split at hm
    ·rename_i inf hi
     split at hm
     ·rename_i z hz
      split at hm
      ·rename_i hcnd
       simp only [yaa] at hm
       subst hm
       obtain ⟨hs,hzs,hsm,hpl⟩:=hcnd
       simp only [aOp] at h
       obtain ⟨s',ρ1,h,hsb,hf1,hfx1,hl1,hr1,he1⟩:=w5 (t:=a.tmps) xs s ρ h hr he (fun _ _ _=>trivial)
       have hfx':aD cx.fx s'.h:=dP fun k hk=>hl1 k (by simp [hk]) (bB hfx k hk)
       have hmz:=iX (w:=w) (n:=n) (S:=Sta ρ1 X w) hzs hs (fun v hv=>yah.1 hpl v hv)
       obtain ⟨els,cells',h1,h2,h3,h4⟩:=At he1 parts.toList _ (madeCells z.cells (n*inf.size)) ⟨by simp [size_madeCells],hmz⟩ h
       obtain ⟨h5,h6⟩:=h1
       have hel:els.length=n:=by rw [h2];simp
       have hnm:n≤16777216:=by
        have:n*1≤n*inf.size:=ybh _ hs
        omega
       obtain ⟨ρ',hf,hag,hot,hr',hp⟩:=Cv hr1 h5 hs (Made.alloc w (.cells cells' e)) (ybi h4.1.symm) h4.2 n n (yae _) (by simp only [maxLen];omega) (by rw [h4.1,hel];exact yae _)
       have hrun:=Ey (w:=w) (parts:=parts.map fun (i,x)=>(i,a.eval x)) hu hi hz hs hsm (by rw [yaM];exact h3)
       refine .inl ⟨_,_,by simp [hrun],_,_,ρ',h6,⟨bG hfx' (bQ (by simp)),fun k hk=>(hot.1 k (eQ h5 (bB hfx' k hk))).trans (hfx1 k (by simp [hk])),fun k hk hreal=>?_⟩,hf1.trans hf,hr',bF hf hag he1,hp⟩
       have hk1:=hfx1 k (by simp [hk])
       have hreal1:(ρ1 k).real=true:=by rw [hk1];exact hreal
       exact ⟨(hag k hreal1).trans hk1,by rw [←hk1];exact hot.2 k hreal1⟩
      ·cases hm
     ·cases hm
    ·cases hm
   ·cases hm
  ·rename_i j _ _ _ _
   split at hm
   ·rename_i e hu
    split at hm
    ·rename_i inf hi
     split at hm
     ·rename_i z hz
      split at hm
      ·rename_i hcnd
       simp only [yaa] at hm
       subst hm
       obtain ⟨hs,hzs,hsm,hpl⟩:=hcnd
       have hmz:=iX (w:=w) (n:=n) (S:=Sta ρ X w) hzs hs (fun v hv=>yah.1 hpl v hv)
       obtain ⟨els,cells',h1,h2,h3,h4⟩:=At he parts.toList _ (madeCells z.cells (n*inf.size)) ⟨by simp [size_madeCells],hmz⟩ h
       obtain ⟨h5,h6⟩:=h1
       have hel:els.length=n:=by rw [h2];simp
       have hnm:n≤16777216:=by
        have:n*1≤n*inf.size:=ybh _ hs
        omega
       obtain ⟨ρ',hf,hag,hot,hr',hp⟩:=Cv hr h5 hs (Made.alloc w (.cells cells' e)) (ybi h4.1.symm) h4.2 n n (yae _) (by simp only [maxLen];omega) (by rw [h4.1,hel];exact yae _)
       have hrun:=Ey (w:=w) (parts:=parts.map fun (i,x)=>(i,a.eval x)) hu hi hz hs hsm (by rw [yaM];exact h3)
       exact .inl ⟨_,_,by simp [hrun],_,_,ρ',h6,⟨bG hfx (bQ (by simp)),fun k hk=>hot.1 k (eQ h5 (bB hfx k hk)),fun k _ hreal=>⟨hag k hreal,hot.2 k hreal⟩⟩,hf,hr',bF hf hag he,hp⟩
      ·cases hm
     ·cases hm
    ·cases hm
   ·cases hm
  ·cases hm
 | call c =>
  simp only [rl0,Dy] at hm
  split at hm
  ·split at hm
   ·simp only [yaa] at hm;subst hm;simp [bH] at hn
   ·simp only [yaa] at hm;subst hm;simp [bH] at hn
   ·rename_i x t hcal hargs hts _ kt e hu
    simp only [yaa] at hm
    subst hm
    simp only [aOp] at h
    obtain ⟨b,es,c',arr,_,h1,_,_,_,_,hm',hb,hrm⟩:=gV hr (aT he x) h
    have ha:=bM hargs
    have hat:=bM hts
    refine .inl ⟨.int .i64 es.length,w,?_,_,s,ρ,h1,⟨hfx,fun _ _=>rfl,fun _ _ _=>⟨rfl,rfl⟩⟩,Fr.refl _ _,hr,he,rfl⟩
    have hlen:arr.size=es.length:=by rw [Mj hrm];simp
    simp [resolve,hcal,ha,hat,invoke,builtin,Builtin.len_,run_underlying hu,hm',MapKept.run_getObj_map hb,goInt,hlen]
   ·cases hm
  ·simp only [yaa] at hm;exact absurd hm.symm (hc _ _)
  ·simp only [yaa] at hm;exact absurd hm.symm (hv _ _)
  ·simp only [yaa] at hm;subst hm;simp [bH] at hn
  ·simp only [yaa] at hm;subst hm;simp [bH] at hn
  ·rename_i m k t ts hcal hargs hts
   split at hm
   ·rename_i kt e hu
    split at hm
    ·rename_i kd hkt
     simp only [yaa] at hm
     subst hm
     simp only [aOp] at h
     obtain ⟨key,hkv,hkey,h⟩:=Fe h
     have hk:=aT he k
     rw [hkv] at hk
     have hk':a.eval k=key:=hk
     obtain ⟨b,es,c',arr,_,⟨hbn,h1⟩,g1,g2,g3,_,hm',hb,hrm⟩:=gV hr (aT he m) h
     obtain ⟨B,w',h2,h3,h4,h5,h6,h7⟩:=Wy (ty:=o.type) (ts:=ts) hr hu hkt hkey g1 g2 g3 hb hrm h1
     have ha:=bM hargs
     have hat:=bM hts
     exact .inl ⟨_,w',by simp [resolve,hcal,ha,hat,invoke,builtin,hm',hk',h7],_,_,ρ,h2,⟨bG hfx (bQ h3),fun _ _=>rfl,fun j hj hjr=>⟨rfl,h6 j (fun e=>hbn (e▸hj)) hjr⟩⟩,h4,h5,bF h4 (fun _ _=>rfl) he,rfl⟩
    ·cases hm
   ·cases hm
  ·rename_i x y t t' hcal hargs hts
   split at hm
   ·rename_i htt
    subst htt
    split at hm
    ·rename_i e j _ _ _ _ ht
     split at hm
     ·rename_i inf hi
      split at hm
      ·rename_i z hz
       split at hm
       ·rename_i hcnd
        obtain ⟨hs,hzs,hby⟩:=hcnd
        simp only [yaa] at hm
        subst hm
        simp only [aOp] at h
        obtain ⟨sz',new,⟨h1,h2⟩,h3⟩:=y6 hr (aT he y) h
        have hsh:Cc ρ X w (a.eval y) inf.size new:=by
         rcases h1 with rfl|rfl
         ·obtain ⟨ad,cp,k1,k2,_⟩:=h3
          exact ⟨ad,cp,k1,k2,.inl rfl⟩
         ·exact h3
        have hx:=aT he x
        have hok:pU P cx.fx cx.bn ρ X w a.tmps (Builtin.append_ #[t,t] o.type #[a.eval x,a.eval y]) K:=by
         unfold Cm at h2
         split at h2
         ·rename_i k i n hxv
          rw [hxv] at hx
          exact Nu ht hi hz hs hzs hby hr he hfx hx (hsh.g ht) h2
         ·rename_i hxv
          rw [hxv] at hx
          exact pL ht hi hz hs hzs hby hr he hfx (.inl ⟨rfl,hx⟩) (hsh.g ht) h2
         ·rename_i sz0 els hxv
          rw [hxv] at hx
          obtain ⟨⟨rfl,hne⟩,h2⟩:=h2
          obtain ⟨ad,len,k1,rfl,k3,k4⟩:=hx
          exact pL ht hi hz hs hzs hby hr he hfx (.inr ⟨hne,ad,k1,ad,els.length,k1,k3,k4.imp id fun ⟨b,off,e1,_,e2⟩=>⟨b,off,e1,e2⟩⟩) (hsh.g ht) h2
         ·exact h2.elim
        obtain ⟨val,w',hrun,hsd⟩:=hok
        have ha:=bM hargs
        have hat:=bM hts
        exact .inl ⟨val,w',by simp [resolve,hcal,ha,hat,invoke,builtin,hrun],hsd⟩
       ·cases hm
      ·cases hm
     ·cases hm
    ·cases hm
   ·cases hm
  ·rename_i x y t t' hcal hargs hts
   split at hm
   ·rename_i e e' ht ht'
    split at hm
    ·rename_i inf hi
     simp only [yaa] at hm
     subst hm
     simp only [aOp] at h
     obtain ⟨sz',new,⟨h1,h2⟩,h3⟩:=y6 hr (aT he y) h
     have hsh:Cc ρ X w (a.eval y) inf.size new:=by
      rcases h1 with rfl|rfl
      ·obtain ⟨ad,cp,k1,k2,_⟩:=h3
       exact ⟨ad,cp,k1,k2,.inl rfl⟩
      ·exact h3
     have hx:=aT he x
     have hok:pU P cx.fx cx.bn ρ X w a.tmps (Builtin.copy_ #[t,t'] o.type #[a.eval x,a.eval y]) K:=by
      unfold uE at h2
      split at h2
      ·rename_i k i n hxv
       rw [hxv] at hx
       exact Iu ht hi hr he hfx hx (hsh.g ht') h2
      ·exact h2.elim
     obtain ⟨val,w',hrun,hsd⟩:=hok
     have ha:=bM hargs
     have hat:=bM hts
     exact .inl ⟨val,w',by simp [resolve,hcal,ha,hat,invoke,builtin,hrun],hsd⟩
    ·cases hm
   ·cases hm
  ·cases hm
 | _ =>
  exfalso
  simp only [rl0] at hm
  (repeat' split at hm)<;>first|(cases hm;done)|(simp only [yaa] at hm;subst hm;simp [bH] at hn;done)|skip
  all_goals
   rw [yaf] at hm
   obtain ⟨ps,_,rfl⟩:=hm
   simp [bH] at hn
end
end Go.Fx
namespace Go.Fx
open Go.RowKit
section
variable {ρ:Nat→Loc} {X:Nat→Prop} {w:World} {P:Program}
def Lo (P:Program) (ax:Array Value) (d n:Nat):Prop :=
 ∀ (em:Bool) (t:TypeId) (off:Nat) (ks:List (Nat × TypeDesc)),bW P d t off=some ks→(∀ k∈ks,∃ v,ax[k.1]?=some v∧isKey k.2 v=true) →
  ∃ va,Py P t ax off va∧∀ w',(Instr.checkKey em n t va).run P w'=.ok () w'
theorem Lb {ax sx:Array Value} {d n off size:Nat} (em:Bool) (ih:Lo P ax d n) (hsx:Jb P sx ax off size) :
  ∀ (l:List Field) (kss:List (List (Nat × TypeDesc))),(l.mapM fun (f:Field)=>match P.info? f.type with
    | some fi=>if f.name ≠ "_"∧f.offset+fi.size≤size∧0<fi.size then bW P d f.type (off+f.offset) else none
    | none=>none)=some kss→(∀ k∈kss.flatten,∃ v,ax[k.1]?=some v∧isKey k.2 v=true) →
   ∀ w',(forIn l PUnit.unit fun f _=>(do
    if f.name ≠ "_" then Instr.checkKey em n f.type (← part f.type sx f.offset)
    pure (ForInStep.yield PUnit.unit):Sem (ForInStep PUnit))).run P w'=.ok PUnit.unit w':=by
 intro l
 induction l with
 | nil=>intro kss hm h w';simp
 | cons f l ihl =>
  intro kss hm h w'
  rw [ybj] at hm
  simp only [bind,ybk,pure,yaa] at hm
  obtain ⟨k1,hk1,ks',hks',rfl⟩:=hm
  split at hk1
  ·rename_i fi hfi
   split at hk1
   ·rename_i hc
    obtain ⟨hn,hsz,hpos⟩:=hc
    obtain ⟨va,p1,p2⟩:=ih em _ _ _ hk1 fun k hk=>h k (by simp [hk])
    obtain ⟨fd,hfd⟩:=gT hk1
    have:=ihl _ hks' (fun k hk=>h k (by rw [List.flatten_cons];exact ybn _ hk)) w'
    simp only [List.forIn_cons,Sem.run_bind,hn,ne_eq,not_false_eq_true,if_true,hsx hfi hfd hpos hsz,p1 w',p2 w',Result.andThen_ok,Sem.run_pure]
    exact this
   ·cases hk1
  ·cases hk1
theorem Np {ax sx:Array Value} {d n off size m:Nat} (em:Bool) {e:TypeId} {ie:TypeInfo} (hie:P.info? e=some ie) (hpos:0<ie.size) (hsz:m*ie.size≤size) (ih:Lo P ax d n) (hsx:Jb P sx ax off size) :
  ∀ (l:List Nat) (kss:List (List (Nat × TypeDesc))),(∀ k∈l,k<m)→(l.mapM fun k=>bW P d e (off+k*ie.size))=some kss→(∀ k∈kss.flatten,∃ v,ax[k.1]?=some v∧isKey k.2 v=true) →
   ∀ w',(forIn l PUnit.unit fun i _=>(do
    Instr.checkKey em n e (← part e sx (i*(← sizeOf e)))
    pure (ForInStep.yield PUnit.unit):Sem (ForInStep PUnit))).run P w'=.ok PUnit.unit w':=by
 have hco:P.cellsOf e=ie.size:=by simp [Program.cellsOf,hie]
 intro l
 induction l with
 | nil=>intro kss _ hm h w';simp
 | cons k l ihl =>
  intro kss hl hm h w'
  rw [ybj] at hm
  simp only [bind,ybk,pure,yaa] at hm
  obtain ⟨k1,hk1,ks',hks',rfl⟩:=hm
  obtain ⟨va,p1,p2⟩:=ih em _ _ _ hk1 fun k hk=>h k (by simp [hk])
  have hkn:=hl k yay
  have hle:(k+1)*ie.size≤m*ie.size:=yad _ hkn
  rw [yab,yai] at hle
  obtain ⟨fd,hfd⟩:=gT hk1
  have hle':k*ie.size+ie.size≤size:=by omega
  have:=ihl _ (fun k hk=>hl k (yaI _ hk)) hks' (fun k hk=>h k (by rw [List.flatten_cons];exact ybn _ hk)) w'
  simp only [List.forIn_cons,Sem.run_bind,run_sizeOf w' hie,hco,Result.andThen_ok,hsx hie hfd hpos hle',p1 w',p2 w',Sem.run_pure]
  exact this
theorem Po {ax:Array Value}:∀ (d n:Nat),d≤n→Lo P ax d n:=by
 intro d
 induction d with
 | zero=>intro n _ em t off ks h;simp [bW] at h
 | succ d ih =>
  intro n hn em t off ks hk h
  obtain ⟨n,rfl⟩:∃ n',n=n'+1:=⟨n-1,by omega⟩
  have ih':=ih n (by omega)
  simp only [bW] at hk
  split at hk
  ·rename_i it fs hi hu
   split at hk
   ·simp only [yaf] at hk
    obtain ⟨kss,hks,rfl⟩:=hk
    have hrow:(TypeDesc.struct fs).isRow=true:=rfl
    refine ⟨_,dI hi hu hrow ax off,fun w'=>?_⟩
    have:=Lb (sx:=ax.extract off (off+it.size)) (size:=it.size) em ih' (fun hi hu h0 hs w'=>n7 hi hu ax h0 hs w') _ _ hks h w'
    rw [Instr.checkKey]
    simp only [Sem.run_bind,run_underlying hu,Result.andThen_ok]
    rw [←Array.forIn_toList]
    simp at this ⊢
    simp [this,Result.andThen]
   ·cases hk
  ·rename_i it m e hi hu
   split at hk
   ·rename_i ie hie
    split at hk
    ·rename_i hc
     obtain ⟨hsz,hpos⟩:=hc
     simp only [yaf] at hk
     obtain ⟨kss,hks,rfl⟩:=hk
     have hrow:(TypeDesc.array m e).isRow=true:=rfl
     refine ⟨_,dI hi hu hrow ax off,fun w'=>?_⟩
     have:=Np (sx:=ax.extract off (off+it.size)) em hie hpos hsz ih' (fun hi hu h0 hs w'=>n7 hi hu ax h0 hs w') _ _ (fun k hk=>List.mem_range.1 hk) hks h w'
     rw [Instr.checkKey]
     simp only [Sem.run_bind,run_underlying hu,Result.andThen_ok]
     simp only [Std.Legacy.Range.forIn_eq_forIn_range',Std.Legacy.Range.size,Nat.sub_zero,Nat.add_one_sub_one,Nat.div_one]
     rw [ybo] at this
     simp at this ⊢
     simp [this,Result.andThen]
    ·cases hk
   ·cases hk
  ·rename_i it kd _ _ hi hu
   split at hk
   ·rename_i hp
    simp only [yaa] at hk
    subst hk
    obtain ⟨v,h1,h2⟩:=h _ yay
    refine ⟨v,fun w'=>run_part_plain w' hp h1,fun w'=>MapKept.run_checkKey hu (Na h2) em n⟩
   ·cases hk
  ·cases hk
theorem Ip {us ws:List Value}:∀ (ks:List (Nat × TypeDesc)) (m:Nat),ks.map (·.1)=List.range' m ks.length→m+ks.length=us.length→ws.length=us.length →
  ((us.drop m).zip ks).all (fun p=>isKey p.2.2 p.1)=true→((ws.drop m).zip ks).all (fun p=>isKey p.2.2 p.1)=true→∀ (K:Bool→Prop),K (((us.drop m).zip (ws.drop m)).all fun p=>eqK p.1 p.2)→dU (us.map .v) (ws.map .v) ks K
 | [],m,_,hl,hw,_,_,K,h=>by
  have e1:us.drop m=[]:=List.drop_eq_nil_of_le (by simp at hl;omega)
  rw [e1] at h
  simpa [dU] using h
 | k::ks,m,hr,hl,hw,h1,h2,K,h=>by
  have hm:m<us.length:=by simp at hl;omega
  have hm':m<ws.length:=by omega
  simp only [yaN,List.length_cons,List.range'_succ,ybl] at hr
  rw [ybp hm] at h1 h
  rw [ybp hm'] at h2 h
  simp only [List.zip_cons_cons,List.all_cons,yaz] at h1 h2 h
  simp only [dU,hr.1,yag,yao hm,yao hm',ybc,eqC]
  exact ⟨⟨h1.1,h2.1⟩,Ip ks (m+1) hr.2 (by simp at hl;omega) hw h1.2 h2.2 _ h⟩
structure xI (P:Program) (kt:TypeId) (ks:List (Nat × TypeDesc)) (us:List Value):Prop where
 flat:bW P 100 kt 0=some ks
 rng:ks.map (·.1)=List.range ks.length
 size:(P.info? kt).map (·.size)=some ks.length
 row:uC P kt=true
 len:us.length=ks.length
 keys:(us.zip ks).all (fun p=>isKey p.2.2 p.1)=true
theorem Lm {us:List Value} {ks:List (Nat × TypeDesc)} (h:(us.zip ks).all (fun p=>isKey p.2.2 p.1)=true) {i:Nat} {u:Value} {k:Nat × TypeDesc} (hu:us[i]?=some u) (hk:ks[i]?=some k):isKey k.2 u=true:=by
 have:(us.zip ks)[i]?=some (u,k):=by rw [ybm];exact ⟨hu,hk⟩
 exact yah.1 h _ (yak this)
theorem xI.check {kt:TypeId} {ks:List (Nat × TypeDesc)} {us:List Value} (hk:xI P kt ks us) (em:Bool) (w':World):(Instr.checkKey em 10000 kt (.agg us.toArray)).run P w'=.ok () w':=by
 obtain ⟨va,p1,p2⟩:=Po (P:=P) (ax:=us.toArray) 100 10000 (by decide) em kt 0 ks hk.flat (fun k hkm=>by
  obtain ⟨i,hi⟩:=yaA hkm
  have hil:i<ks.length:=(yac.1 hi).1
  have h1:(ks.map (·.1))[i]?=some k.1:=by rw [yag,hi];rfl
  rw [hk.rng,List.getElem?_range hil] at h1
  simp only [yaa] at h1
  have hul:i<us.length:=by rw [hk.len];exact hil
  refine ⟨us[i],?_,Lm hk.keys (yao hul) hi⟩
  rw [←h1]
  simp [hul])
 have hrow:=hk.row
 have hsz:=hk.size
 cases hi:P.info? kt with
 | none=>rw [hi] at hsz;cases hsz
 | some it =>
  rw [hi] at hsz
  simp only [ybc,yaa] at hsz
  unfold uC at hrow
  have key:∀ d,P.underlying kt=some d→d.isRow=true→(Instr.checkKey em 10000 kt (.agg us.toArray)).run P w'=.ok () w':=by
   intro d hu hd
   have h1:=p1 w'
   rw [dI hi hu hd] at h1
   have h2:us.toArray.extract 0 (0+it.size)=us.toArray:=by
    rw [hsz,←hk.len]
    simp
   rw [h2] at h1
   simp only [Result.ok.injEq,and_true] at h1
   rw [h1]
   exact p2 w'
  split at hrow
  ·rename_i fs hu;exact key _ hu rfl
  ·rename_i n e hu;exact key _ hu rfl
  ·cases hrow
theorem Mh {us:List Value}:bL ρ X w (us.map .v) us:=gW (by simp) fun f x hx=>by
 simp only [yag,yaf] at hx
 obtain ⟨u,hu,rfl⟩:=hx
 exact ⟨u,hu,rfl⟩
theorem xI.eq {kt:TypeId} {ks:List (Nat × TypeDesc)} {us ws:List Value} (hk:xI P kt ks us) (hw:ws.length=ks.length) (hwk:(ws.zip ks).all (fun p=>isKey p.2.2 p.1)=true) (w':World) :
  (Op.equal kt (.agg us.toArray) (.agg ws.toArray)).run P w'=.ok ((us.zip ws).all fun p=>eqK p.1 p.2) w':=by
 have h:=Ip (us:=us) (ws:=ws) ks 0 (by rw [hk.rng,ybo]) (by rw [hk.len];omega) (by rw [hw,hk.len]) (by simpa using hk.keys) (by simpa using hwk) (fun b=>b=(us.zip ws).all fun p=>eqK p.1 p.2) rfl
 obtain ⟨b,h1,h2⟩:=Fp (P:=P) (ρ:=fun _=>default) (X:=fun _=>False) (w:=w') (ax:=us.toArray) (ay:=ws.toArray) (by simpa using Mh) (by simpa using Mh) (by decide:100<10000) hk.row hk.flat h
 rw [←h1]
 exact h2 w'
theorem uU {kt:TypeId} {ks:List (Nat × TypeDesc)} {us:List Value} (hk:xI P kt ks us):∀ {es:List (Value × V × Nat)} {l:List MapEntry} (i:Nat),gO ρ X w es l→Bo ks es →
  (iD us es i=none∧∀ w',(Instr.findAsking kt (.agg us.toArray) l i).run P w'=.ok none w') ∨
  ∃ j x val e ws,iD us es i=some (i+j,x)∧(∀ w',(Instr.findAsking kt (.agg us.toArray) l i).run P w'=.ok (some (i+j,val)) w')∧aX ρ X w x val∧l[j]?=some e∧e.key=.agg ws∧(us.zip ws.toList).all (fun p=>eqK p.1 p.2)=true∧ws.size=us.length
 | [],[],i,_,_=>.inl ⟨rfl,fun w'=>by simp [Instr.findAsking]⟩
 | a::es,e::l,i,hr,hks=>by
  obtain ⟨ws,h1,h2,h3⟩:=hks a yay
  have hek:e.key=.agg ws:=by rw [hr.1.1.1,h1]
  have heq:=hk.eq (ws:=ws.toList) (by simpa using h2) h3
  have hwa:ws.toList.toArray=ws:=by simp
  rw [hwa] at heq
  simp only [iD,h1]
  cases hb:(us.zip ws.toList).all (fun p=>eqK p.1 p.2) with
  | true =>
   refine .inr ⟨0,a.2.1,e.val,e,ws,by simp [hb],fun w'=>?_,hr.1.2,rfl,hek,hb,by rw [h2,hk.len]⟩
   simp [Instr.findAsking,hek,heq w',hb]
  | false =>
   rcases uU hk (i+1) hr.2 (fun e he=>hks e (yaI _ he)) with ⟨g1,g2⟩|⟨j,x,val,e',ws',g1,g2,g3,g4,g5⟩
   ·refine .inl ⟨by simp [hb,g1],fun w'=>?_⟩
    simp [Instr.findAsking,hek,heq w',hb,g2 w']
   ·refine .inr ⟨j+1,x,val,e',ws',by simp [hb,g1];omega,fun w'=>?_,g3,by simpa using g4,g5⟩
    simp [Instr.findAsking,hek,heq w',hb,g2 w']
    omega
 | [],_::_,_,hr,_=>hr.elim
 | _::_,[],_,hr,_=>hr.elim
theorem Ku {kd:TypeDesc} {a b:Value} (ha:isKey kd a=true) (hb:isKey kd b=true) (h:eqK a b=true) (n:Nat):Instr.sameBits n b a=true:=by
 cases kd<;>cases a<;>first|(simp [isKey] at ha;done)|skip
 all_goals (cases b<;>first|(simp [isKey] at hb;done)|skip)
 all_goals simp_all [isKey,eqK,Instr.sameBits,beq_toListBytes]
theorem Su {ks:List (Nat × TypeDesc)} {us:List Value} {ws:Array Value} (hl:us.length=ks.length) (hl2:ws.size=us.length) (h1:(us.zip ks).all (fun p=>isKey p.2.2 p.1)=true) (h2:(ws.toList.zip ks).all (fun p=>isKey p.2.2 p.1)=true)
  (h:(us.zip ws.toList).all (fun p=>eqK p.1 p.2)=true) (w':World):(Instr.keyThatStays (.agg ws) (.agg us.toArray)).run P w'=.ok (.agg us.toArray) w':=by
 have:Instr.sameBits 10000 (.agg ws) (.agg us.toArray)=true:=by
  rw [Instr.sameBits]
  simp only [yaz,beq_iff_eq,ybd,hl2,true_and,yah]
  rintro ⟨x,y⟩ hm
  obtain ⟨i,hi⟩:=yaA hm
  rw [ybm] at hi
  have hil:i<us.length:=(yac.1 hi.2).1
  have hkl:i<ks.length:=by omega
  have e1:=Lm h2 hi.1 (yao hkl)
  have e2:=Lm h1 hi.2 (yao hkl)
  have e3:eqK y x=true:=yah.1 h (y,x) (yak (i:=i) (by rw [ybm];exact ⟨hi.2,hi.1⟩))
  exact Ku e2 e1 e3 _
 simp [Instr.keyThatStays,this]
theorem Wb {h:List Blk} (hr:Rep ρ X w h) {k i sz m:Nat} {els new:List (List V)} {vs:List Value} (hb:h[k]?=some (.arr sz els)) (hin:i+m≤els.length) (hm:0<m) (hreal:(ρ k).real=true) (hn:new.length=m) (hl:vs.length=m*sz)
  (hone:∀ v∈vs,v.oneCell'=true) (h4:∀ (j:Nat) (e:List V),new[j]?=some e→e.length=sz∧∀ (f:Nat) (x:V),e[f]?=some x→∃ u,vs[j*sz+f]?=some u∧fO (Sta ρ X w) w x u) :
  (storeCells ⟨(ρ k).blk,(ρ k).off+i*(ρ k).sz,none⟩ vs).run P w=.ok () (w.setCells (ρ k).blk ((ρ k).off+i*sz) vs)∧Fr ρ w ρ (w.setCells (ρ k).blk ((ρ k).off+i*sz) vs) ∧
   Rep ρ X (w.setCells (ρ k).blk ((ρ k).off+i*sz) vs) (h.set k (.arr sz (els.take i++new++els.drop (i+m)))):=by
 have hB:=hr.blk k _ hb
 obtain ⟨⟨hsz,hpos⟩,hor⟩:=hB
 rcases hor with ⟨g1,_⟩|⟨_,c,T,hh,hcs,hrm2,hels⟩
 ·rw [g1] at hreal;cases hreal
 ·have hle1:(i+m)*sz≤els.length*sz:=yad _ hin
  rw [yab] at hle1
  have hfit:(ρ k).off+i*sz+vs.length≤c.size:=by rw [hl];omega
  obtain ⟨c',k1,k2,k3⟩:=c6 _ vs ((ρ k).off+i*sz) w c T (0,0) hh hfit
  have hf:=f7 hr hreal ((ρ k).off+i*sz) vs
  have hst:=run_storeCells_cells (P:=P) (ρ k).blk ((ρ k).off+i*sz) vs 0 w (fun j hj=>by
   simp [World.cell?,hh,yas (show (ρ k).off+i*sz+j<c.size by omega)]) (fun j hj=>by simp [World.frozen?,hh]) hone
  simp only [yaB] at hst
  refine ⟨by rw [hsz];exact hst,hf,iU hr hreal ⟨⟨hsz,hpos⟩,.inr ⟨hreal,c',T,k1,by omega,?_,?_⟩⟩⟩
  ·have:(els.take i++new++els.drop (i+m)).length=els.length:=by simp;omega
   rw [this]
   exact hrm2
  ·refine gB (S:=Sta ρ X w) (w:=w) hf.sta k1 ?_
   intro j e' he'
   have hold:=Av hh hels
   have hfar:∀ f,f<sz→(j<i∨i+m≤j)→c'[(ρ k).off+j*sz+f]?=c[(ρ k).off+j*sz+f]?:=by
    intro f hf' hj
    rw [k3,hl,if_neg ?_]
    rcases hj with hj|hj
    ·have:(j+1)*sz≤i*sz:=yad _ (by omega)
     rw [yab,yai] at this
     omega
    ·have:(i+m)*sz≤j*sz:=yad _ (by omega)
     rw [yab] at this
     omega
   have holdj:els[j]?=some e'→(j<i∨i+m≤j)→e'.length=sz∧∀ (f:Nat) (x:V),e'[f]?=some x→∃ u,c'[(ρ k).off+j*sz+f]?=some u∧fO (Sta ρ X w) w x u:=by
    intro hje hj
    obtain ⟨q1,q2⟩:=hold j e' hje
    refine ⟨q1,fun f x hx=>?_⟩
    have hfl:f<sz:=by rw [←q1];exact (yac.1 hx).1
    obtain ⟨u,q3,q4⟩:=q2 f x hx
    exact ⟨u,by rw [hfar f hfl hj];exact q3,q4⟩
   by_cases hj:j<i
   ·rw [yat,yaj (by simp;omega),yal,if_pos hj] at he'
    exact holdj he' (.inl hj)
   ·by_cases hj2:j<i+m
    ·rw [yat,yam (by simp;omega),yaj (by simp;omega)] at he'
     have htk:(els.take i).length=i:=by simp;omega
     rw [htk] at he'
     obtain ⟨q1,q2⟩:=h4 _ e' he'
     refine ⟨q1,fun f x hx=>?_⟩
     have hfl:f<sz:=by rw [←q1];exact (yac.1 hx).1
     obtain ⟨u,q3,q4⟩:=q2 f x hx
     have ej:j*sz=i*sz+(j-i)*sz:=by rw [←yab];congr 1;omega
     have hlt:(j-i+1)*sz≤m*sz:=yad _ (by omega)
     rw [yab,yai] at hlt
     refine ⟨u,?_,q4⟩
     rw [k3,hl,if_pos (by omega)]
     rw [show (ρ k).off+j*sz+f-((ρ k).off+i*sz)=(j-i)*sz+f by omega]
     exact q3
    ·have htk:(els.take i++new).length=i+m:=by simp;omega
     rw [yam (by omega),htk,yar] at he'
     rw [show i+m+(j-(i+m))=j by omega] at he'
     exact holdj he' (.inr (by omega))
theorem oR {z:Array Value} (n:Nat):Builtin.zeroCells z n=madeCells z (n*z.size):=rfl
theorem uF {S:Nat→Prop} {b:Nat}:∀ {off:Nat} {els:List (List V)} {l:List UInt8},cP S w 1 b off els→bytesOf els=some l →
  ∃ xs:List Int,xs.length=els.length∧l=xs.map (fun n=>UInt8.ofNat n.toNat)∧∀ i,i<xs.length→w.cell? ⟨b,off+i,none⟩=some (.int .u8 (xs.getD i 0))
 | off,[],l,_,h=>by
  simp only [bytesOf,yaa] at h
  subst h
  exact ⟨[],rfl,rfl,fun i hi=>by simp at hi⟩
 | off,e::r,l,hr,h=>by
  unfold bytesOf at h
  split at h
  ·simp_all
  ·rename_i n r' heq
   simp only [ybl] at heq
   obtain ⟨rfl,rfl⟩:=heq
   simp only [yaf] at h
   obtain ⟨l',h1,rfl⟩:=h
   obtain ⟨xs,g1,g2,g3⟩:=uF hr.2 h1
   obtain ⟨_,⟨val,c1,c2⟩,_⟩:=hr.1
   have c2':val=.int .u8 n:=c2.1
   subst c2'
   refine ⟨n::xs,by simp [g1],by simp [g2],fun i hi=>?_⟩
   cases i with
   | zero=>simpa using c1
   | succ i =>
    have:=g3 i (by simpa using hi)
    rw [show off+(i+1)=off+1+i by omega]
    simpa using this
  ·cases h
theorem Qb {kt:TypeId} (h:uC P kt=true):(match P.underlying kt with|some (.array _ _)|some (.struct _)=>true|_=>false)=true:=by
 unfold uC at h
 split at h<;>simp_all
theorem Fg {ks:List (Nat × TypeDesc)} {x:V} {val:Value} {K:List Value→Prop} (hx:aX ρ X w x val) (h:An ks x K):∃ us:List Value,val=.agg us.toArray∧us.length=ks.length∧(us.zip ks).all (fun p=>isKey p.2.2 p.1)=true∧K us:=by
 unfold An at h
 split at h
 ·rename_i cs
  obtain ⟨us,h1,h2,h3⟩:=dO h
  obtain ⟨arr,rfl,hl⟩:=hx
  refine ⟨us,?_,h2.1,h2.2,h3⟩
  have:∀ (cs:List V) (us vs:List Value),cs.mapM vOf=some us→bL ρ X w cs vs→vs=us:=by
   intro cs
   induction cs with
   | nil =>
    intro us vs hm hl
    simp at hm
    subst hm
    cases vs with
    | nil=>rfl
    | cons _ _=>exact hl.elim
   | cons c cs ih =>
    intro us vs hm hl
    rw [ybj] at hm
    simp only [bind,ybk,pure,yaa] at hm
    obtain ⟨u,hu,us',hus,rfl⟩:=hm
    cases vs with
    | nil=>exact hl.elim
    | cons v vs =>
     unfold vOf at hu
     split at hu
     ·simp only [yaa] at hu
      subst hu
      have h1:v=_:=hl.1
      rw [h1,ih _ _ hus hl.2]
     ·cases hu
  have:=this cs us arr.toList h1 hl
  congr 1
  exact bM this
 ·exact h.elim
theorem Hz {t kt e:TypeId} {ks:List (Nat × TypeDesc)} {us:List Value} {h:List Blk} {k c:Nat} {arr:Array MapEntry} {val:Value} {x:V} {es:List (Value × V × Nat)} {K:Blk→Prop} (hr:Rep ρ X w h) (ht:P.underlying t=some (.map kt e)) (hko:xI P kt ks us) (hka:Bo ks es)
  (hk:(ρ k).real=true) (ho:(ρ k).off=0) (hs:(ρ k).sz=0) (hb:w.heap[(ρ k).blk]?=some (.map arr c)) (hm:gO ρ X w es arr.toList) (hx:aX ρ X w x val) (hK:gZ (some (iD us es 0)) (.agg us.toArray) x es c K) :
  ∃ B w',K B∧B≠.dead∧Fr ρ w ρ w'∧Rep ρ X w' (h.set k B)∧(∀ j,j≠k→(ρ j).real=true→w'.heap[(ρ j).blk]?=w.heap[(ρ j).blk]?)∧(Instr.mapUpdate t (.map (some (ρ k).blk)) (.agg us.toArray) val).run P w=.ok () w':=by
 have hfind:∀ es,(Instr.findKey kt (.agg us.toArray) es).run P w=(Instr.findAsking kt (.agg us.toArray) es).run P w:=fun es=>run_findKey_eq w (Qb hko.row) _ _
 rcases uU hko 0 hm hka with ⟨g1,g2⟩|⟨j,y,val',en,ws,g1,g2,g3,g4,g5,g6,g7⟩
 ·rw [g1] at hK
  simp only [gZ] at hK
  obtain ⟨q1,q2,q3⟩:=n9 (arr':=arr.push ⟨.agg us.toArray,val,c⟩) (c':=c+1) hr hk ho hs hb (by rw [Array.toList_push];exact Ah hx hm)
  exact ⟨_,_,hK,by simp,q1,q2,q3,by simp [Instr.mapUpdate,run_underlying ht,MapKept.run_getObj_map hb,hko.check,hfind,g2 w,MapKept.run_setObj_map _ hb]⟩
 ·rw [g1] at hK
  simp only [gZ] at hK
  rw [yan] at hK
  simp only [yan] at g2
  obtain ⟨q1,q2,q3⟩:=n9 (arr':=arr.modify j fun e=>{ e with key:=.agg us.toArray,val:=val }) (c':=c) hr hk ho hs hb (by rw [uB rfl];exact Ec hx hm _ j)
  have hj:arr[j]?=some en:=by simpa using g4
  obtain ⟨a',ha',hek⟩:=vJ hm en (yak g4)
  obtain ⟨ws',e1,e2,e3⟩:=hka a' ha'
  have hww:ws'=ws:=by
   have h1:=hek.1.1
   rw [g5,e1] at h1
   simp only [Value.agg.injEq] at h1
   exact h1.symm
  subst hww
  have hst:=Su (P:=P) hko.len g7 hko.keys e3 g6 w
  exact ⟨_,_,hK,by simp,q1,q2,q3,by simp [Instr.mapUpdate,run_underlying ht,MapKept.run_getObj_map hb,hko.check,hfind,g2 w,hj,g5,hst,MapKept.run_setObj_map _ hb]⟩
def Zt (ρ:Nat→Loc) (X:Nat→Prop) (w:World) (sz:Nat) (els:List (List V)) (c:Array Value):Prop :=
 c.size=els.length*sz∧∀ (i:Nat) (e:List V),els[i]?=some e→e.length=sz∧∀ (f:Nat) (x:V),e[f]?=some x→∃ u,c[i*sz+f]?=some u∧aX ρ X w x u
theorem Im {sz:Nat} {K:List (List V)→Prop} {a:Act} {e:Env} (he:cS ρ X w e a.tmps):∀ (ps:List (Nat × Operand)) (acc:List (List V)) (cells:Array Value),
  Zt ρ X w sz acc cells→Mw sz acc (ps.map fun p=>(p.1,ev e p.2)) K →
   ∃ els cells',K els∧els.length=acc.length∧Instr.fill (fun i=>some (i*sz,sz)) cells (ps.map fun p=>(p.1,a.eval p.2))=some cells'∧Zt ρ X w sz els cells'
 | [],acc,cells,ha,hk=>⟨acc,cells,hk,rfl,rfl,ha⟩
 | (i,x)::r,acc,cells,ha,hk=>by
  obtain ⟨cs,h1,⟨⟨h2,h3⟩,h4⟩,h5⟩:=dO hk
  have hx:=i6 h1 (aT he x)
  have hl:=cZ hx
  simp only [ybb] at hl
  have hle:(i+1)*sz≤acc.length*sz:=yad _ (by omega)
  rw [yab,yai] at hle
  have hfit:i*sz+(a.eval x).cells.size≤cells.size:=by rw [ha.1];omega
  obtain ⟨g1,g2⟩:=uW (a.eval x).cells (i*sz) cells hfit
  have hfl:Zt ρ X w sz (acc.set i cs) ((a.eval x).cells.zipIdx.foldl (fun cs (x:Value × Nat)=>cs.setIfInBounds (i*sz+x.2) x.1) cells):=by
   refine ⟨by rw [g1,ha.1];simp,fun j e' he'=>?_⟩
   by_cases hj:j=i
   ·subst hj
    rw [yaC h3] at he'
    simp only [yaa] at he'
    subst he'
    refine ⟨h2,fun f y hy=>?_⟩
    have hf:f<cs.length:=(yac.1 hy).1
    obtain ⟨u,k1,k2⟩:=cG hx hy
    refine ⟨u,?_,k2⟩
    rw [g2,if_pos (by omega),show j*sz+f-j*sz=f by omega]
    simpa using k1
   ·rw [yau (Ne.symm hj)] at he'
    obtain ⟨k1,k2⟩:=ha.2 j e' he'
    refine ⟨k1,fun f y hy=>?_⟩
    have hf:f<sz:=by rw [←k1];exact (yac.1 hy).1
    obtain ⟨u,k3,k4⟩:=k2 f y hy
    refine ⟨u,?_,k4⟩
    rw [g2,if_neg ?_]
    ·exact k3
    ·rcases yaK hj with h7|h7
     ·have:(j+1)*sz≤i*sz:=yad _ (by omega)
      rw [yab,yai] at this
      omega
     ·have:(i+1)*sz≤j*sz:=yad _ (by omega)
      rw [yab,yai] at this
      omega
  obtain ⟨els,cells',k1,k2,k3,k4⟩:=Im he r _ _ hfl h5
  refine ⟨els,cells',k1,by rw [k2];simp,?_,k4⟩
  simp only [yaN,Instr.fill]
  rw [if_neg (by simp;omega)]
  exact k3
theorem Bb {h:List Blk} (hr:Rep ρ X w h) {k sz i n:Nat} {els:List (List V)} (hb:h[k]?=some (.arv sz els)) (hin:i+n≤els.length) :
  ∃ vs:List Value,vs.length=n*sz∧(∀ j v,vs[j]?=some v→w.cell? ⟨(ρ k).blk,(ρ k).off+i*sz+j,none⟩=some v) ∧
   ∀ (j:Nat) (e:List V),((els.drop i).take n)[j]?=some e→e.length=sz∧∀ (f:Nat) (x:V),e[f]?=some x→∃ u,vs[j*sz+f]?=some u∧aX ρ X w x u:=by
 obtain ⟨⟨hsz,hpos⟩,hreal,c,T,hh,hcs,hroom,hels⟩:=hr.blk k _ hb
 have hle:(i+n)*sz≤els.length*sz:=yad _ hin
 rw [yab] at hle
 refine ⟨(c.toList.drop ((ρ k).off+i*sz)).take (n*sz),by simp;omega,fun j v hj=>?_,fun j e he=>?_⟩
 ·rw [yal] at hj
  split at hj
  ·rw [yar] at hj
   simp [World.cell?,hh]
   simpa using hj
  ·cases hj
 ·rw [yal] at he
  split at he
  ·rename_i hjn
   rw [yar] at he
   obtain ⟨h1,h2⟩:=hels _ e he
   refine ⟨h1,fun f x hx=>?_⟩
   have hf:f<sz:=by rw [←h1];exact (yac.1 hx).1
   obtain ⟨u,h3,h4⟩:=h2 f x hx
   refine ⟨u,?_,h4⟩
   have hlt:(j+1)*sz≤n*sz:=yad _ hjn
   rw [yab,yai] at hlt
   rw [yal,if_pos (by omega),yar,yaq]
   rw [yab] at h3
   rw [show (ρ k).off+i*sz+(j*sz+f)=(ρ k).off+(i*sz+j*sz)+f by omega]
   exact h3
  ·cases he
theorem Bw {R:V→Value→Prop} {sz:Nat} {A B:List (List V)} {us vs rest:List Value} (hu:us.length=A.length*sz) (hv:vs.length=B.length*sz)
  (hA:∀ (i:Nat) (e:List V),A[i]?=some e→e.length=sz∧∀ (f:Nat) (x:V),e[f]?=some x→∃ u,us[i*sz+f]?=some u∧R x u)
  (hB:∀ (i:Nat) (e:List V),B[i]?=some e→e.length=sz∧∀ (f:Nat) (x:V),e[f]?=some x→∃ u,vs[i*sz+f]?=some u∧R x u) :
  ∀ (i:Nat) (e:List V),(A++B)[i]?=some e→e.length=sz∧∀ (f:Nat) (x:V),e[f]?=some x→∃ u,(us++vs++rest)[i*sz+f]?=some u∧R x u:=by
 intro i e he
 by_cases hi:i<A.length
 ·rw [yaj hi] at he
  obtain ⟨h1,h2⟩:=hA i e he
  refine ⟨h1,fun f x hx=>?_⟩
  obtain ⟨u,h3,h4⟩:=h2 f x hx
  have hlt:i*sz+f<us.length:=(yac.1 h3).1
  exact ⟨u,by rw [yat,yaj hlt];exact h3,h4⟩
 ·rw [yam (by omega)] at he
  obtain ⟨h1,h2⟩:=hB _ e he
  refine ⟨h1,fun f x hx=>?_⟩
  obtain ⟨u,h3,h4⟩:=h2 f x hx
  have hlt:(i-A.length)*sz+f<vs.length:=(yac.1 h3).1
  have e1:i*sz=A.length*sz+(i-A.length)*sz:=by rw [←yab];congr 1;omega
  refine ⟨u,?_,h4⟩
  rw [yat,yam (by omega),yaj (by omega),hu]
  rw [show i*sz+f-A.length*sz=(i-A.length)*sz+f by omega]
  exact h3
theorem abA {h:List Blk} {sz:Nat} {new:List (List V)} {vs:List Value} (hl:vs.length=new.length*sz) (hpos:0<sz) (hc:(new.all fun r=>r.all isC)=true)
  (h4:∀ (j:Nat) (e:List V),new[j]?=some e→e.length=sz∧∀ (f:Nat) (x:V),e[f]?=some x→∃ u,vs[j*sz+f]?=some u∧aX ρ X w x u):∀ v∈vs,v.oneCell'=true:=by
 intro v hv
 obtain ⟨q,hq⟩:=yaA hv
 have hql:q<new.length*sz:=by rw [←hl];exact (yac.1 hq).1
 have hdm:q/sz*sz+q%sz=q:=by rw [yaH];exact Nat.div_add_mod q sz
 have hlt:q/sz<new.length:=ybq (by rw [yaH];exact hql)
 obtain ⟨g1,g2⟩:=h4 (q/sz) _ (yao hlt)
 have hml:q%sz<(new[q/sz]'hlt).length:=by rw [g1];exact Nat.mod_lt _ hpos
 obtain ⟨u,g3,g4⟩:=g2 (q%sz) _ (yao hml)
 rw [hdm,hq] at g3
 simp only [yaa] at g3
 subst g3
 exact Nw (yah.1 (yah.1 hc _ (yaX hlt)) _ (yaX hml)) g4
theorem Nt {t ty e:TypeId} {inf:TypeInfo} {z:Value} {id:Nat} {s:St} {fx bn:List Nat} {ts:Array Value} {new:List (List V)} {yv:Value} {K:V→St→Prop} (ht:P.underlying t=some (.slice e)) (hi:P.info? e=some inf) (hz:inf.zero=some z) (hs:0<inf.size) (hzs:z.cells.size=inf.size) (hby:0<inf.bytes)
  (hr:Rep ρ X w s.h) (he:cS ρ X w s.e ts) (hfx:aD fx s.h) (hne:new≠[]) {k' i':Nat} {els':List (List V)} (hyb:s.h[k']?=some (.arv inf.size els')) (hyi:i'+new.length≤els'.length) (hyn:(els'.drop i').take new.length=new)
  (hy:aX ρ X w (.sl k' i' new.length) yv) (hb:new.length*inf.bytes≤140737488355328) (hfr:aF s.h id) (hK:K (.sl id 0 new.length) { s with h:=s.h.set id (.arv inf.size new) }) :
  pU P fx bn ρ X w ts (Builtin.append_ #[t,t] ty #[.slice none 0 0,yv]) K:=by
 have hpos:0<new.length:=yaQ.2 hne
 obtain ⟨capy,q1,q2,q3⟩:=hy
 rcases q3 with ⟨q4,_⟩|⟨hyr,rfl,hyroom⟩
 ·omega
 ·obtain ⟨vs,h1,h2,h4⟩:=Bb hr hyb hyi
  rw [hyn] at h4
  have hsz:=(hr.blk k' _ hyb).1.1
  have hml:0+new.length≤maxLen:=by
   have:new.length≤new.length*inf.bytes:=yaR _ hby
   simp only [maxLen]
   omega
  obtain ⟨cc,rest,g1,g2,g3,g4⟩:=Nb (P:=P) (ty:=ty) (a:=none) (n:=0) (cap:=0) (olds:=[]) (c:=capy) (b:=⟨(ρ k').blk,(ρ k').off+i'*(ρ k').sz,none⟩) ht hi hz hzs (by simp) (.inl ⟨rfl,rfl⟩) h1 (fun j v hj=>by rw [Addr.add_none,hsz];exact h2 j v hj) (by omega) (by simpa using hb) hml
  have hae:=Bw (R:=aX ρ X w) (A:=[]) (us:=[]) (rest:=rest.toList) (by simp) h1 (fun i e he=>by simp at he) h4
  have hto:(([]:List Value).toArray++vs.toArray++rest).toList=[]++vs++rest.toList:=by simp
  obtain ⟨ρ',hf,hag,hot,hr',hp⟩:=Ke hr hfr hs (els:=new) (Made.drewAlloc w (.cells (([]:List Value).toArray++vs.toArray++rest) e)) (by rw [g3];exact yad _ (by omega))
   (fun i e' he'=>by
    obtain ⟨p1,p2⟩:=hae i e' (by simpa using he')
    refine ⟨p1,fun f x hx=>?_⟩
    obtain ⟨u,p3,p4⟩:=p2 f x hx
    exact ⟨u,by rw [←yaq,hto];exact p3,p4⟩) new.length cc (by omega) g2 (by rw [g3];exact yae _)
  refine ⟨_,_,by simpa using g4,_,_,ρ',hK,⟨bG hfx (bQ (by simp)),fun k hk=>hot.1 k (eQ hfr (bB hfx k hk)),fun k _ hreal=>⟨hag k hreal,hot.2 k hreal⟩⟩,hf,hr',bF hf hag he,by simpa using hp⟩
theorem Tw {t ty e:TypeId} {inf:TypeInfo} {z:Value} {s:St} {fx bn:List Nat} {ts:Array Value} {k i n:Nat} {new:List (List V)} {xv yv:Value} {K:V→St→Prop} (ht:P.underlying t=some (.slice e)) (hi:P.info? e=some inf) (hz:inf.zero=some z) (hs:0<inf.size) (hzs:z.cells.size=inf.size) (hby:0<inf.bytes)
  (hr:Rep ρ X w s.h) (he:cS ρ X w s.e ts) (hfx:aD fx s.h) (hx:aX ρ X w (.sl k i n) xv) (hne:new≠[]) (hnc:(new.all fun r=>r.all isC)=true) {k' i':Nat} {els':List (List V)} (hyb:s.h[k']?=some (.arv inf.size els')) (hyi:i'+new.length≤els'.length) (hyn:(els'.drop i').take new.length=new)
  (hy:aX ρ X w (.sl k' i' new.length) yv) (h:Zj fx bn k i n inf.size inf.bytes s new (blk s.h k) K):pU P fx bn ρ X w ts (Builtin.append_ #[t,t] ty #[xv,yv]) K:=by
 unfold blk at h
 rw [yap] at h
 cases hb:s.h[k]? with
 | none=>simp [hb,Zj] at h
 | some B =>
  rw [hb] at h
  have hB:=hr.blk k B hb
  have hklt:k<s.h.length:=(yac.1 hb).1
  cases B with
  | arv sz' els =>
   obtain ⟨⟨rfl,hin,hbytes⟩,hkfx,hK⟩:=h
   obtain ⟨⟨hsz,hpos⟩,hkreal,c,T,hh,hcs,hrm2,hels⟩:=hB
   obtain ⟨cap,hnc',hcm,hxv⟩:=hx
   have hlen:((els.drop i).take n).length=n:=by simp;omega
   have hpos':0<new.length:=yaQ.2 hne
   obtain ⟨capy,q1,q2,q3⟩:=hy
   rcases q3 with ⟨q4,_⟩|⟨hyr,rfl,hyroom⟩
   ·omega
   obtain ⟨vs,h1,h2,h4⟩:=Bb hr hyb hyi
   rw [hyn] at h4
   have hszy:=(hr.blk k' _ hyb).1.1
   have h3:=abA (h:=s.h) h1 hs hnc h4
   have hkeep:aD fx ((s.h.map (aK [k])).set k (.arv inf.size (((els.drop i).take n++new).map (bD [k])))):=bG hfx fun j hj=>bQ (by simp) j (Ex j hj)
   have close:∀ (l:Loc) (w':World) (val:Value),(Builtin.append_ #[t,t] ty #[xv,.slice (some ⟨(ρ k').blk,(ρ k').off+i'*(ρ k').sz,none⟩) new.length capy]).run P w=.ok val w'→Fr ρ w (upd ρ k l) w' →
     (l.real=true→(w.heap.size≤l.blk∨((ρ k).real=true∧l.blk=(ρ k).blk))∧l.blk<w'.heap.size) →
     (∀ j,j≠k→(ρ j).real=true→w'.heap[(ρ j).blk]?=w.heap[(ρ j).blk]?)→bE (upd ρ k l) X w' k (.arv inf.size (((els.drop i).take n++new).map (bD [k]))) →
     aX (upd ρ k l) X w' (.sl k 0 (n+new.length)) val→pU P fx bn ρ X w ts (Builtin.append_ #[t,t] ty #[xv,.slice (some ⟨(ρ k').blk,(ρ k').off+i'*(ρ k').sz,none⟩) new.length capy]) K:=by
    intro l w' val hrun hf hnew hold hBk hv
    refine ⟨val,w',hrun,_,_,upd ρ k l,hK,⟨hkeep,fun j hj=>aV _ _ (fun e=>hkfx.1 (e▸hj)),fun j hj hjr=>⟨aV _ _ (fun e=>hkfx.2 (e▸hj)),hold j (fun e=>hkfx.2 (e▸hj)) hjr⟩⟩,hf,Ia hr hklt hf hnew hold hBk,?_,hv⟩
    exact t6 hf [k] (fun j hj _=>aV _ _ (by simpa using hj)) he
   have hml:n+new.length≤maxLen:=by
    have:n+new.length≤(n+new.length)*inf.bytes:=yaR _ hby
    simp only [maxLen]
    omega
   have hnews:∀ j v,vs[j]?=some v→w.cell? ((⟨(ρ k').blk,(ρ k').off+i'*(ρ k').sz,none⟩:Addr).add j)=some v:=fun j v hj=>by rw [Addr.add_none,hszy];exact h2 j v hj
   by_cases hroom:n+new.length≤cap
   ·-- there is room
    rcases hxv with ⟨rfl,a,rfl⟩|⟨hreal,hxe,hrm⟩
    ·omega
    ·rw [hsz] at hxe
     subst hxe
     rw [hsz] at hrm
     have hle1:(i+(n+new.length))*inf.size≤(i+cap)*inf.size:=yad _ (by omega)
     simp only [yab] at hle1 hrm
     have hfit:(ρ k).off+i*inf.size+n*inf.size+vs.length≤c.size:=by rw [h1];omega
     obtain ⟨c',k1,k2,k3⟩:=c6 _ vs ((ρ k).off+i*inf.size+n*inf.size) w c T (0,0) hh hfit
     have hsub:∀ b,Own (upd ρ k { ρ k with off:=(ρ k).off+i*inf.size }) b→Own ρ b:=by
      rintro b ⟨j,h1,h2⟩
      by_cases hj:j=k
      ·subst hj;rw [upd_same] at h1 h2;exact ⟨j,h1,h2⟩
      ·rw [aV _ _ hj] at h1 h2;exact ⟨j,h1,h2⟩
     have hf0:=f7 hr hreal ((ρ k).off+i*inf.size+n*inf.size) vs
     have hf:Fr ρ w (upd ρ k { ρ k with off:=(ρ k).off+i*inf.size }) (w.setCells (ρ k).blk ((ρ k).off+i*inf.size+n*inf.size) vs) :=
      ⟨hf0.os,hf0.tape,hf0.output,hf0.size,fun b hb ho=>⟨(hf0.keep b hb ho).1,fun h=>ho (hsub b h)⟩⟩
     have hrun:=Vo (ty:=ty) (off:=(ρ k).off+i*inf.size) (c:=capy) ht hi hh h1 hnews h3 hroom hfit
     refine close { ρ k with off:=(ρ k).off+i*inf.size } _ _ hrun hf (fun _=>⟨.inr ⟨hreal,rfl⟩,by rw [setCells_size];exact hr.lt k hreal⟩) (fun j hj hjr=>cU _ _ _ _ _ (hr.inj j k hj hjr hreal)) ?_ ?_
     ·simp only [bE,upd_same]
      refine ⟨⟨hsz,hpos⟩,hreal,c',T,k1,by omega,?_,?_⟩
      ·simp only [yaE,yaS,hlen,yab]
       omega
      ·intro j e' he'
       simp only [yag,yaf] at he'
       obtain ⟨e0,he',rfl⟩:=he'
       have hkl:∀ (x:V) (u:Value),aX ρ X w x u→aX (upd ρ k { ρ k with off:=(ρ k).off+i*inf.size }) X (w.setCells (ρ k).blk ((ρ k).off+i*inf.size+n*inf.size) vs) (kill [k] x) u:=fun x u hxu=>gN hf [k] (fun j hj _=>aV _ _ (by simpa using hj)) x u hxu
       by_cases hj:j<n
       ·rw [yaj (by omega),yal,if_pos hj,yar] at he'
        obtain ⟨p1,p2⟩:=hels _ e0 he'
        refine ⟨by rw [tQ];exact p1,fun f x hx=>?_⟩
        rw [gJ,yag,yaf] at hx
        obtain ⟨x0,hx,rfl⟩:=hx
        have hfl:f<inf.size:=by rw [←p1];exact (yac.1 hx).1
        obtain ⟨u,p3,p4⟩:=p2 f x0 hx
        have hjn:(j+1)*inf.size≤n*inf.size:=yad _ (by omega)
        rw [yab,yai] at hjn
        refine ⟨u,?_,hkl _ _ p4⟩
        rw [k3,if_neg (by omega)]
        rw [yab] at p3
        rw [show (ρ k).off+i*inf.size+j*inf.size+f=(ρ k).off+(i*inf.size+j*inf.size)+f by omega]
        exact p3
       ·rw [yam (by omega),hlen] at he'
        obtain ⟨p1,p2⟩:=h4 _ e0 he'
        refine ⟨by rw [tQ];exact p1,fun f x hx=>?_⟩
        rw [gJ,yag,yaf] at hx
        obtain ⟨x0,hx,rfl⟩:=hx
        obtain ⟨u,p3,p4⟩:=p2 f x0 hx
        have hlt:(j-n)*inf.size+f<vs.length:=(yac.1 p3).1
        have ej:j*inf.size=n*inf.size+(j-n)*inf.size:=by rw [←yab];congr 1;omega
        refine ⟨u,?_,hkl _ _ p4⟩
        rw [k3,if_pos (by omega)]
        rw [show (ρ k).off+i*inf.size+j*inf.size+f-((ρ k).off+i*inf.size+n*inf.size)=(j-n)*inf.size+f by omega]
        exact p3
     ·simp only [aX,upd_same]
      refine ⟨cap,hroom,hcm,.inr ⟨hreal,by rw [hsz];simp,?_⟩⟩
      rw [hsz]
      simp only [yan]
      omega
   ·-- a new row
    have hgo:∃ (olds:List Value) (a:Option Addr),xv=.slice a n cap∧olds.length=n*inf.size∧((n=0∧cap=0)∨∃ b',a=some b'∧∀ j v,olds[j]?=some v→w.cell? (b'.add j)=some v) ∧
      ∀ (j:Nat) (e:List V),((els.drop i).take n)[j]?=some e→e.length=inf.size∧∀ (f:Nat) (x:V),e[f]?=some x→∃ u,olds[j*inf.size+f]?=some u∧aX ρ X w x u:=by
     rcases hxv with ⟨rfl,a,rfl⟩|⟨hreal,rfl,hrm⟩
     ·have hn:n=0:=by omega
      subst hn
      exact ⟨[],a,rfl,by simp,.inl ⟨rfl,rfl⟩,fun j e he=>by simp at he⟩
     ·obtain ⟨us,m1,m2,m3⟩:=Bb hr hb hin
      exact ⟨us,_,rfl,m1,.inr ⟨_,rfl,fun j v hj=>by rw [Addr.add_none,hsz];exact m2 j v hj⟩,m3⟩
    obtain ⟨olds,a,rfl,hol,holds,hoe⟩:=hgo
    obtain ⟨cc,rest,g1,g2,g3,g4⟩:=Nb (ty:=ty) (c:=capy) (b:=⟨(ρ k').blk,(ρ k').off+i'*(ρ k').sz,none⟩) ht hi hz hzs hol holds h1 hnews (by omega) hbytes hml
    have hae:=Bw (R:=aX ρ X w) (rest:=rest.toList) (A:=(els.drop i).take n) (by rw [hlen];exact hol) h1 hoe h4
    have hto:(olds.toArray++vs.toArray++rest).toList=olds++vs++rest.toList:=by simp
    have hmd:=Made.drewAlloc w (.cells (olds.toArray++vs.toArray++rest) e)
    have hf:Fr ρ w (upd ρ k ⟨true,w.heap.size,0,inf.size,(olds.toArray++vs.toArray++rest).size,default⟩) (w.drew.alloc (.cells (olds.toArray++vs.toArray++rest) e)):=q9 hmd (k:=k) rfl
    refine close _ _ _ g4 hf (fun _=>⟨.inl (yae _),by rw [hmd.size];exact Nat.lt_succ_self _⟩) (fun j hj hjr=>hmd.old (hr.lt j hjr)) ?_ ?_
    ·simp only [bE,upd_same]
     refine ⟨⟨trivial,hpos⟩,trivial,_,e,hmd.new,rfl,?_,?_⟩
     ·rw [g3]
      simp only [yaE,yaS,hlen,yan]
      exact yad _ g1
     ·intro j e' he'
      simp only [yag,yaf] at he'
      obtain ⟨e0,he',rfl⟩:=he'
      obtain ⟨p1,p2⟩:=hae j e0 he'
      refine ⟨by rw [tQ];exact p1,fun f x hx=>?_⟩
      rw [gJ,yag,yaf] at hx
      obtain ⟨x0,hx,rfl⟩:=hx
      obtain ⟨u,p3,p4⟩:=p2 f x0 hx
      exact ⟨u,by rw [←yaq,hto,yan];exact p3,gN hf [k] (fun j hj _=>aV _ _ (by simpa using hj)) _ _ p4⟩
    ·simp only [aX,upd_same]
     exact ⟨cc,g1,g2,.inr ⟨trivial,by simp,by simp only [yan];rw [g3];exact yae _⟩⟩
  | _=>exact h.elim
theorem Zl {o:Oper} {p0:Eff} {j:Nat} {l:LOp} {a:Act} {s:St} {cx:Cx} {K:V→St→Prop} (hm:Hr P o.op p0 j=some l)
  (hr:Rep ρ X w s.h) (he:cS ρ X w s.e a.tmps) (hfx:aD cx.fx s.h) (h:aOp cx l s K) :
  (∃ val w',(execOp a.eval o).run P w=.ok (.value val) w'∧oM cx.fx cx.bn ρ X w a.tmps K val w') ∨
  (∃ w',(execOp a.eval o).run P w=.ok .skip w'∧oM cx.fx cx.bn ρ X w a.tmps K undef w'):=by
 unfold execOp
 generalize o.op=op at hm ⊢
 unfold Hr at hm
 split at hm
 ·-- clr
  rename_i c
  split at hm
  ·rename_i x t hcal hargs hts
   split at hm
   ·rename_i e hu
    split at hm
    ·rename_i inf hi
     split at hm
     ·rename_i z hz
      split at hm
      ·rename_i hc
       obtain ⟨hs,hzs,hpl⟩:=hc
       simp only [yaa] at hm
       subst hm
       have ha:=bM hargs
       have hat:=bM hts
       have hx:=aT he x
       have h':No cx.bn inf.size z.cells.toList (ev s.e x) s K:=h
       have fin:∀ w',(Builtin.clear_ #[t] o.type #[a.eval x]).run P w=.ok (.tuple #[]) w'→(do let d ← resolve a.eval c o.type;invoke d.target d.args:Sem Next).run P w=.ok (.value (.tuple #[])) w':=by
        intro w' hw'
        simp [resolve,hcal,ha,hat,invoke,builtin,hw']
       unfold No at h'
       split at h'
       ·rename_i k i n hv
        rw [hv] at hx
        unfold blk at h'
        rw [yap] at h'
        cases hb:s.h[k]? with
        | none=>simp [hb,Ts] at h'
        | some B =>
         rw [hb] at h'
         cases B with
         | arr sz' els =>
          obtain ⟨⟨rfl,hin,hkbn⟩,hK⟩:=h'
          obtain ⟨cap,hnc,hcm,hxv⟩:=hx
          by_cases h0:n=0
          ·subst h0
           have hsame:els.take i++yav 0 (z.cells.toList.map V.v)++els.drop (i+0)=els:=by simp
           have hset:s.h.set k (.arr inf.size els)=s.h:=by
            apply ybf
            intro j
            rw [yaJ]
            split
            ·rename_i hj;subst hj;rw [if_pos (yac.1 hb).1];exact hb.symm
            ·rfl
           rw [hsame,hset] at hK
           refine .inl ⟨_,w,fin w ?_,_,_,ρ,hK,⟨hfx,fun _ _=>rfl,fun _ _ _=>⟨rfl,rfl⟩⟩,Fr.refl _ _,hr,he,rfl⟩
           rcases hxv with ⟨rfl,ad,h2⟩|⟨_,h2,_⟩
           ·cases ad<;>simp [Builtin.clear_,run_underlying hu,h2]
           ·simp [Builtin.clear_,run_underlying hu,h2]
          ·rcases hxv with ⟨rfl,ad,_⟩|⟨hreal,h2,_⟩
           ·omega
           ·have hpl':∀ v∈z.cells.toList,isD (.v v)=true:=fun v hv=>yah.1 hpl v hv
            have hmz:=iX (w:=w) (n:=n) (S:=Sta ρ X w) hzs hs hpl'
            obtain ⟨g1,g2,g3⟩:=Wb (P:=P) hr hb hin (by omega) hreal (new:=yav n (z.cells.toList.map V.v)) (vs:=(Builtin.zeroCells z.cells n).toList) (by simp) (by rw [oR,hzs];simp [size_madeCells]) (fun v hv=>by
             obtain ⟨q,hq⟩:=yaA hv
             rw [yaq,oR,hzs] at hq
             have hql:q<n*inf.size:=by have:=(ybr.1 hq).1;simpa [size_madeCells] using this
             have hdm:q/inf.size*inf.size+q%inf.size=q:=by rw [yaH];exact Nat.div_add_mod q inf.size
             have hlt:q/inf.size<n:=ybq (by rw [yaH];exact hql)
             obtain ⟨_,g5⟩:=hmz (q/inf.size) (z.cells.toList.map V.v) (by rw [yaG,if_pos hlt])
             have hml:q%inf.size<z.cells.size:=by rw [hzs];exact Nat.mod_lt _ hs
             obtain ⟨u,g6,g7⟩:=g5 (q%inf.size) (.v z.cells[q%inf.size]) (by simp [hml])
             rw [hdm] at g6
             rw [g6] at hq
             simp only [yaa] at hq
             subst hq
             exact Nx g7) (fun i e he=>by
             obtain ⟨q1,q2⟩:=hmz i e he
             exact ⟨q1,fun f x hx=>by rw [yaq,oR,hzs];exact q2 f x hx⟩)
            refine .inl ⟨_,_,fin _ ?_,_,_,ρ,hK,⟨bG hfx (bQ (by simp)),fun _ _=>rfl,fun j hj hjr=>⟨rfl,cU _ _ _ _ _ (hr.inj j k (fun e=>hkbn (e▸hj)) hjr hreal)⟩⟩,g2,g3,bF g2 (fun _ _=>rfl) he,rfl⟩
            rw [h2]
            obtain ⟨n',rfl⟩:∃ n',n=n'+1:=⟨n-1,by omega⟩
            simp [Builtin.clear_,run_underlying hu,zeroValue,typeInfo,hi,hz,g1]
         | _=>exact h'.elim
       ·rename_i hv
        rw [hv] at hx
        have hx':a.eval x=.slice none 0 0:=hx
        refine .inl ⟨_,w,fin w ?_,_,_,ρ,h',⟨hfx,fun _ _=>rfl,fun _ _ _=>⟨rfl,rfl⟩⟩,Fr.refl _ _,hr,he,rfl⟩
        simp [Builtin.clear_,run_underlying hu,hx']
       ·exact h'.elim
      ·cases hm
     ·cases hm
    ·cases hm
   ·cases hm
  ·cases hm
 ·-- look
  rename_i t m k ok
  split at hm
  ·rename_i kt e hu
   split at hm
   ·rename_i ks inf hks hi
    split at hm
    ·rename_i z hz
     split at hm
     ·rename_i hc
      simp only [yaa] at hm
      subst hm
      have h':An ks (ev s.e k) fun us=>rB s.h ks us z ok (ev s.e m) fun x=>K x s:=h
      obtain ⟨us,hkv,hul,huk,h'⟩:=Fg (aT he k) h'
      have hko:xI P kt ks us:=⟨hks,hc.1,hc.2.1,hc.2.2,hul,huk⟩
      have hfind:∀ es,(Instr.findKey kt (.agg us.toArray) es).run P w=(Instr.findAsking kt (.agg us.toArray) es).run P w:=fun es=>run_findKey_eq w (Qb hc.2.2) _ _
      have hmv:=aT he m
      unfold rB at h'
      split at h'
      ·rename_i hv
       rw [hv] at hmv
       have hmv':a.eval m=.map none:=hmv
       simp only [eF] at h'
       cases ok with
       | true=>exact .inl ⟨.tuple #[z,.bool false],w,by simp [hmv',hkv,Instr.lookup,run_underlying hu,hko.check,hfind,Instr.findAsking,zeroValue,typeInfo,hi,hz],_,s,ρ,h',⟨hfx,fun _ _=>rfl,fun _ _ _=>⟨rfl,rfl⟩⟩,Fr.refl _ _,hr,he,⟨_,rfl,dM z,rfl,trivial⟩⟩
       | false=>exact .inl ⟨z,w,by simp [hmv',hkv,Instr.lookup,run_underlying hu,hko.check,hfind,Instr.findAsking,zeroValue,typeInfo,hi,hz],_,s,ρ,h',⟨hfx,fun _ _=>rfl,fun _ _ _=>⟨rfl,rfl⟩⟩,Fr.refl _ _,hr,he,dM z⟩
      ·obtain ⟨b,es,c,arr,_,⟨hka,h1⟩,_,_,_,_,hm',hb,hrm⟩:=gV hr hmv h'
       rcases uU hko 0 hrm hka with ⟨g1,g2⟩|⟨j,x,val,en,ws,g1,g2,g3,g4,g5⟩
       ·rw [g1] at h1
        simp only [eF] at h1
        cases ok with
        | true=>exact .inl ⟨.tuple #[z,.bool false],w,by simp [hm',hkv,Instr.lookup,run_underlying hu,MapKept.run_getObj_map hb,hko.check,hfind,g2 w,zeroValue,typeInfo,hi,hz],_,s,ρ,h1,⟨hfx,fun _ _=>rfl,fun _ _ _=>⟨rfl,rfl⟩⟩,Fr.refl _ _,hr,he,⟨_,rfl,dM z,rfl,trivial⟩⟩
        | false=>exact .inl ⟨z,w,by simp [hm',hkv,Instr.lookup,run_underlying hu,MapKept.run_getObj_map hb,hko.check,hfind,g2 w,zeroValue,typeInfo,hi,hz],_,s,ρ,h1,⟨hfx,fun _ _=>rfl,fun _ _ _=>⟨rfl,rfl⟩⟩,Fr.refl _ _,hr,he,dM z⟩
       ·rw [g1] at h1
        simp only [eF] at h1
        cases ok with
        | true=>exact .inl ⟨.tuple #[val,.bool true],w,by simp [hm',hkv,Instr.lookup,run_underlying hu,MapKept.run_getObj_map hb,hko.check,hfind,g2 w],_,s,ρ,h1,⟨hfx,fun _ _=>rfl,fun _ _ _=>⟨rfl,rfl⟩⟩,Fr.refl _ _,hr,he,⟨_,rfl,g3,rfl,trivial⟩⟩
        | false=>exact .inl ⟨val,w,by simp [hm',hkv,Instr.lookup,run_underlying hu,MapKept.run_getObj_map hb,hko.check,hfind,g2 w],_,s,ρ,h1,⟨hfx,fun _ _=>rfl,fun _ _ _=>⟨rfl,rfl⟩⟩,Fr.refl _ _,hr,he,g3⟩
     ·cases hm
    ·cases hm
   ·cases hm
  ·cases hm
 ·-- mset
  rename_i t m k x
  split at hm
  ·rename_i kt e hu
   split at hm
   ·rename_i ks hks
    split at hm
    ·rename_i hc
     simp only [yaa] at hm
     subst hm
     have h':An ks (ev s.e k) fun us=>iM s.h (ev s.e m) fun b es c=>(b∉cx.bn∧Bo ks es)∧gZ (some (iD us es 0)) (.agg us.toArray) (ev s.e x) es c fun B=>K (.v (.tuple #[])) { s with h:=s.h.set b B }:=h
     obtain ⟨us,hkv,hul,huk,h'⟩:=Fg (aT he k) h'
     have hko:xI P kt ks us:=⟨hks,hc.1,hc.2.1,hc.2.2,hul,huk⟩
     obtain ⟨b,es,c,arr,_,⟨⟨hbn,hka⟩,h1⟩,g1,g2,g3,_,hm',hb,hrm⟩:=gV hr (aT he m) h'
     obtain ⟨B,w',h2,h3,h4,h5,h6,h7⟩:=Hz hr hu hko hka g1 g2 g3 hb hrm (aT he x) h1
     exact .inr ⟨w',by simp [hm',hkv,h7],_,_,ρ,h2,⟨bG hfx (bQ h3),fun _ _=>rfl,fun j hj hjr=>⟨rfl,h6 j (fun e=>hbn (e▸hj)) hjr⟩⟩,h4,h5,bF h4 (fun _ _=>rfl) he,rfl⟩
    ·cases hm
   ·cases hm
  ·cases hm
 ·-- insert
  rename_i t m k x
  split at hm
  ·rename_i kt e hu
   split at hm
   ·rename_i ks hks
    split at hm
    ·rename_i hc
     simp only [yaa] at hm
     subst hm
     have h':An ks (ev s.e k) fun us=>iM s.h (ev s.e m) fun b es c=>(b∉cx.bn∧Bo ks es)∧gZ (some (iD us es 0)) (.agg us.toArray) (ev s.e x) es c fun B=>K (.v (.tuple #[])) { s with h:=s.h.set b B }:=h
     obtain ⟨us,hkv,hul,huk,h'⟩:=Fg (aT he k) h'
     have hko:xI P kt ks us:=⟨hks,hc.1,hc.2.1,hc.2.2,hul,huk⟩
     obtain ⟨b,es,c,arr,_,⟨⟨hbn,hka⟩,h1⟩,g1,g2,g3,_,hm',hb,hrm⟩:=gV hr (aT he m) h'
     obtain ⟨B,w',h2,h3,h4,h5,h6,h7⟩:=Hz hr hu hko hka g1 g2 g3 hb hrm (aT he x) h1
     exact .inr ⟨w',by simp [hm',hkv,h7],_,_,ρ,h2,⟨bG hfx (bQ h3),fun _ _=>rfl,fun j hj hjr=>⟨rfl,h6 j (fun e=>hbn (e▸hj)) hjr⟩⟩,h4,h5,bF h4 (fun _ _=>rfl) he,rfl⟩
    ·cases hm
   ·cases hm
  ·cases hm
 ·-- litv
  rename_i t n parts
  split at hm
  ·rename_i e hu
   split at hm
   ·rename_i inf hi
    split at hm
    ·rename_i z hz
     split at hm
     ·rename_i hcnd
      obtain ⟨hs,hzs,hsm,hpl⟩:=hcnd
      simp only [yaa] at hm
      subst hm
      have h':Mw inf.size (yav n (z.cells.toList.map .v)) ((parts.toList.map (·.1)).zip ((parts.toList.map (·.2)).map (ev s.e))) fun els=>aF s.h (s.b+j)∧K (.sl (s.b+j) 0 n) { s with h:=s.h.set (s.b+j) (.arv inf.size els) }:=h.2
      have hzip:(parts.toList.map (·.1)).zip ((parts.toList.map (·.2)).map (ev s.e))=parts.toList.map fun p=>(p.1,ev s.e p.2):=by
       generalize parts.toList=l
       induction l with
       | nil=>rfl
       | cons p l ih=>simp only [yaN,List.zip_cons_cons,ih]
      rw [hzip] at h'
      have hmz:=iX (w:=w) (n:=n) (S:=Sta ρ X w) hzs hs (fun v hv=>yah.1 hpl v hv)
      obtain ⟨els,cells',h1,h2,h3,h4⟩:=Im he parts.toList _ (madeCells z.cells (n*inf.size)) ⟨by simp [size_madeCells],fun i e he=>by
       obtain ⟨q1,q2⟩:=hmz i e he
       exact ⟨q1,fun f x hx=>by obtain ⟨u,q3,q4⟩:=q2 f x hx;exact ⟨u,q3,oN q4⟩⟩⟩ h'
      obtain ⟨h5,h6⟩:=h1
      have hel:els.length=n:=by rw [h2];simp
      have hnm:n≤16777216:=by
       have:n*1≤n*inf.size:=ybh _ hs
       omega
      obtain ⟨ρ',hf,hag,hot,hr',hp⟩:=Ke hr h5 hs (Made.alloc w (.cells cells' e)) (ybi h4.1.symm) h4.2 n n (yae _) (by simp only [maxLen];omega) (by rw [h4.1,hel];exact yae _)
      have hrun:=Ey (w:=w) (parts:=parts.map fun (i,x)=>(i,a.eval x)) hu hi hz hs hsm (by rw [yaM];exact h3)
      exact .inl ⟨_,_,by simp [hrun],_,_,ρ',h6,⟨bG hfx (bQ (by simp)),fun k hk=>hot.1 k (eQ h5 (bB hfx k hk)),fun k _ hreal=>⟨hag k hreal,hot.2 k hreal⟩⟩,hf,hr',bF hf hag he,hp⟩
     ·cases hm
    ·cases hm
   ·cases hm
  ·cases hm
 ·-- appv
  rename_i c
  split at hm
  ·rename_i x y t t' hcal hargs hts
   split at hm
   ·rename_i htt
    subst htt
    split at hm
    ·rename_i e ht
     split at hm
     ·rename_i inf hi
      split at hm
      ·rename_i z hz
       split at hm
       ·rename_i hcnd
        obtain ⟨hs,hzs,hby⟩:=hcnd
        simp only [yaa] at hm
        subst hm
        have h':Jm s.h (ev s.e y) fun sz' new=>(sz'=inf.size∧new≠[]∧(new.all fun r=>r.all isC)=true)∧Sj cx.fx cx.bn (s.b+j) inf.size inf.bytes s (ev s.e x) new K:=h
        have hyv:=aT he y
        have hxv:=aT he x
        unfold Jm at h'
        split at h'
        ·rename_i k' i' n' hyk
         rw [hyk] at hyv
         unfold blk at h'
         rw [yap] at h'
         cases hyb:s.h[k']? with
         | none=>simp [hyb,Uo] at h'
         | some B =>
          rw [hyb] at h'
          cases B with
          | arv sz els' =>
           obtain ⟨hyi,⟨rfl,hne,hnc⟩,h'⟩:=h'
           have hnl:((els'.drop i').take n').length=n':=by simp;omega
           have hyv':aX ρ X w (.sl k' i' ((els'.drop i').take n').length) (a.eval y):=by rw [hnl];exact hyv
           have hyi':i'+((els'.drop i').take n').length≤els'.length:=by rw [hnl];exact hyi
           have hyn':(els'.drop i').take ((els'.drop i').take n').length=(els'.drop i').take n':=by rw [hnl]
           have hok:pU P cx.fx cx.bn ρ X w a.tmps (Builtin.append_ #[t,t] o.type #[a.eval x,a.eval y]) K:=by
            unfold Sj at h'
            split at h'
            ·rename_i k i n hxk
             rw [hxk] at hxv
             exact Tw ht hi hz hs hzs hby hr he hfx hxv hne hnc hyb hyi' hyn' hyv' h'
            ·rename_i hxk
             rw [hxk] at hxv
             have hxv':a.eval x=.slice none 0 0:=hxv
             rw [hxv']
             exact Nt ht hi hz hs hzs hby hr he hfx hne hyb hyi' hyn' hyv' h'.1 h'.2.1 h'.2.2
            ·exact h'.elim
           obtain ⟨val,w',hrun,hsd⟩:=hok
           have ha:=bM hargs
           have hat:=bM hts
           exact .inl ⟨val,w',by simp [resolve,hcal,ha,hat,invoke,builtin,hrun],hsd⟩
          | _=>exact h'.elim
        ·exact h'.elim
       ·cases hm
      ·cases hm
     ·cases hm
    ·cases hm
   ·cases hm
  ·cases hm
 ·-- b2s
  rename_i sr d x
  split at hm
  ·rename_i e hu hd
   split at hm
   ·rename_i hue
    simp only [yaa] at hm
    subst hm
    have h':iG s.h (ev s.e x) fun sz els=>(els=[]∨sz=1)∧cW (bytesOf els) fun l=>K (.v (.string ⟨l.toArray⟩)) s:=h
    obtain ⟨sz,els,⟨h1,h2⟩,h3⟩:=y6 hr (aT he x) h'
    obtain ⟨l,h4,h5⟩:=dO h2
    refine .inl ⟨.string ⟨l.toArray⟩,w,?_,_,s,ρ,h5,⟨hfx,fun _ _=>rfl,fun _ _ _=>⟨rfl,rfl⟩⟩,Fr.refl _ _,hr,he,rfl⟩
    obtain ⟨ad,cap,h6,h7,h8⟩:=h3
    have hnil:els=[]→(convert sr d (a.eval x)).run P w=.ok (.string ⟨l.toArray⟩) w:=by
     rintro rfl
     simp only [bytesOf,yaa] at h4
     subst h4
     rw [h6]
     cases ad with
     | none =>
      rw [run_convert_bytes_nil w sr e hu hue _ _ d hd]
      rfl
     | some q =>
      rw [run_convert_bytes_string w sr d e _ _ _ hu hue hd,run_bytesToString w q ([]:List (List V)).length cap [] (by simp [loadCells,loadCellsFrom])]
      rfl
    rcases h8 with h8|⟨b,off,rfl,h8⟩
    ·simp [hnil h8]
    ·by_cases he0:els=[]
     ·simp [hnil he0]
     ·have hsz:sz=1:=h1.resolve_left he0
      subst hsz
      obtain ⟨xs,g1,g2,g3⟩:=uF h8 h4
      have hcv:=run_convert_bytes_arg w sr e hu hue b off els.length cap xs g1 (fun i hi=>g3 i (by omega)) d hd
      have:strOfNums xs=⟨l.toArray⟩:=by rw [g2];rfl
      simp [h6,hcv,this]
   ·cases hm
  ·cases hm
 ·-- gload
  rename_i t g
  split at hm
  ·rename_i m e inf hu hi
   split at hm
   ·rename_i hsz
    simp only [yaa] at hm
    subst hm
    obtain ⟨cs,htk,h⟩:=dO (show cW (Lv g m) (fun cs=>K (.agg (cs.map .v)) s) from h)
    obtain ⟨hlen,_,hlt,hcell⟩:=Hm hr htk
    have hrp:aX ρ X w (.rp m [cs.map .v] 0 0) (.pointer (some ⟨g,0,none⟩)):=by
     refine ⟨g,0,by simp,hlt,eH fun j e' he'=>?_⟩
     cases j with
     | succ j=>simp at he'
     | zero =>
      simp only [yaZ,yaa] at he'
      subst he'
      refine ⟨by simpa using hlen,oQ fun f x hx=>?_⟩
      rw [yag,yaf] at hx
      obtain ⟨v,hv,rfl⟩:=hx
      exact ⟨v,by simpa using (hcell f v hv).1,rfl,(hcell f v hv).2⟩
    obtain ⟨x,val,h1,h2,b,_,h3⟩:=Kh (n:=some m) (K:=fun x=>x=.agg (cs.map .v)) hr hi hu (by simp [TypeDesc.isRow,hsz]) hrp
     (show hJ s.h (some m) (.rp m [cs.map .v] 0 0) _ from ⟨by simp,by
      simp only [List.getElem_cons_zero,bX,List.drop_zero,yaE,hlen]
      refine ⟨by omega,?_⟩
      rw [yba (by simp [hlen])]⟩)
    subst h1
    have hev:a.eval (.global g)=.pointer (some ⟨g,0,none⟩):=rfl
    refine .inl ⟨val,w,?_,_,s,ρ,h,⟨hfx,fun _ _=>rfl,fun _ _ _=>⟨rfl,rfl⟩⟩,Fr.refl _ _,hr,he,h2⟩
    simp [hev,h3 w (fun _=>rfl)]
   ·cases hm
  ·cases hm
 ·-- cps
  rename_i c
  split at hm
  ·rename_i x y t t' hcal hargs hts
   split at hm
   ·rename_i e hu hu'
    split at hm
    ·rename_i inf hi
     split at hm
     ·rename_i hsz
      simp only [yaa] at hm
      subst hm
      obtain ⟨st,g1,h⟩:=iI he (x:=y) (show iA (ev s.e y) (fun t=>uE cx.bn 1 s (ev s.e x) (eM t) K) from h)
      have hx:=aT he x
      have hok:pU P cx.fx cx.bn ρ X w a.tmps (Builtin.copy_ #[t,t'] o.type #[a.eval x,a.eval y]) K:=by
       unfold uE at h
       split at h
       ·rename_i k i n hxk
        rw [hxk] at hx
        rw [g1]
        exact Iu hu hi hr he hfx hx (by rw [hsz];exact aiC hu' st) (by rw [hsz];exact h)
       ·exact h.elim
      obtain ⟨val,w',hrun,hsd⟩:=hok
      have ha:=bM hargs
      have hat:=bM hts
      exact .inl ⟨val,w',by simp [resolve,hcal,ha,hat,invoke,builtin,hrun],hsd⟩
     ·cases hm
    ·cases hm
   ·cases hm
  ·cases hm
 ·-- aps
  rename_i c
  split at hm
  ·rename_i x y t t' hcal hargs hts
   split at hm
   ·rename_i e hu hu'
    split at hm
    ·rename_i inf hi
     split at hm
     ·rename_i z hz
      split at hm
      ·rename_i hcnd
       obtain ⟨hsz,hzs,hby⟩:=hcnd
       simp only [yaa] at hm
       subst hm
       obtain ⟨st,g1,h⟩:=iI he (x:=y) (show iA (ev s.e y) (fun t=>Cm cx.fx cx.bn (s.b+j) 1 inf.bytes s (ev s.e x) (eM t) K) from h)
       have hx:=aT he x
       have hs:0<inf.size:=by omega
       have hzs':z.cells.size=inf.size:=by omega
       have hg:Bf P ρ X w t' (.string st) inf.size (eM st):=by rw [hsz];exact aiC hu' st
       rw [←hsz] at h
       have hok:pU P cx.fx cx.bn ρ X w a.tmps (Builtin.append_ #[t,t'] o.type #[a.eval x,a.eval y]) K:=by
        rw [g1]
        unfold Cm at h
        split at h
        ·rename_i k i n hxk
         rw [hxk] at hx
         exact Nu hu hi hz hs hzs' hby hr he hfx hx hg h
        ·rename_i hxv
         rw [hxv] at hx
         exact pL hu hi hz hs hzs' hby hr he hfx (.inl ⟨rfl,hx⟩) hg h
        ·rename_i sz0 els hxv
         rw [hxv] at hx
         obtain ⟨⟨rfl,hne⟩,h2⟩:=h
         obtain ⟨ad,len,k1,rfl,k3,k4⟩:=hx
         exact pL hu hi hz hs hzs' hby hr he hfx (.inr ⟨hne,ad,k1,ad,els.length,k1,k3,k4.imp id fun ⟨b,off,e1,_,e2⟩=>⟨b,off,e1,e2⟩⟩) hg h2
        ·exact h.elim
       obtain ⟨val,w',hrun,hsd⟩:=hok
       have ha:=bM hargs
       have hat:=bM hts
       exact .inl ⟨val,w',by simp [resolve,hcal,ha,hat,invoke,builtin,hrun],hsd⟩
      ·cases hm
     ·cases hm
    ·cases hm
   ·cases hm
  ·cases hm
 ·cases hm
end
end Go.Fx
namespace Go.Fx
open Go.RowKit
def Fn (P:Program) (f:FuncId) (args:List V) (h0:List Blk) (mv:List Nat) (R:V→List Blk→Prop):Prop :=
 ∀ (ρ:Nat→Loc) (X:Nat→Prop) (w:World) (vals:List Value),Rep ρ X w h0→bL ρ X w args vals →
  Calls P f vals.toArray w fun e w'=>∃ val r h' ρ',e=.returned val∧(R r h'∧h0.length≤h'.length)∧Fr ρ w ρ' w'∧Rep ρ' X w' h'∧aX ρ' X w' r val ∧
   ∀ k,k<h0.length→k∉mv→ρ' k=ρ k
section
variable {ρ:Nat→Loc} {X:Nat→Prop} {w:World}
theorem cQ {ι:List Nat} {k j:Nat}:pos ι k=some j→ι[j]?=some k:=by
 induction ι generalizing j with
 | nil=>intro h;simp [pos] at h
 | cons x r ih =>
  intro h
  simp only [pos] at h
  split at h
  ·rename_i hk
   simp only [yaa] at h
   subst h;subst hk
   rfl
  ·cases hp:pos r k with
   | none=>simp [hp] at h
   | some m =>
    simp [hp] at h
    subst h
    simpa using ih hp
theorem vQ {ι:List Nat} {k:Nat}:pos ι k=none→k∉ι:=by
 induction ι with
 | nil=>intro _;simp
 | cons x r ih =>
  intro h
  simp only [pos] at h
  split at h
  ·cases h
  ·rename_i hk
   cases hp:pos r k with
   | none=>simp [hk,ih hp]
   | some m=>simp [hp] at h
def bV (ρ:Nat→Loc) (ι:List Nat) (j:Nat):Loc :=
 match ι[j]? with
 | some k=>ρ k
 | none=>⟨false,0,0,0,0,default⟩
def pH (ρ:Nat→Loc) (X:Nat→Prop) (ι:List Nat) (b:Nat):Prop:=X b∨(Own ρ b∧¬Own (bV ρ ι) b)
theorem lY {ι:List Nat} {b:Nat} (h:Own (bV ρ ι) b):Own ρ b:=by
 obtain ⟨j,h1,h2⟩:=h
 unfold bV at h1 h2
 split at h1
 ·rename_i k hk
  exact ⟨k,h1,by simpa [hk] using h2⟩
 ·cases h1
theorem fV {ι:List Nat} {j k:Nat} (h:ι[j]?=some k):bV ρ ι j=ρ k:=by simp [bV,h]
theorem Gg {ι:List Nat} {b:Nat} (h:Sta ρ X w b):Sta (bV ρ ι) (pH ρ X ι) w b :=
 ⟨h.1,fun ho=>h.2.1 (lY ho),fun hx=>hx.elim h.2.2 (fun hy=>h.2.1 hy.1)⟩
theorem u0 {ι:List Nat} {b:Nat} (h:Len ρ w b):Len (bV ρ ι) w b:=⟨h.1,fun ho=>h.2 (lY ho)⟩
theorem fU {ι:List Nat}:∀ b,Sta ρ X w b→Sta (bV ρ ι) (pH ρ X ι) w b∧w.heap[b]?=w.heap[b]?:=fun _ h=>⟨Gg h,rfl⟩
theorem dA {h:List Blk} (hr:Rep ρ X w h) {ι:List Nat} {k:Nat} (hk:k∉ι) (hreal:(ρ k).real=true):¬Own (bV ρ ι) (ρ k).blk:=by
 rintro ⟨j,h1,h2⟩
 unfold bV at h1 h2
 split at h1
 ·rename_i m hm
  simp only [hm] at h2
  have hmem:m∈ι:=yak hm
  have hne:m≠k:=fun e=>hk (e▸hmem)
  exact hr.inj m k hne h1 hreal h2
 ·cases h1
theorem Ce {S:Nat→Prop} {sz b off i n:Nat} {els:List (List V)} (h:cP S w sz b off els):cP S w sz b (off+i*sz) ((els.drop i).take n) :=
 eH fun j e he=>by
  have he':els[i+j]?=some e:=by
   rw [yal] at he
   split at he
   ·simpa using he
   ·cases he
  have:=eO h he'
  rw [yab] at this
  rw [Nat.add_assoc]
  exact this
mutual
theorem Xe {h:List Blk} (hr:Rep ρ X w h) {ι:List Nat}:∀ (x:V) (val:Value),aG h (pos ι) x→aX ρ X w x val→aX (bV ρ ι) (pH ρ X ι) w (a6 h (pos ι) x) val
 | .any,_,_,_=>trivial
 | .v _,_,_,hx=>hx
 | .ro sz els,val,_,hx=>dN fU (.ro sz els) val hx
 | .bro sz els,val,_,hx=>by
  obtain ⟨a,len,cap,h1,h2,h3,h4,h5⟩:=hx
  refine ⟨a,len,cap,h1,h2,h3,h4,h5.imp id ?_⟩
  rintro ⟨b,off,h6,h7,h8⟩
  exact ⟨b,off,h6,u0 h7,aW fU sz b rfl off els h8⟩
 | .full sz els,val,_,hx=>by
  obtain ⟨a,len,h1,h2,h4,h5⟩:=hx
  refine ⟨a,len,h1,h2,h4,h5.imp id ?_⟩
  rintro ⟨b,off,h6,h7,h8⟩
  exact ⟨b,off,h6,u0 h7,aW fU sz b rfl off els h8⟩
 | .rp sz els i f,val,_,hx=>by
  obtain ⟨b,off,h6,h7,h8⟩:=hx
  exact ⟨b,off,h6,u0 h7,aW fU sz b rfl off els h8⟩
 | .sl k i n,val,hok,hx=>by
  cases hp:pos ι k with
  | some j =>
   simp only [a6,hp]
   have hj:=fV (ρ:=ρ) (cQ hp)
   obtain ⟨cap,h1,h2,h3⟩:=hx
   refine ⟨cap,h1,h2,?_⟩
   rw [hj]
   exact h3
  | none =>
   simp only [a6,hp]
   simp only [aG,hp] at hok
   have hk:=vQ hp
   cases hb:h[k]? with
   | none=>simp only [blk,yap,hb];exact trivial
   | some B =>
    simp only [blk,yap,hb] at hok ⊢
    have hB:=hr.blk k B hb
    cases B with
    | arr sz els =>
     obtain ⟨⟨hsz,hpos⟩,hor⟩:=hB
     have hok':i+n≤els.length:=hok
     have hlen:((els.drop i).take n).length=n:=by simp;omega
     obtain ⟨cap,h1,h2,h3⟩:=hx
     show aX _ _ w (.bro sz _) val
     rcases h3 with ⟨rfl,a,rfl⟩|⟨hreal,rfl,hroom⟩
     ·have hn:n=0:=by omega
      subst hn
      exact ⟨a,0,0,rfl,by simp,yae _,yax _,.inl (by simp)⟩
     ·rcases hor with ⟨h4,_⟩|⟨_,c,T,hh,hc,hrm,hels⟩
      ·rw [h4] at hreal;cases hreal
      ·refine ⟨_,n,cap,rfl,hlen.symm,h1,h2,.inr ⟨_,_,rfl,⟨hr.lt k hreal,dA hr hk hreal⟩,?_⟩⟩
       rw [hsz]
       exact aW fU sz _ rfl _ _ (Ce hels)
    | dead=>trivial
    | var cs =>
     show aX _ _ w (if (decide (i+n≤cs.length)&&((cs.drop i).take n).all isD)=true then .bro 1 (((cs.drop i).take n).map fun c=>[c]) else .any) val
     split
     ·rename_i hc
      simp only [yaz,decide_eq_true_eq] at hc
      obtain ⟨hin,hd⟩:=hc
      obtain ⟨⟨_,hoff,hsz⟩,c,T,hh,hcl,hrm⟩:=hB
      have hlen:(((cs.drop i).take n).map fun c=>[c]).length=n:=by simp;omega
      obtain ⟨cap,h1,h2,h3⟩:=hx
      rcases h3 with ⟨rfl,a,rfl⟩|⟨hreal,rfl,hroom⟩
      ·have hn:n=0:=by omega
       subst hn
       exact ⟨a,0,0,rfl,by simp,yae _,yax _,.inl (by simp)⟩
      ·refine ⟨_,n,cap,rfl,hlen.symm,h1,h2,.inr ⟨_,_,rfl,⟨hr.lt k hreal,dA hr hk hreal⟩,?_⟩⟩
       rw [hsz,hoff]
       refine aW fU 1 _ rfl _ _ (eH fun j e' he'=>?_)
       simp only [yag,yaf] at he'
       obtain ⟨x,hx,rfl⟩:=he'
       have hxd:isD x=true:=yah.1 hd _ (yak hx)
       rw [yal] at hx
       split at hx
       ·rw [yar] at hx
        obtain ⟨v,g4,g5⟩:=cG hcl hx
        refine ⟨rfl,⟨v,?_,oP hxd g5⟩,trivial⟩
        rw [show 0+i*1+j*1=i+j by omega]
        simpa [World.cell?,hh] using g4
       ·cases hx
     ·trivial
    | arv _ _=>trivial
    | map _ _=>trivial
    | it _ _ _ _=>trivial
    | rcd _ _=>trivial
 | .ptr k i f,val,_,hx=>by
  cases hp:pos ι k with
  | some j =>
   simp only [a6,hp]
   have hj:=fV (ρ:=ρ) (cQ hp)
   simp only [aX]
   rw [hj]
   exact hx
  | none=>simp only [a6,hp];trivial
 | .agg cs,val,hok,hx=>by
  obtain ⟨arr,h1,h2⟩:=hx
  exact ⟨arr,h1,iY hr cs arr.toList hok h2⟩
 | .tup cs,val,hok,hx=>by
  obtain ⟨arr,h1,h2⟩:=hx
  exact ⟨arr,h1,iY hr cs arr.toList hok h2⟩
 | .clo f cs,val,hok,hx=>by
  obtain ⟨arr,h1,h2⟩:=hx
  exact ⟨arr,h1,iY hr cs arr.toList hok h2⟩
 | .mp k,val,_,hx=>by
  cases hp:pos ι k with
  | some j =>
   simp only [a6,hp]
   have hj:=fV (ρ:=ρ) (cQ hp)
   simp only [aX]
   rw [hj]
   exact hx
  | none=>simp only [a6,hp];trivial
 | .itr _,_,_,_=>trivial
theorem iY {h:List Blk} (hr:Rep ρ X w h) {ι:List Nat}:∀ (xs:List V) (vs:List Value),aE h (pos ι) xs→bL ρ X w xs vs→bL (bV ρ ι) (pH ρ X ι) w (aL h (pos ι) xs) vs
 | [],[],_,_=>trivial
 | x::r,u::us,hok,hx=>⟨Xe hr x u hok.1 hx.1,iY hr r us hok.2 hx.2⟩
 | [],_::_,_,hx=>hx.elim
 | _::_,[],_,hx=>hx.elim
end
theorem aaF {x:V} {s:Nat} {e:List (List V)} {val:Value} (hk:wkB x s e) (hx:aX ρ X w x val):aX ρ X w (.bro s e) val:=by
 unfold wkB at hk
 split at hk
 ·obtain ⟨rfl,rfl⟩:=hk;exact hx
 ·obtain ⟨rfl,rfl⟩:=hk
  obtain ⟨a,len,cap,h1,h2,h3,h4,h5⟩:=hx
  exact ⟨a,len,cap,h1,h2,h3,h4,h5.imp id fun ⟨b,off,h6,h7,h8⟩=>⟨b,off,h6,⟨h7.1,h7.2.1⟩,h8⟩⟩
 ·obtain ⟨rfl,rfl⟩:=hk
  obtain ⟨a,len,h1,h2,h4,h5⟩:=hx
  exact ⟨a,len,len,h1,h2,yae _,h4,h5⟩
 ·subst hk
  exact ⟨none,0,0,hx,rfl,yae _,yax _,.inl rfl⟩
 ·exact hk.elim
theorem aaE {x:V} {s:Nat} {e:List (List V)} {val:Value} (hk:wkR x s e) (hx:aX ρ X w x val):aX ρ X w (.ro s e) val:=by
 unfold wkR at hk
 split at hk
 ·obtain ⟨rfl,rfl⟩:=hk;exact hx
 ·subst hk
  exact ⟨none,0,0,hx,rfl,yae _,yax _,.inl rfl⟩
 ·exact hk.elim
mutual
theorem Uk:∀ (y x:V) (val:Value),wk y x→aX ρ X w x val→aX ρ X w y val
 | .any,_,_,_,_=>trivial
 | .bro _ _,_,_,hk,hx=>aaF (by simpa only [wk] using hk) hx
 | .ro _ _,_,_,hk,hx=>aaE (by simpa only [wk] using hk) hx
 | .agg ys,.agg xs,_,hk,⟨arr,h1,h2⟩=>⟨arr,h1,oU ys xs _ (by simpa only [wk] using hk) h2⟩
 | .tup ys,.tup xs,_,hk,⟨arr,h1,h2⟩=>⟨arr,h1,oU ys xs _ (by simpa only [wk] using hk) h2⟩
 | .clo f ys,.clo g xs,_,hk,⟨arr,h1,h2⟩=>by
  simp only [wk] at hk
  obtain ⟨rfl,hk⟩:=hk
  exact ⟨arr,h1,oU ys xs _ hk h2⟩
 | .v y,x,_,hk,hx=>by simp only [wk] at hk;subst hk;exact hx
 | .full _ _,x,_,hk,hx=>by simp only [wk] at hk;subst hk;exact hx
 | .sl _ _ _,x,_,hk,hx=>by simp only [wk] at hk;subst hk;exact hx
 | .ptr _ _ _,x,_,hk,hx=>by simp only [wk] at hk;subst hk;exact hx
 | .rp _ _ _ _,x,_,hk,hx=>by simp only [wk] at hk;subst hk;exact hx
 | .mp _,x,_,hk,hx=>by simp only [wk] at hk;subst hk;exact hx
 | .itr _,x,_,hk,hx=>by simp only [wk] at hk;subst hk;exact hx
 | .agg _,.any,_,hk,_|.agg _,.v _,_,hk,_|.agg _,.ro _ _,_,hk,_|.agg _,.bro _ _,_,hk,_|.agg _,.full _ _,_,hk,_|.agg _,.sl _ _ _,_,hk,_|.agg _,.ptr _ _ _,_,hk,_
 | .agg _,.rp _ _ _ _,_,hk,_|.agg _,.tup _,_,hk,_|.agg _,.clo _ _,_,hk,_|.agg _,.mp _,_,hk,_|.agg _,.itr _,_,hk,_=>by simp only [wk] at hk
 | .tup _,.any,_,hk,_|.tup _,.v _,_,hk,_|.tup _,.ro _ _,_,hk,_|.tup _,.bro _ _,_,hk,_|.tup _,.full _ _,_,hk,_|.tup _,.sl _ _ _,_,hk,_|.tup _,.ptr _ _ _,_,hk,_
 | .tup _,.rp _ _ _ _,_,hk,_|.tup _,.agg _,_,hk,_|.tup _,.clo _ _,_,hk,_|.tup _,.mp _,_,hk,_|.tup _,.itr _,_,hk,_=>by simp only [wk] at hk
 | .clo _ _,.any,_,hk,_|.clo _ _,.v _,_,hk,_|.clo _ _,.ro _ _,_,hk,_|.clo _ _,.bro _ _,_,hk,_|.clo _ _,.full _ _,_,hk,_|.clo _ _,.sl _ _ _,_,hk,_|.clo _ _,.ptr _ _ _,_,hk,_
 | .clo _ _,.rp _ _ _ _,_,hk,_|.clo _ _,.agg _,_,hk,_|.clo _ _,.tup _,_,hk,_|.clo _ _,.mp _,_,hk,_|.clo _ _,.itr _,_,hk,_=>by simp only [wk] at hk
theorem oU:∀ (ys xs:List V) (vs:List Value),wkL ys xs→bL ρ X w xs vs→bL ρ X w ys vs
 | [],[],_,_,hx=>hx
 | y::ys,x::xs,u::us,hk,hx=>by simp only [wkL] at hk;exact ⟨Uk y x u hk.1 hx.1,oU ys xs us hk.2 hx.2⟩
 | _::_,_::_,[],_,hx=>hx.elim
 | [],_::_,_,hk,_=>by simp only [wkL] at hk
 | _::_,[],_,hk,_=>by simp only [wkL] at hk
end
mutual
theorem tM {ρ1 ρ2:Nat→Loc} {X1 X2:Nat→Prop} {g:Nat→Option Nat} (hS:∀ b,Sta ρ1 X1 w b→Sta ρ2 X2 w b) (hg:∀ k j,g k=some j→(ρ1 k).real=true→ρ2 j=ρ1 k) :
  ∀ (x:V) (val:Value),aX ρ1 X1 w x val→aX ρ2 X2 w (ren g x) val
 | .any,_,_=>trivial
 | .v _,_,hx=>hx
 | .ro sz els,val,hx=>dN (fun b hb=>⟨hS b hb,rfl⟩) (.ro sz els) val hx
 | .bro _ _,_,_|.full _ _,_,_|.rp _ _ _ _,_,_|.itr _,_,_=>trivial
 | .sl k i n,val,hx=>by
  simp only [ren]
  split
  ·rename_i j hj
   obtain ⟨cap,h1,h2,h3⟩:=hx
   refine ⟨cap,h1,h2,h3.imp id ?_⟩
   rintro ⟨h4,h5⟩
   rw [hg k j hj h4]
   exact ⟨h4,h5⟩
  ·trivial
 | .ptr k i f,val,hx=>by
  simp only [ren]
  split
  ·rename_i j hj
   obtain ⟨h4,h5⟩:=hx
   simp only [aX]
   rw [hg k j hj h4]
   exact ⟨h4,h5⟩
  ·trivial
 | .mp k,val,hx=>by
  simp only [ren]
  split
  ·rename_i j hj
   obtain ⟨h4,h5⟩:=hx
   simp only [aX]
   rw [hg k j hj h4]
   exact ⟨h4,h5⟩
  ·trivial
 | .agg cs,val,hx=>by
  obtain ⟨arr,h1,h2⟩:=hx
  exact ⟨arr,h1,nV hS hg cs _ h2⟩
 | .tup cs,val,hx=>by
  obtain ⟨arr,h1,h2⟩:=hx
  exact ⟨arr,h1,nV hS hg cs _ h2⟩
 | .clo f cs,val,hx=>by
  obtain ⟨arr,h1,h2⟩:=hx
  exact ⟨arr,h1,nV hS hg cs _ h2⟩
theorem nV {ρ1 ρ2:Nat→Loc} {X1 X2:Nat→Prop} {g:Nat→Option Nat} (hS:∀ b,Sta ρ1 X1 w b→Sta ρ2 X2 w b) (hg:∀ k j,g k=some j→(ρ1 k).real=true→ρ2 j=ρ1 k) :
  ∀ (xs:List V) (vs:List Value),bL ρ1 X1 w xs vs→bL ρ2 X2 w (bZ g xs) vs
 | [],[],_=>trivial
 | x::r,u::us,hx=>⟨tM hS hg x u hx.1,nV hS hg r us hx.2⟩
 | [],_::_,hx=>hx.elim
 | _::_,[],hx=>hx.elim
end
theorem vK (g:Nat→Option Nat):∀ xs:List V,bZ g xs=xs.map (ren g)
 | []=>rfl
 | x::r=>by simp [bZ,vK g r]
theorem Vv (g:Nat→Option Nat) (xs:List V):(bZ g xs).length=xs.length:=by simp [vK]
theorem Nc (g:Nat→Option Nat):∀ (e:Env) (i:Nat),get (Vx g e) i=ren g (get e i)
 | [],_=>by simp [Vx,get,ren]
 | (j,x)::r,i=>by
  simp only [Vx,get]
  split
  ·rfl
  ·exact Nc g r i
theorem Ef {ρ1 ρ2:Nat→Loc} {X1 X2:Nat→Prop} {g:Nat→Option Nat} (hS:∀ b,Sta ρ1 X1 w b→Sta ρ2 X2 w b) (hg:∀ k j,g k=some j→(ρ1 k).real=true→ρ2 j=ρ1 k)
  {k j:Nat} (hkj:ρ2 j=ρ1 k) {B:Blk} (hB:bE ρ1 X1 w k B):bE ρ2 X2 w j (bA g B):=by
 cases B with
 | dead=>simp only [bA,bE] at hB ⊢;rw [hkj];exact hB
 | arr sz els =>
  simp only [bA,bE] at hB ⊢
  rw [hkj]
  refine ⟨hB.1,hB.2.imp id ?_⟩
  rintro ⟨h1,c,T,h2,h3,h4,h5⟩
  exact ⟨h1,c,T,h2,h3,h4,aW (fun b hb=>⟨hS b hb,rfl⟩) sz _ rfl _ _ h5⟩
 | var cs =>
  simp only [bA,bE] at hB ⊢
  rw [hkj]
  obtain ⟨h1,c,T,h2,h3⟩:=hB
  exact ⟨h1,c,T,h2,nV hS hg _ _ h3.1,h3.2⟩
 | arv sz els =>
  simp only [bA,bE] at hB ⊢
  rw [hkj]
  obtain ⟨h0,h1,c,T,h2,h3,h4,h5⟩:=hB
  refine ⟨h0,h1,c,T,h2,h3,by simpa using h4,fun i e he=>?_⟩
  simp only [yag,yaf] at he
  obtain ⟨e0,he0,rfl⟩:=he
  refine ⟨by rw [Vv];exact (h5 i e0 he0).1,fun f x hx=>?_⟩
  simp only [vK,yag,yaf] at hx
  obtain ⟨x0,hx0,rfl⟩:=hx
  obtain ⟨u,h6,h7⟩:=(h5 i e0 he0).2 f x0 hx0
  exact ⟨u,h6,tM hS hg _ _ h7⟩
 | map es cl =>
  simp only [bA,bE] at hB ⊢
  rw [hkj]
  obtain ⟨h1,arr,h2,h3,h4⟩:=hB
  refine ⟨h1,arr,h2,by rw [h3];simp,?_⟩
  rw [show (List.map (fun e:Value × V × Nat=>(e.1,ren g e.2.1,e.2.2)) es).map (·.2.1)=bZ g (es.map (·.2.1)) by rw [vK];simp]
  exact nV hS hg _ _ h4
 | it m s sn l =>
  simp only [bA,bE] at hB ⊢
  rw [hkj]
  obtain ⟨h1,x,h2,h3⟩:=hB
  exact ⟨h1,x,h2,tM hS hg _ _ h3⟩
 | rcd t e =>
  simp only [bA,bE] at hB ⊢
  rw [hkj]
  exact ⟨hB.1,fun i=>by rw [Nc];exact tM hS hg _ _ (hB.2 i)⟩
theorem uT {ι:List Nat} (hn:ι.Nodup) {j k:Nat} (h:ι[j]?=some k):pos ι k=some j:=by
 induction ι generalizing j with
 | nil=>simp at h
 | cons x r ih =>
  cases j with
  | zero=>simp at h;subst h;simp [pos]
  | succ j =>
   have h':r[j]?=some k:=by simpa using h
   have hne:k≠x:=by
    rintro rfl
    exact (yaT.1 hn).1 (yak h')
   simp [pos,hne,ih (yaT.1 hn).2 h']
theorem Bu {ι:List Nat} {j:Nat} (h:(bV ρ ι j).real=true):∃ k,ι[j]?=some k∧bV ρ ι j=ρ k:=by
 cases hk:ι[j]? with
 | none=>simp [bV,hk] at h
 | some k=>exact ⟨k,rfl,fV hk⟩
theorem Gi {h:List Blk} (hr:Rep ρ X w h) {ι:List Nat} (hn:ι.Nodup) (hlt:∀ k∈ι,k<h.length) :
  Rep (bV ρ ι) (pH ρ X ι) w (ι.map fun k=>bA (pos ι) (blk h k)):=by
 refine ⟨?_,?_,?_,?_,?_,?_⟩
 ·intro i j hij hi hj
  obtain ⟨a,ha,ea⟩:=Bu hi
  obtain ⟨c,hc,ec⟩:=Bu hj
  rw [ea] at hi ⊢
  rw [ec] at hj ⊢
  refine hr.inj a c (fun e=>hij ?_) hi hj
  subst e
  have h1:=uT hn ha
  have h2:=uT hn hc
  rw [h1] at h2
  simpa using h2
 ·intro k hk
  have:ι[k]?=none:=by simpa using hk
  simp [bV,this]
 ·intro j B hB
  simp only [yag,yaf] at hB
  obtain ⟨k,hk,rfl⟩:=hB
  have hkl:=hlt k (yak hk)
  have hb:h[k]?=some (blk h k):=by simp [blk,yap,yao hkl]
  exact Ef (fun b hb=>Gg hb) (fun k' j' hp _=>fV (cQ hp)) (fV hk) (hr.blk k _ hb)
 ·rintro b ho ((hx|⟨_,hx⟩)|hx)
  ·exact hr.disj b (lY ho) (.inl hx)
  ·exact hx ho
  ·exact hr.disj b (lY ho) (.inr hx)
 ·intro j hj
  unfold bV at hj ⊢
  split at hj
  ·exact hr.lt _ hj
  ·cases hj
 ·refine ⟨?_,hr.xlt.2⟩
  rintro b ((hx|⟨⟨k,h1,h2⟩,_⟩)|hx)
  ·exact hr.xlt.1 b (.inl hx)
  ·have:=hr.lt k h1
   omega
  ·exact hr.xlt.1 b (.inr hx)
theorem Dr:∀ (ι:List Nat) (bs h:List Blk),ι.length≤bs.length→(aN ι bs h).length=h.length+(bs.length-ι.length)
 | [],bs,h,_=>by simp [aN]
 | k::ι,b::bs,h,hl=>by
  rw [aN,Dr ι bs _ (by simpa using hl)]
  simp
 | _::_,[],_,hl=>by simp at hl
theorem Dt:∀ (ι:List Nat) (bs h:List Blk),ι.Nodup→(∀ k∈ι,k<h.length)→ι.length≤bs.length→∀ k,(aN ι bs h)[k]?=match pos ι k with
  | some j=>bs[j]?
  | none=>if k<h.length then h[k]? else bs[ι.length+(k-h.length)]?
 | [],bs,h,_,_,_,k=>by
  simp only [aN,pos]
  split
  ·rw [yaj (by assumption)]
  ·rw [yam (by omega)]
   simp
 | x::ι,b::bs,h,hn,hlt,hl,k=>by
  rw [aN,Dt ι bs _ (yaT.1 hn).2 (fun k hk=>by simpa using hlt k (by simp [hk])) (by simpa using hl)]
  simp only [pos]
  by_cases hk:k=x
  ·subst hk
   have hp:pos ι k=none:=by
    cases hp:pos ι k with
    | none=>rfl
    | some j=>exact absurd (yak (cQ hp)) (yaT.1 hn).1
   have hkl:=hlt k (by simp)
   simp [hp,hkl]
  ·simp only [hk,if_false]
   cases hp:pos ι k with
   | some j=>simp
   | none =>
    simp only [List.length_set,Option.map_none]
    split
    ·rw [yau (Ne.symm hk)]
    ·simp only [List.length_cons]
     rw [show ι.length+1+(k-h.length)=(ι.length+(k-h.length))+1 by omega]
     simp
 | _::_,[],_,_,_,hl,_=>by simp at hl
def bK (ρ ρc:Nat→Loc) (ι:List Nat) (n:Nat) (k:Nat):Loc :=
 match pos ι k with
 | some j=>ρc j
 | none=>if k<n then ρ k else ρc (ι.length+(k-n))
theorem oJ {ρc:Nat→Loc} {ι:List Nat} {n:Nat} (hn:ι.Nodup) (hlt:∀ k∈ι,k<n) {j k:Nat} (h:back ι n j=some k):bK ρ ρc ι n k=ρc j:=by
 unfold back at h
 split at h
 ·rename_i m hm
  simp only [yaa] at h
  subst h
  simp [bK,uT hn hm]
 ·rename_i hj
  simp only [yaa] at h
  subst h
  have hp:pos ι (n+(j-ι.length))=none:=by
   cases hp:pos ι (n+(j-ι.length)) with
   | none=>rfl
   | some i =>
    have:=hlt _ (yak (cQ hp))
    omega
  have hjl:ι.length≤j:=by simpa using hj
  simp only [bK,hp]
  rw [if_neg (by omega)]
  congr 1
  omega
theorem Bc {ρc:Nat→Loc} {h:List Blk} (hr:Rep ρ X w h) {ι:List Nat} {b:Nat} (ho:Own (bK ρ ρc ι h.length) b) :
  Own ρc b∨(Own ρ b∧¬Own (bV ρ ι) b):=by
 obtain ⟨k,h1,h2⟩:=ho
 unfold bK at h1 h2
 split at h1
 ·rename_i j hj
  simp only [hj] at h2
  exact .inl ⟨j,h1,h2⟩
 ·rename_i hp
  simp only [hp] at h2
  split at h1
  ·rename_i hk
   rw [if_pos hk] at h2
   exact .inr ⟨⟨k,h1,h2⟩,h2▸dA hr (vQ hp) h1⟩
  ·rename_i hk
   rw [if_neg hk] at h2
   exact .inl ⟨_,h1,h2⟩
theorem tZ {ρc:Nat→Loc} {w':World} {h:List Blk} (hr:Rep ρ X w h) {ι:List Nat} (b:Nat) (hb:Sta ρc (pH ρ X ι) w' b):Sta (bK ρ ρc ι h.length) X w' b :=
 ⟨hb.1,fun ho=>(Bc hr ho).elim hb.2.1 (fun h'=>hb.2.2 (.inr h')),fun hx=>hb.2.2 (.inl hx)⟩
theorem Gq {ρc:Nat→Loc} {w':World} {h:List Blk} (hr:Rep ρ X w h) {ι:List Nat} (hf:Fr (bV ρ ι) w ρc w'):Fr ρ w (bK ρ ρc ι h.length) w' :=
 ⟨hf.os,hf.tape,hf.output,hf.size,fun b hb ho=>by
  have h1:=hf.keep b hb (fun h=>ho (lY h))
  exact ⟨h1.1,fun h2=>(Bc hr h2).elim h1.2 (fun h3=>ho h3.1)⟩⟩
theorem Ja {ρc:Nat→Loc} {w':World} {h h':List Blk} (hr:Rep ρ X w h) {ι:List Nat} (hn:ι.Nodup) (hlt:∀ k∈ι,k<h.length) (hl:ι.length≤h'.length) {M:List Nat}
  (hf:Fr (bV ρ ι) w ρc w') (hc:Rep ρc (pH ρ X ι) w' h') (hag:∀ k,k∉M→(ρ k).real=true→bK ρ ρc ι h.length k=ρ k) :
  Rep (bK ρ ρc ι h.length) X w' (aN ι (h'.map (bA (back ι h.length))) (h.map (aK M))):=by
 have hfr:=Gq hr hf
 have hlt':∀ k∈ι,k<(h.map (aK M)).length:=fun k hk=>by simpa using hlt k hk
 refine ⟨?_,?_,?_,?_,?_,?_⟩
 ·intro i j hij hi hj he
  -- each is the callee's or one of the caller's other pK
  have key:∀ k,(bK ρ ρc ι h.length k).real=true→(∃ m,bK ρ ρc ι h.length k=ρc m∧(ρc m).real=true∧(pos ι k=some m∨(pos ι k=none∧h.length≤k∧m=ι.length+(k-h.length)))) ∨
    (bK ρ ρc ι h.length k=ρ k∧(ρ k).real=true∧k∉ι):=by
   intro k hk
   cases hp:pos ι k with
   | some m=>exact .inl ⟨m,by simp [bK,hp],by simpa [bK,hp] using hk,.inl rfl⟩
   | none =>
    have hni:=vQ hp
    by_cases h1:k<h.length
    ·exact .inr ⟨by simp [bK,hp,h1],by simpa [bK,hp,h1] using hk,hni⟩
    ·exact .inl ⟨ι.length+(k-h.length),by simp [bK,hp,h1],by simpa [bK,hp,h1] using hk,.inr ⟨rfl,by omega,rfl⟩⟩
  rcases key i hi with ⟨m,e1,r1,c1⟩|⟨e1,r1,n1⟩<;>rcases key j hj with ⟨m',e2,r2,c2⟩|⟨e2,r2,n2⟩
  ·rw [e1,e2] at he
   have hmm:m=m':=by
    rcases yaU m m' with h|h
    ·exact absurd he (hc.inj m m' (by omega) r1 r2)
    ·rcases yaU m' m with h'|h'
     ·exact absurd he (hc.inj m m' (by omega) r1 r2)
     ·omega
   subst hmm
   rcases c1 with c1|⟨c1,h1,c3⟩<;>rcases c2 with c2|⟨c2,h2,c4⟩
   ·have:=cQ c1
    rw [cQ c2] at this
    simp only [yaa] at this
    exact hij this.symm
   ·have:=(yac.1 (cQ c1)).1
    omega
   ·have:=(yac.1 (cQ c2)).1
    omega
   ·omega
  ·rw [e1,e2] at he
   exact hc.disj _ ⟨m,r1,he⟩ (.inl (.inr ⟨⟨j,r2,rfl⟩,dA hr n2 r2⟩))
  ·rw [e1,e2] at he
   exact hc.disj _ ⟨m',r2,he.symm⟩ (.inl (.inr ⟨⟨i,r1,rfl⟩,dA hr n1 r1⟩))
  ·rw [e1,e2] at he
   exact hr.inj i j hij r1 r2 he
 ·intro k hk
  rw [Dr _ _ _ (by simpa using hl)] at hk
  simp at hk
  have hp:pos ι k=none:=by
   cases hp:pos ι k with
   | none=>rfl
   | some i =>
    have:=hlt _ (yak (cQ hp))
    omega
  simp only [bK,hp]
  rw [if_neg (by omega)]
  exact hc.out _ (by omega)
 ·intro k B hB
  rw [Dt _ _ _ hn hlt' (by simpa using hl)] at hB
  cases hp:pos ι k with
  | some j =>
   rw [hp] at hB
   simp only [yag,yaf] at hB
   obtain ⟨B',hB',rfl⟩:=hB
   have hk:back ι h.length j=some k:=by simp [back,cQ hp]
   exact Ef (tZ hr) (fun a c hb _=>oJ hn hlt hb) (oJ hn hlt hk) (hc.blk j B' hB')
  | none =>
   rw [hp] at hB
   simp only [yaE] at hB
   split at hB
   ·rename_i hkl
    simp only [yag,yaf] at hB
    obtain ⟨B',hB',rfl⟩:=hB
    refine Jd hfr M hag (by simp [bK,hp,hkl]) (fun hreal=>?_) (hr.blk k B' hB')
    exact (hf.keep _ (hr.lt k hreal) (dA hr (vQ hp) hreal)).1
   ·rename_i hkl
    simp only [yag,yaf] at hB
    obtain ⟨B',hB',rfl⟩:=hB
    have hk:back ι h.length (ι.length+(k-h.length))=some k:=by
     have:ι[ι.length+(k-h.length)]?=none:=by simp
     simp only [back,this]
     congr 1
     omega
    exact Ef (tZ hr) (fun a c hb _=>oJ hn hlt hb) (oJ hn hlt hk) (hc.blk _ B' hB')
 ·intro b ho hx
  rcases Bc hr ho with h1|h1
  ·exact hc.disj b h1 (hx.imp .inl id)
  ·exact hr.disj b h1.1 hx
 ·intro k hk
  unfold bK at hk ⊢
  split at hk
  ·rename_i j hj
   exact hc.lt _ hk
  ·rename_i hp
   split at hk
   ·rename_i h1
    rw [if_pos h1]
    exact yaw (hr.lt k hk) hf.size
   ·rename_i h1
    rw [if_neg h1]
    exact hc.lt _ hk
 ·exact ⟨fun b hb=>yaw (hr.xlt.1 b hb) hf.size,hc.xlt.2⟩
end
end Go.Fx
namespace Go.Fx
open Go.RowKit
def dY (P:Program) (f:FuncId):Prop:=∃ fn,P.funcs[f]?=some fn∧(fn.name == "runtime.NumGoroutine")=false∧fn.body.isNone=false
def YOk (P:Program) (ρ0:Nat→Loc) (X:Nat→Prop) (w0:World) (fx:List Nat) (k:Nat) (Y:Yt):Prop :=
 ∀ (ρ:Nat→Loc) (w:World) (s:St) (tmps:Array Value) (xs:List V) (vals:List Value) (K:V→St→Prop),
  (Fr ρ0 w0 ρ w∧∀ j∈fx,ρ j=ρ0 j)→aD fx s.h→Rep ρ X w s.h→cS ρ X w s.e tmps→bL ρ X w xs vals→Y xs s K →
  ∃ fn tm asg body,(Instr.yield (ρ k).blk vals.toArray).run P w=.ok (.round (ρ k).blk fn tm asg body) w ∧
   RoundIn Fence.wide 0 P (ρ k).blk fn tm asg body w fun e w'=>∃ val,e=.returned val∧oM fx [] ρ X w tmps K val w'
def acZ (P:Program) (f:FuncId) (args:List V) (fx:List Nat) (k:Nat) (Y:Yt) (h:List Blk) (K:List Blk→Prop):Prop :=
 ∀ (ρ:Nat→Loc) (X:Nat→Prop) (w:World) (vals:List Value),Rep ρ X w h→bL ρ X w args vals→aD fx h→YOk P ρ X w fx k Y →
  Calls P f vals.toArray w fun e w'=>∃ val h' ρ',e=.returned val∧K h'∧(Fr ρ w ρ' w'∧Rep ρ' X w' h')∧(∀ j∈fx,ρ' j=ρ j)∧aD fx h'
def Cx.ok (cx:Cx) (P:Program):Prop :=
 (∀ f zas h0 mv R,cx.C f zas h0 mv R→dY P f∧Fn P f zas h0 mv R) ∧
 (∀ f zas fx k Y h K,cx.it f zas fx k Y h K→dY P f∧acZ P f zas fx k Y h K)
section
variable {ρ:Nat→Loc} {X:Nat→Prop} {w:World} {P:Program}
theorem iO {f:FuncId} (h:dY P f) (vs:Array Value) (w:World):(callFunc f vs).run P w=.ok (.enter f vs) w:=by
 obtain ⟨fn,h1,h2,h3⟩:=h
 have h2':¬fn.name = "runtime.NumGoroutine":=by simpa using h2
 have h3':¬fn.body=none:=by intro h;simp [h] at h3
 simp [callFunc,program,Sem.run,h1,h2',h3']
theorem Gj {cx:Cx} (hcx:cx.ok P) {f:FuncId} {args:List V} {vals:List Value} {s:St} {t:Array Value} {K:V→St→Prop} (hr:Rep ρ X w s.h) (he:cS ρ X w s.e t) (hfx:aD cx.fx s.h)
  (ha:bL ρ X w args vals) (h:aR cx f args s K):dY P f∧Calls P f vals.toArray w fun e w'=>∃ val,e=.returned val∧oM cx.fx cx.bn ρ X w t K val w':=by
 obtain ⟨ι,zas,mv,R,⟨⟨hn,hlt0⟩,hmv⟩,hok,hwk,hC,hK⟩:=h
 have hlt:∀ k∈ι,k<s.h.length:=fun k hk=>(hlt0 k hk).1
 obtain ⟨hcall,hFn⟩:=hcx.1 _ _ _ _ _ hC
 refine ⟨hcall,?_⟩
 have hargs:=oU _ _ _ hwk (iY hr (ι:=ι) _ _ hok ha)
 refine (hFn _ _ w vals (Gi hr hn hlt) hargs).mono ?_
 rintro e w' ⟨val,r,h',ρc,rfl,⟨hR,hl⟩,hf,hrep,hval,hstay⟩
 have hl':ι.length≤h'.length:=by simpa using hl
 obtain ⟨hkeep,hK'⟩:=hK r h' hR hl'
 have hat:∀ j k,ι[j]?=some k→j∉mv→ρc j=ρ k:=fun j k hj hm=>by
  rw [hstay j (by simpa using (yac.1 hj).1) hm,fV hj]
 have hag:∀ k,k∉mv.filterMap (ι[·]?)→(ρ k).real=true→bK ρ ρc ι s.h.length k=ρ k:=by
  intro k hk hreal
  cases hp:pos ι k with
  | some j =>
   simp only [bK,hp]
   exact hat j k (cQ hp) (fun hm=>hk (List.mem_filterMap.2 ⟨j,hm,cQ hp⟩))
  | none =>
   simp only [bK,hp]
   by_cases hk':k<s.h.length
   ·rw [if_pos hk']
   ·rw [hr.out k (by omega)] at hreal
    cases hreal
 have hfr:=Gq hr hf
 refine ⟨val,rfl,_,_,bK ρ ρc ι s.h.length,hK',⟨hkeep,fun k hk=>?_,fun k hk hreal=>?_⟩,hfr,Ja hr hn hlt hl' hf hrep hag,t6 hfr _ hag he,tM (tZ hr) (fun a c hb _=>oJ hn hlt hb) _ _ hval⟩
 cases hp:pos ι k with
 | some j =>
  simp only [bK,hp]
  exact hat j k (cQ hp) (fun hm=>hmv j hm k (cQ hp) hk)
 | none =>
  simp only [bK,hp]
  have:=bB hfx k hk
  have hkl:k<s.h.length:=by
   unfold aC at this
   split at this
   ·exact this.elim
   ·rename_i hb
    exact (yac.1 hb).1
   ·exact this.elim
  rw [if_pos hkl]
 ·have hnot:k∉ι:=fun hi=>(hlt0 k hi).2 hk
  refine ⟨hag k (fun hm=>?_) hreal,(hf.keep _ (hr.lt k hreal) (dA hr hnot hreal)).1⟩
  obtain ⟨j,_,hj⟩:=List.mem_filterMap.1 hm
  exact hnot (yak hj)
theorem lF {e:Env} {a:Act} (he:cS ρ X w e a.tmps):∀ xs:List Operand,bL ρ X w (xs.map (ev e)) (xs.map a.eval)
 | []=>trivial
 | x::r=>⟨aT he x,lF he r⟩
theorem Cd:∀ {xs ys:List V} {us vs:List Value},bL ρ X w xs us→bL ρ X w ys vs→bL ρ X w (xs++ys) (us++vs)
 | [],_,[],_,_,h=>h
 | _::_,_,_::_,_,h,h'=>⟨h.1,Cd h.2 h'⟩
 | [],_,_::_,_,h,_=>h.elim
 | _::_,_,[],_,h,_=>h.elim
theorem Mg {op:Op} {l0:LOp} {f:FuncId} {xs:List Operand} (hm:rl0 P op l0=some (.call f xs)):∃ c,op=.call c∧c.callee=.value (.func f)∧c.args.toList=xs:=by
 cases op with
 | call c =>
  refine ⟨c,rfl,?_⟩
  simp only [rl0,Dy] at hm
  split at hm
  ·exfalso;revert hm;(repeat' split)<;>simp
  ·rename_i hc
   simp only [yaa,LOp.call.injEq] at hm
   exact ⟨by rw [hc,hm.1],hm.2⟩
  all_goals (exfalso;revert hm;(repeat' split)<;>simp)
 | _=>exfalso;simp only [rl0] at hm<;>(revert hm;(repeat' split)<;>simp [yaf])
theorem Jv {op:Op} {l0:LOp} {f:Operand} {xs:List Operand} (hm:rl0 P op l0=some (.callv f xs)):∃ c,op=.call c∧c.callee=.value f∧c.args.toList=xs:=by
 cases op with
 | call c =>
  refine ⟨c,rfl,?_⟩
  simp only [rl0,Dy] at hm
  split at hm
  ·exfalso;revert hm;(repeat' split)<;>simp
  ·exfalso;simp at hm
  ·rename_i hc
   simp only [yaa,LOp.callv.injEq] at hm
   exact ⟨by rw [hc,hm.1],hm.2⟩
  all_goals (exfalso;revert hm;(repeat' split)<;>simp)
 | _=>exfalso;simp only [rl0] at hm<;>(revert hm;(repeat' split)<;>simp [yaf])
theorem oL {cx:Cx} (hcx:cx.ok P) {o:Oper} {l0 l:LOp} {a:Act} {s:St} {K:V→St→Prop} {Q:Exit→Act→World→Prop} (hm:rl P o.op l0=some l)
  (hr:Rep ρ X w s.h) (he:cS ρ X w s.e a.tmps) (hfx:aD cx.fx s.h) (h:aOp cx l s K) :
  o.wp P a w (fun a' w'=>∃ val,a'=a.put o.dst val∧oM cx.fx cx.bn ρ X w a.tmps K val w') Q:=by
 by_cases hq:bH l=true
 ·obtain ⟨x,val,h1,h2,h3⟩:=Bn hq hm hr he h
  unfold Oper.wp
  rw [h3 w (Ext.refl w)]
  exact ⟨val,rfl,x,s,ρ,h1,⟨hfx,fun _ _=>rfl,fun _ _ _=>⟨rfl,rfl⟩⟩,Fr.refl _ _,hr,he,h2⟩
 ·rcases Mf hm with rfl|hm0|⟨p,hm0⟩|⟨p,j,hm0⟩
  ·exact h.elim
  ·by_cases hc:∃ f xs,l=.call f xs
   ·obtain ⟨f,xs,rfl⟩:=hc
    have hop:=Mg hm0
    obtain ⟨c,hop,hcal,hargs⟩:=hop
    obtain ⟨h1,h2⟩:=Gj hcx hr he hfx (lF he xs) h
    unfold Oper.wp execOp
    have ha:(c.args.map a.eval)=(xs.map a.eval).toArray:=by apply Array.ext';simp [hargs]
    simp only [hop,resolve,hcal,ha,Act.eval,Deferred.ofValue,Sem.run_bind,Sem.run_pure,Result.andThen_ok,invoke,Array.empty_append,Array.append_empty,iO h1]
    refine Calls.mono h2 ?_
    rintro e w' ⟨val,rfl,hs⟩
    exact ⟨val,rfl,hs⟩
   ·by_cases hv:∃ f xs,l=.callv f xs
    ·obtain ⟨f,xs,rfl⟩:=hv
     have hop:=Jv hm0
     obtain ⟨c,hop,hcal,hargs⟩:=hop
     simp only [aOp] at h
     split at h
     ·rename_i g cs hg
      have hf:=aT he f
      rw [hg] at hf
      obtain ⟨arr,hf1,hf2⟩:=hf
      obtain ⟨h1,h2⟩:=Gj hcx hr he hfx (Cd (lF he xs) hf2) h
      unfold Oper.wp execOp
      have ha:(c.args.map a.eval)=(xs.map a.eval).toArray:=by apply Array.ext';simp [hargs]
      have ha2:(xs.map a.eval++arr.toList).toArray=(xs.map a.eval).toArray++arr:=by simp
      rw [ha2] at h2
      simp only [hop,resolve,hcal,ha,hf1,Deferred.ofValue,Sem.run_bind,Sem.run_pure,Result.andThen_ok,invoke,Array.empty_append,iO h1]
      refine Calls.mono h2 ?_
      rintro e w' ⟨val,rfl,hs⟩
      exact ⟨val,rfl,hs⟩
     ·exact h.elim
    ·rcases acU hm0 hr he hfx h (by simpa using hq) (fun f xs e=>hc ⟨f,xs,e⟩) (fun f xs e=>hv ⟨f,xs,e⟩) with ⟨val,w',hrun,hs⟩|⟨w',hrun,hs⟩
     ·unfold Oper.wp
      rw [hrun]
      exact ⟨val,rfl,hs⟩
     ·unfold Oper.wp
      rw [hrun]
      exact ⟨undef,rfl,hs⟩
  ·obtain ⟨p',xs,rfl⟩:=Ol hm0
   simp [bH] at hq
  ·rcases Zl hm0 hr he hfx h with ⟨val,w',hrun,hs⟩|⟨w',hrun,hs⟩
   ·unfold Oper.wp
    rw [hrun]
    exact ⟨val,rfl,hs⟩
   ·unfold Oper.wp
    rw [hrun]
    exact ⟨undef,rfl,hs⟩
end
end Go.Fx
namespace Go.Fx
open Go.RowKit
def gOk (ops:Array Oper) (N:Nat):Option (Nat × Bool)→Option (Option (Nat × Bool))
 | none=>some none
 | some (j,want)=>match ops[j]? with
  | some oj=>match oj.dst with
   | some g=>if g<N then some (some (g,want)) else none
   | none=>none
  | none=>none
def dOk (N:Nat):Option Nat→Bool
 | none=>true
 | some d=>decide (d<N)
def eU (P:Program) (ops:Array Oper) (N:Nat):List Oper→List aH→Option (List aH)
 | [],[]=>some []
 | o::os,l::ls=>match rl P o.op l.op,gOk ops N o.guard,dOk N o.dst,eU P ops N os ls with
  | some op,some g,true,some r=>some (⟨o.dst,op,g⟩::r)
  | _,_,_,_=>none
 | _,_=>none
theorem iW {P:Program} {ops:Array Oper} {N:Nat} {o:Oper} {os:List Oper} {ls0:List aH} {l:aH} {ls:List aH} (h:eU P ops N (o::os) ls0=some (l::ls)) :
  ∃ l0 r0 op g,ls0=l0::r0∧rl P o.op l0.op=some op∧gOk ops N o.guard=some g∧(∀ d,o.dst=some d→d<N)∧l=⟨o.dst,op,g⟩∧eU P ops N os r0=some ls:=by
 cases ls0 with
 | nil=>simp [eU] at h
 | cons l0 r0 =>
  simp only [eU] at h
  split at h
  ·rename_i op g r h1 h2 h3 h4
   simp only [yaa,ybl] at h
   obtain ⟨rfl,rfl⟩:=h
   refine ⟨l0,r0,op,g,rfl,h1,h2,fun d hd=>?_,rfl,h4⟩
   simpa [dOk,hd] using h3
  ·cases h
theorem nU {P:Program} {ops:Array Oper} {N:Nat} {os:List Oper} {ls0:List aH} (h:eU P ops N os ls0=some []):os=[]:=by
 cases os with
 | nil=>rfl
 | cons o os =>
  cases ls0 with
  | nil=>simp [eU] at h
  | cons l0 r0 =>
   simp only [eU] at h
   split at h<;>simp at h
section
variable {P:Program} (ρ0:Nat→Loc) (X:Nat→Prop) (w0:World) (fx:List Nat) (N:Nat)
def Eu (D:Nat):Deferred:={ target:=.collected D,args:=#[] }
class DBase where
 ds:List Deferred
instance (priority:=low) dbase0:DBase:=⟨[]⟩
variable [DBase]
def Marks (ρ:Nat→Loc) (w0 w:World) (ds:List Deferred):Prop :=
 ∃ Ds:List Nat,(ds=Ds.map Eu++DBase.ds∧Ds.Nodup)∧∀ D∈Ds,(w0.heap.size≤D∧D<w.heap.size)∧¬Own ρ D∧w.heap[D]?=some (.deferred (some []))
theorem Marks.nil {ρ:Nat→Loc} {w0 w:World}:Marks ρ w0 w DBase.ds:=⟨[],⟨rfl,List.nodup_nil⟩,fun _ h=>by simp at h⟩
theorem Marks.fr {ρ ρ':Nat→Loc} {w0 w w':World} {ds:List Deferred} (hf:Fr ρ w ρ' w') (h:Marks ρ w0 w ds):Marks ρ' w0 w' ds:=by
 obtain ⟨Ds,h1,h2⟩:=h
 refine ⟨Ds,h1,fun D hD=>?_⟩
 obtain ⟨⟨h3,h4⟩,h5,h6⟩:=h2 D hD
 have h7:=hf.keep D h4 h5
 exact ⟨⟨h3,yaw h4 hf.size⟩,h7.2,h7.1.trans h6⟩
theorem lU (a:Act) (d:Option Nat) (v:Value):(a.put d v).defers=a.defers:=by cases d<;>rfl
def Good (s:St) (a:Act) (w:World):Prop :=
 ∃ ρ,((Fr ρ0 w0 ρ w∧∀ k∈fx,ρ k=ρ0 k)∧aD fx s.h)∧(Rep ρ X w s.h∧cS ρ X w s.e a.tmps)∧a.tmps.size=N∧Marks ρ w0 w a.defers
variable {ρ0 X w0 fx N}
theorem Good.sound {s:St} {a:Act} {w:World} {ρ:Nat→Loc} (h1:(Fr ρ0 w0 ρ w∧∀ k∈fx,ρ k=ρ0 k)∧aD fx s.h) (h3:a.tmps.size=N∧Marks ρ w0 w a.defers) {K:V→St→Prop} {d:Option Nat} (hd:∀ n,d=some n→n<N) {val:Value} {w':World}
  {bn:List Nat} (h:oM fx bn ρ X w a.tmps K val w'):∃ x s',K x s'∧Good ρ0 X w0 fx N (s'.put d x) (a.put d val) w':=by
 obtain ⟨x,s',ρ',hK,⟨hk,hfx,_⟩,hf,hr,he,hv⟩:=h
 have hh:(s'.put d x).h=s'.h:=by cases d<;>rfl
 refine ⟨x,s',hK,ρ',⟨⟨h1.1.1.trans hf,fun k hk'=>(hfx k hk').trans (h1.1.2 k hk')⟩,by rw [hh];exact hk⟩,⟨by rw [hh];exact hr,?_⟩,by rw [size_put];exact h3.1,by rw [lU];exact h3.2.fr hf⟩
 exact eJ (e:=s'.e) he hv (fun n hn=>by rw [h3.1];exact hd n hn) s' rfl
theorem Oa {ops:Array Oper} {a:Act} {j g:Nat} {oj:Oper} (hj:ops[j]?=some oj) (hg:oj.dst=some g) (hN:g<a.tmps.size):yielded ops a.tmps j=match a.tmps.getD g undef with|.bool b=>some b|_=>none:=by
 unfold yielded
 simp only [hj,Option.bind_some,hg]
 rw [yas hN,Array.getD_eq_getD_getElem?,yas hN]
 simp only [Option.getD_some]
 cases a.tmps[g]<;>rfl
theorem Good.put_same {s:St} {a:Act} {w:World} {ρ:Nat→Loc} {g:Nat} {b:Bool} (he:cS ρ X w s.e a.tmps) (hg:a.tmps.getD g undef=.bool b):cS ρ X w ((g,V.b b)::s.e) a.tmps:=by
 intro i
 rw [get_put]
 split
 ·rename_i hi
  subst hi
  rw [hg]
  exact rfl
 ·exact he i
def vA (e e':Env):Prop:=∀ j,get e' j=get e j∨∃ b,get e' j=V.b b
theorem vA.refl (e:Env):vA e e:=fun _=>.inl rfl
theorem vA.put (e:Env) (g:Nat) (b:Bool):vA e ((g,V.b b)::e):=fun j=>by
 rw [get_put]
 split
 ·exact .inr ⟨b,rfl⟩
 ·exact .inl rfl
theorem v7 {A:St→(V→St→Prop)→Prop} {ops:Array Oper} {o:Oper} {g:Option (Nat × Bool)} {s:St} {a:Act} {w:World} {ρ:Nat→Loc} {K:St→Prop} (hN:a.tmps.size=N) (hg:gOk ops N o.guard=some g)
  (he:cS ρ X w s.e a.tmps) (h:gP g o.dst A s K) :
  (Region.wanted o (yielded ops a.tmps)=true∧∃ e',vA s.e e'∧cS ρ X w e' a.tmps∧A { s with e:=e' } fun x s'=>K (s'.put o.dst x)) ∨
  (Region.wanted o (yielded ops a.tmps)=false∧∃ e',vA s.e e'∧cS ρ X w e' a.tmps∧K (St.put { s with e:=e' } o.dst (.v (.tuple #[])))):=by
 cases ho:o.guard with
 | none =>
  rw [ho] at hg
  simp only [gOk,yaa] at hg
  subst hg
  exact .inl ⟨by simp [Region.wanted,ho],s.e,vA.refl _,he,h⟩
 | some jw =>
  obtain ⟨j,want⟩:=jw
  rw [ho] at hg
  simp only [gOk] at hg
  split at hg
  ·rename_i oj hj
   split at hg
   ·rename_i gs hgs
    split at hg
    ·rename_i hlt
     simp only [yaa] at hg
     subst hg
     have hy:=Oa hj hgs (a:=a) (hN.symm▸hlt)
     have hrep:=he gs
     simp only [gP,aZ] at h
     split at h
     ·rename_i b hb
      rw [hb] at hrep
      have hrep':a.tmps.getD gs undef=.bool b:=hrep
      rw [hrep'] at hy
      have hw:Region.wanted o (yielded ops a.tmps)=(b==want):=by
       simp [Region.wanted,ho,hy]
      cases b<;>cases want
      ·refine .inl ⟨by rw [hw];rfl,_,vA.put _ _ _,Good.put_same he hrep',?_⟩
       simp only [yaD,if_false] at h
       exact h.2 rfl
      ·refine .inr ⟨by rw [hw];rfl,_,vA.put _ _ _,Good.put_same he hrep',?_⟩
       simp only [if_true] at h
       exact h.2 rfl
      ·refine .inr ⟨by rw [hw];rfl,_,vA.put _ _ _,Good.put_same he hrep',?_⟩
       simp only [yaD,if_false] at h
       exact h.1 rfl
      ·refine .inl ⟨by rw [hw];rfl,_,vA.put _ _ _,Good.put_same he hrep',?_⟩
       simp only [if_true] at h
       exact h.1 rfl
     ·rename_i u hu
      rw [hu] at hrep
      have hrep':a.tmps.getD gs undef=.tuple u:=hrep
      rw [hrep'] at hy
      exact .inr ⟨by simp [Region.wanted,ho,hy],s.e,vA.refl _,he,h⟩
     ·exact h.elim
    ·cases hg
   ·cases hg
  ·cases hg
theorem fB {cx:Cx} {ops:Array Oper} {o:Oper} {op:LOp} {g:Option (Nat × Bool)} {s:St} {a:Act} {w:World} {ρ:Nat→Loc} {K:St→Prop} (hN:a.tmps.size=N) (hg:gOk ops N o.guard=some g)
  (he:cS ρ X w s.e a.tmps) (h:rQ cx ⟨o.dst,op,g⟩ s K) :
  (Region.wanted o (yielded ops a.tmps)=true∧∃ e',vA s.e e'∧cS ρ X w e' a.tmps∧aOp cx op { s with e:=e' } fun x s'=>K (s'.put o.dst x)) ∨
  (Region.wanted o (yielded ops a.tmps)=false∧∃ e',vA s.e e'∧cS ρ X w e' a.tmps∧K (St.put { s with e:=e' } o.dst (.v (.tuple #[])))) :=
 v7 hN hg he (A:=aOp cx op) (by cases g<;>exact h)
theorem pN {cx:Cx} (hcx:cx.ok P) (hfxe:cx.fx=fx) {ops:Array Oper} {Q:Exit→Act→World→Prop} {K:St→Prop} (hQ:∀ s a w,K s→Good ρ0 X w0 fx N s a w→Q .normal a w) :
  ∀ (os:List Oper) (ls0 ls:List aH) (s:St) (a:Act) (w:World),eU P ops N os ls0=some ls→Good ρ0 X w0 fx N s a w→eV cx ls s K→wpList P ops Q os a w
 | os,ls0,[],s,a,w,hm,hg,h=>by
  have:=nU hm
  subst this
  exact hQ s a w h hg
 | [],ls0,l::ls,s,a,w,hm,hg,h=>by
  cases ls0<;>simp [eU] at hm
 | o::os,ls0,l::ls,s,a,w,hm,hg,h=>by
  obtain ⟨l0,r0,op,g,rfl,h1,h2,hd,rfl,h4⟩:=iW hm
  obtain ⟨ρ,hpre,⟨hr,he⟩,hN,hdf⟩:=hg
  simp only [eV] at h
  unfold wpList
  rcases fB hN h2 he h with ⟨hw,e',_,he',h'⟩|⟨hw,e',_,he',h'⟩
  ·rw [if_pos hw]
   left
   refine Oper.wp_mono ?_ (oL hcx h1 (s:={ s with e:=e' }) hr he' (by rw [hfxe];exact hpre.2) h')
   rintro a' w' ⟨val,rfl,hs⟩
   rw [hfxe] at hs
   obtain ⟨x,s',hK,hgood⟩:=Good.sound (s:=s) hpre ⟨hN,hdf⟩ hd hs
   exact pN hcx hfxe hQ os r0 ls _ _ _ h4 hgood hK
  ·rw [if_neg (by rw [hw];exact yaV)]
   have hh:(St.put { s with e:=e' } o.dst (.v (.tuple #[]))).h=s.h:=by cases o.dst<;>rfl
   refine pN hcx hfxe hQ os r0 ls _ _ _ h4 ⟨ρ,⟨hpre.1,by rw [hh];exact hpre.2⟩,⟨by rw [hh];exact hr,?_⟩,by rw [size_put];exact hN,by cases o.dst<;>exact hdf⟩ h'
   exact eJ (e:=e') (x:=.v (.tuple #[])) (val:=undef) he' rfl (fun n hn=>by rw [hN];exact hd n hn) _ rfl
theorem Good.reserve {s:St} {a:Act} {w:World} (n m:Nat) (h:Good ρ0 X w0 fx N s a w):Good ρ0 X w0 fx N { s with b:=m,h:=s.h++yav n .dead } a w:=by
 obtain ⟨ρ,⟨h1,hk⟩,⟨hr,he⟩,h3⟩:=h
 refine ⟨ρ,⟨h1,bG hk fun k hl=>?_⟩,⟨⟨hr.inj,fun k hk'=>hr.out k (by simp at hk';omega),fun k B hB=>?_,hr.disj,hr.lt,hr.xlt⟩,he⟩,h3⟩
 ·unfold aC at hl ⊢
  cases hb:s.h[k]? with
  | none=>rw [hb] at hl;exact hl.elim
  | some B =>
   have hlt:k<s.h.length:=(yac.1 hb).1
   rw [yaj hlt]
   exact hl
 ·rcases yaU k s.h.length with hlt|hge
  ·rw [yaj hlt] at hB
   exact hr.blk k B hB
  ·rw [yam hge,yaG] at hB
   split at hB
   ·simp only [yaa] at hB
    subst hB
    exact hr.out k hge
   ·cases hB
theorem Good.drew {s:St} {a:Act} {w:World} (h:Good ρ0 X w0 fx N s a w):Good ρ0 X w0 fx N s a { w with drawn:=w.drawn+1 }:=by
 obtain ⟨ρ,⟨⟨hf,h1⟩,hk⟩,⟨hr,he⟩,h3⟩:=h
 have hf1:Fr ρ w ρ { w with drawn:=w.drawn+1 }:=⟨rfl,rfl,rfl,yae _,fun _ _ ho=>⟨rfl,ho⟩⟩
 refine ⟨ρ,⟨⟨hf.trans hf1,h1⟩,hk⟩,⟨⟨hr.inj,hr.out,fun k B hB=>?_,hr.disj,hr.lt,hr.xlt⟩,bF hf1 (fun _ _=>rfl) he⟩,h3.1,h3.2.fr hf1⟩
 exact gR hf1 (fun _ _=>rfl) rfl (fun _=>rfl) (hr.blk k B hB)
theorem Ei {cx:Cx} {ops:Array Oper} {o:Oper} {l0:LOp} {op:LOp} {g:Option (Nat × Bool)} {s:St} {a:Act} {w:World} {ρ:Nat→Loc} {K:St→Prop} (hq:bH op=true) (hm:rl P o.op l0=some op) (hg:gOk ops N o.guard=some g)
  (hr:Rep ρ X w s.h) (he:cS ρ X w s.e a.tmps) (hN:a.tmps.size=N) (hd:∀ n,o.dst=some n→n<N) (h:rQ cx ⟨o.dst,op,g⟩ s K) :
  ∃ val s',K s'∧s'.h=s.h∧cS ρ X w s'.e (a.put o.dst val).tmps ∧
   ((Region.wanted o (yielded ops a.tmps)=true∧anL P o a w val)∨(Region.wanted o (yielded ops a.tmps)=false∧val=undef)):=by
 rcases fB hN hg he h with ⟨hw,e',_,he',h'⟩|⟨hw,e',_,he',h'⟩
 ·obtain ⟨x,val,h1,h2,h3⟩:=Bn (s:={ s with e:=e' }) hq hm hr he' h'
  exact ⟨val,_,h1,by cases o.dst<;>rfl,eJ (e:=e') he' h2 (fun n hn=>by rw [hN];exact hd n hn) _ rfl,.inl ⟨hw,h3⟩⟩
 ·exact ⟨undef,_,h',by cases o.dst<;>rfl,eJ (e:=e') (x:=.v (.tuple #[])) (val:=undef) he' rfl (fun n hn=>by rw [hN];exact hd n hn) _ rfl,.inr ⟨hw,rfl⟩⟩
theorem uL {cx:Cx} {ds:List Deferred} {ops:Array Oper} {w:World} {ρ:Nat→Loc} {K:St→Prop} {L:Act→Prop} (hL:∀ s a,K s→cS ρ X w s.e a.tmps→a.tmps.size=N→a.defers=ds→Rep ρ X w s.h→aD fx s.h→L a) :
  ∀ (os:List Oper) (ls0 ls:List aH) (s:St) (a:Act),eU P ops N os ls0=some ls→(∀ l∈ls,bH l.op=true)→Rep ρ X w s.h→aD fx s.h→cS ρ X w s.e a.tmps→a.tmps.size=N→a.defers=ds→eV cx ls s K →
   wpStill P ops w L os a
 | os,ls0,[],s,a,hm,_,hr,hk,he,hN,hdf,h=>by
  have:=nU hm
  subst this
  exact hL s a h he hN hdf hr hk
 | [],ls0,l::ls,s,a,hm,_,_,_,_,_,_,_=>by
  cases ls0<;>simp [eU] at hm
 | o::os,ls0,l::ls,s,a,hm,hq,hr,hk,he,hN,hdf,h=>by
  obtain ⟨l0,r0,op,g,rfl,h1,h2,hd,rfl,h4⟩:=iW hm
  simp only [eV] at h
  obtain ⟨val,s',hK,hh,he',hor⟩:=Ei (hq _ yay) h1 h2 hr he hN hd h
  have ih:=uL hL os r0 ls s' (a.put o.dst val) h4 (fun l hl=>hq l (by simp [hl])) (by rw [hh];exact hr) (by rw [hh];exact hk) he' (by rw [size_put];exact hN) (by cases o.dst<;>exact hdf) hK
  unfold wpStill
  rcases hor with ⟨hw,hrun⟩|⟨hw,rfl⟩
  ·rw [if_pos hw]
   unfold Oper.still
   rw [hrun w (Ext.refl w)]
   exact ⟨rfl,ih⟩
  ·rw [if_neg (by rw [hw];exact yaV)]
   exact ih
theorem Dj {cx:Cx} {ds:List Deferred} {ops:Array Oper} {w:World} {C:World→Prop} (hC:∀ w',C w'→Ext w w') {ρ:Nat→Loc} {K:St→Prop} {L:Act→Prop} (hL:∀ s a,K s→cS ρ X w s.e a.tmps→a.tmps.size=N→a.defers=ds→Rep ρ X w s.h→aD fx s.h→L a) :
  ∀ (os:List Oper) (ls0 ls:List aH) (s:St) (a:Act),eU P ops N os ls0=some ls→(∀ l∈ls,bH l.op=true)→Rep ρ X w s.h→aD fx s.h→cS ρ X w s.e a.tmps→a.tmps.size=N→a.defers=ds→eV cx ls s K →
   wpQuiet P ops C L os a
 | os,ls0,[],s,a,hm,_,hr,hk,he,hN,hdf,h=>by
  have:=nU hm
  subst this
  exact hL s a h he hN hdf hr hk
 | [],ls0,l::ls,s,a,hm,_,_,_,_,_,_,_=>by
  cases ls0<;>simp [eU] at hm
 | o::os,ls0,l::ls,s,a,hm,hq,hr,hk,he,hN,hdf,h=>by
  obtain ⟨l0,r0,op,g,rfl,h1,h2,hd,rfl,h4⟩:=iW hm
  simp only [eV] at h
  obtain ⟨val,s',hK,hh,he',hor⟩:=Ei (hq _ yay) h1 h2 hr he hN hd h
  have ih:=Dj hC hL os r0 ls s' (a.put o.dst val) h4 (fun l hl=>hq l (by simp [hl])) (by rw [hh];exact hr) (by rw [hh];exact hk) he' (by rw [size_put];exact hN) (by cases o.dst<;>exact hdf) hK
  unfold wpQuiet
  rcases hor with ⟨hw,hrun⟩|⟨hw,rfl⟩
  ·rw [if_pos hw]
   refine ⟨val,fun w' hw'=>?_,ih⟩
   unfold Oper.quietAt
   rw [hrun w' (hC w' hw')]
   exact ⟨rfl,rfl⟩
  ·rw [if_neg (by rw [hw];exact yaV)]
   exact ih
theorem Ca {cx:Cx}:∀ (l1 l2:List aH) (s:St) (K:St→Prop),eV cx (l1++l2) s K=eV cx l1 s fun s'=>eV cx l2 s' K
 | [],_,_,_=>rfl
 | o::r,l2,s,K=>by
  simp only [List.cons_append,eV]
  congr 1
  funext s'
  exact Ca r l2 s' K
theorem Dx {ops:Array Oper}:∀ (m:Nat) (os:List Oper) (ls0 ls:List aH),eU P ops N os ls0=some ls →
  eU P ops N (os.take m) (ls0.take m)=some (ls.take m)∧eU P ops N (os.drop m) (ls0.drop m)=some (ls.drop m)
 | 0,os,ls0,ls,h=>by simp [eU,h]
 | m+1,[],ls0,ls,h=>by
  cases ls0 with
  | nil=>simp [eU] at h;subst h;simp [eU]
  | cons _ _=>simp [eU] at h
 | m+1,o::os,ls0,ls,h=>by
  cases ls with
  | nil=>have:=nU h;cases this
  | cons l ls =>
   obtain ⟨l0,r0,op,g,rfl,h1,h2,hd,rfl,h4⟩:=iW h
   obtain ⟨h5,h6⟩:=Dx m os r0 ls h4
   refine ⟨?_,by simpa using h6⟩
   have hd':dOk N o.dst=true:=by
    cases hdst:o.dst with
    | none=>rfl
    | some d=>simpa [dOk] using hd d hdst
   simp [eU,h1,h2,hd',h5]
theorem Good.heap {s:St} {a:Act} {w w':World} (h:Good ρ0 X w0 fx N s a w) (hh:w'.heap=w.heap) (h1:w'.os=w.os) (h2:w'.tape=w.tape) (h3:w'.output=w.output):Good ρ0 X w0 fx N s a w':=by
 obtain ⟨ρ,⟨⟨hf,h4⟩,hk⟩,⟨hr,he⟩,h5⟩:=h
 have hf1:Fr ρ w ρ w':=⟨h1,h2,h3,by rw [hh];exact yae _,fun _ _ ho=>⟨by rw [hh],ho⟩⟩
 refine ⟨ρ,⟨⟨hf.trans hf1,h4⟩,hk⟩,⟨⟨hr.inj,hr.out,fun k B hB=>?_,hr.disj,fun k hk=>by rw [hh];exact hr.lt k hk,hr.xfr hf1⟩,bF hf1 (fun _ _=>rfl) he⟩,h5.1,h5.2.fr hf1⟩
 exact gR hf1 (fun _ _=>rfl) rfl (fun _=>by rw [hh]) (hr.blk k B hB)
theorem Td (hP:P.follows .mixedOrders=true) {cx:Cx} {ops:Array Oper} {id:Nat} {Q:Exit→Act→World→Prop} {K:St→Prop} (hQ:∀ s a w,K s→Good ρ0 X w0 fx N s a w→Q .normal a w)
  {ls0 ls:List aH} {s:St} {a:Act} {w:World} (hm:eU P ops N ops.toList ls0=some ls) (hq:ls.all (fun l=>bH l.op)=true) (hB:Region.lexB .any ops=true)
  (hg:Good ρ0 X w0 fx N s a w) (h:eV cx ls s K):(Code.region id ops true).wp P Q a w:=by
 obtain ⟨ρ,hpre,⟨hr,he⟩,hN,hdf⟩:=hg
 refine wp_region_quiet (C:=fun w'=>w'.heap=w.heap∧w'.os=w.os∧w'.tape=w.tape∧w'.output=w.output) hP hB ⟨rfl,rfl,rfl,rfl⟩ ?_
 refine Dj (fx:=fx) (cx:=cx) (ρ:=ρ) (K:=K) (fun w' hw' b _=>by rw [hw'.1]) ?_ _ _ _ s a hm (fun l hl=>yah.1 hq l hl) hr hpre.2 he hN rfl h
 intro s' a' hK he' hN' hdf' hr' hk' w' hw'
 refine hQ s' a' w' hK ?_
 exact Good.heap (w:=w) ⟨ρ,⟨hpre.1,hk'⟩,⟨hr',he'⟩,hN',by rw [hdf'];exact hdf⟩ hw'.1 hw'.2.1 hw'.2.2.1 hw'.2.2.2
theorem Oc (hP:P.follows .mixedOrders=true) {cx:Cx} (hcx:cx.ok P) (hfxe:cx.fx=fx) {ops:Array Oper} {id:Nat} {Q:Exit→Act→World→Prop} {K:St→Prop} (hQ:∀ s a w,K s→Good ρ0 X w0 fx N s a w→Q .normal a w)
  {m:Nat} {ls0 ls:List aH} {s:St} {a:Act} {w:World} (hm:eU P ops N ops.toList ls0=some ls) (hq:(ls.take m).all (fun l=>bH l.op)=true) (hB:Region.lexTailB .any ops m=true)
  (hg:Good ρ0 X w0 fx N s a w) (h:eV cx ls s K):(Code.region id ops true).wp P Q a w:=by
 obtain ⟨ρ,hpre,⟨hr,he⟩,hN,hdf⟩:=Good.drew hg
 obtain ⟨h1,h2⟩:=Dx m _ _ _ hm
 have hops:ops=ops.toList.toArray:=by simp
 rw [hops] at hB ⊢
 refine wp_region_still_tail m hP hB ?_
 rw [←List.take_append_drop m ls,Ca] at h
 refine uL (fx:=fx) (cx:=cx) (ρ:=ρ) (K:=fun s'=>eV cx (ls.drop m) s' K) ?_ _ _ _ s a (by rw [←hops];exact h1) (fun l hl=>yah.1 hq l hl) hr hpre.2 he hN rfl h
 intro s' a' hK he' hN' hdf' hr' hk'
 exact pN hcx hfxe hQ _ _ _ s' a' _ (by rw [←hops];exact h2) ⟨ρ,⟨hpre.1,hk'⟩,⟨hr',he'⟩,hN',by rw [hdf'];exact hdf⟩ hK
end
end Go.Fx
namespace Go.Fx
open Go.RowKit
section
variable {P:Program} {md:Region.Mode} {ops:Array Oper} {Q:Exit→Act→World→Prop} {Γ:Type} {G:Nat→Γ→World→Γ→World→Prop}
def fQ (P:Program) (md:Region.Mode) (ops:Array Oper) (Q:Exit→Act→World→Prop) (G:Nat→Γ→World→Γ→World→Prop):Nat→Array Bool→Γ→Act→World→Prop
 | 0,listed,_,a,w=>Region.ready md ops listed=[]∧Q .normal a w
 | fuel+1,listed,g,a,w =>
  (Region.ready md ops listed=[]→Q .normal a w) ∧
  ∀ i∈Region.ready md ops listed,wpOp P ops Q i (fun a' w'=>∃ g',G i g w g' w'∧fQ P md ops Q G fuel (listed.setIfInBounds i true) g' a' w') a w
theorem Dl:∀ (fuel:Nat) (listed:Array Bool) (g:Γ) (a:Act) (w:World),fQ P md ops Q G fuel listed g a w→wpAny P md ops Q fuel listed a w
 | 0,_,_,_,_,h=>h
 | fuel+1,_,_,_,_,h=>⟨h.1,fun i hi=>wpOp_mono (fun a' w' ⟨g',_,h'⟩=>Dl fuel _ g' a' w' h') (h.2 i hi)⟩
theorem Lp {g g2:Γ} {w:World} (h:∀ i g' w',G i g2 w g' w'→G i g w g' w'):∀ (fuel:Nat) (listed:Array Bool) (a:Act),fQ P md ops Q G fuel listed g2 a w→fQ P md ops Q G fuel listed g a w
 | 0,_,_,hh=>hh
 | _+1,_,_,hh=>⟨hh.1,fun i hi=>wpOp_mono (fun _ w' ⟨g',h1,h2⟩=>⟨g',h i g' w' h1,h2⟩) (hh.2 i hi)⟩
theorem oT {i:Nat} {oi:Oper} {v:Value} (hi:ops[i]?=some oi) (hsel:∀ (j:Nat) (o:Oper) cs b,ops[j]?=some o→o.op≠.select cs b)
  (hQ:∀ c a w,Q (.panic c) (a.put oi.dst v) w→Q (.panic c) a w) {D:Nat→Prop} (hD:∀ j oj,D j→ops[j]?=some oj→∃ e∈oj.after,Region.binds md e=true∧(e.on=i∨D e.on))
  {Inv:Γ→World→Prop} (hGi:∀ g w,Inv g w→G i g w g w) :
  ∀ (fuel:Nat) (listed:Array Bool) (g:Γ) (a:Act) (w:World),
   (∀ j oj,ops[j]?=some oj→j≠i→listed.getD j true=false→(∀ e∈oj.after,Region.binds md e=true→e.on≠i)→oi.apart ops oj=true) →
   (∀ j,D j→listed.getD j false=false) →
   (∀ j oj,ops[j]?=some oj→j≠i→¬D j→listed.getD j true=false→∀ g w g' w',G j g w g' w'→Inv g w→Inv g' w') →
   i∈Region.ready md ops listed→YieldsIf P ops (fun w=>∃ g,Inv g w) oi v a→Inv g w →
   fQ P md ops Q G fuel (listed.setIfInBounds i true) g (a.put oi.dst v) w→fQ P md ops Q G (fuel+1) listed g a w:=by
 intro fuel
 induction fuel with
 | zero =>
  intro listed g a w _ _ _ hr hy hS H
  refine ⟨fun h=>(by rw [h] at hr;cases hr),fun j hj=>?_⟩
  by_cases hji:j=i
  ·subst hji;exact hy.wpOp hi ⟨g,hS⟩ ⟨g,hGi g w hS,H⟩
  ·have:=ready_mono hj hji
   rw [H.1] at this
   cases this
 | succ fuel ih =>
  intro listed g a w hfree hun hinv hr hy hS H
  refine ⟨fun h=>(by rw [h] at hr;cases hr),fun j hj=>?_⟩
  by_cases hji:j=i
  ·subst hji;exact hy.wpOp hi ⟨g,hS⟩ ⟨g,hGi g w hS,H⟩
  ·have h1:=H.2 j (ready_mono hj hji)
   obtain ⟨hjun,oj,hoj,hall⟩:=mem_ready.1 hj
   have hiun:listed.getD i false=false:=by
    have h0:=(mem_ready.1 hr).1
    rcases yaU i listed.size with h'|h'
    ·simpa [h'] using h0
    ·simp [Array.getElem?_eq_none h']
   have hnot:∀ e∈oj.after,Region.binds md e=true→e.on≠i:=fun e he hb heq=>by
    have h1:=hall e he hb
    rw [heq,hiun] at h1
    cases h1
   have hnD:¬D j:=fun hd=>by
    obtain ⟨e,he,hb,h2⟩:=hD j oj hd hoj
    have h3:=hall e he hb
    rcases h2 with h2|h2
    ·rw [h2,hiun] at h3;cases h3
    ·rw [hun _ h2] at h3;cases h3
   have h2:=wpOp_putIf hoj (hfree j oj hoj hji hjun hnot) (fun cs b=>hsel i oi cs b hi) (fun cs b=>hsel j oj cs b hoj) hQ hy h1
   have hset:∀ k,(listed.setIfInBounds j true).getD k true=false→listed.getD k true=false:=fun k hk=>by
    by_cases hjk:j=k
    ·subst hjk;exact hjun
    ·rw [getD_set_ne true hjk] at hk;exact hk
   have hfree':∀ k ok,ops[k]?=some ok→k≠i→(listed.setIfInBounds j true).getD k true=false →
     (∀ e∈ok.after,Region.binds md e=true→e.on≠i)→oi.apart ops ok=true:=fun k ok hk hki hu hno=>hfree k ok hk hki (hset k hu) hno
   have hun':∀ k,D k→(listed.setIfInBounds j true).getD k false=false:=fun k hk=>by
    have hne:j≠k:=fun e=>hnD (e▸hk)
    rw [getD_set_ne false hne]
    exact hun k hk
   refine wpOp_mono (fun a' w' h3=>?_) h2
   obtain ⟨hy',g',hG,h4⟩:=h3
   refine ⟨g',hG,ih (listed.setIfInBounds j true) g' a' w' hfree' hun' (fun k ok hok hki hkD hku=>hinv k ok hok hki hkD (hset k hku)) (ready_mono hr (Ne.symm hji)) hy' (hinv j oj hoj hji hnD hjun _ _ _ _ hG hS) ?_⟩
   rw [Array.setIfInBounds_comm _ _ hji]
   exact h4
end
def lH:LOp→Bool
 | .load _ _=>true
 | _=>false
def Sx:LPlan→List Nat
 | .alt i _ r p q=>(if r then [] else [i])++Sx p++Sx q
 | .take _ _ _ p=>Sx p
 | .done=>[]
 | .none=>[]
def y8 (ops:Array Oper) (rs:Nat→Bool) (listed:Array Bool) (i:Nat) (D:List Nat) (op:LOp):Bool :=
 ((Region.ready .any ops listed).contains i&&Region.free .any ops listed i&&bH op) &&
 ((D.all fun d=>!(listed.getD d false)&&match ops[d]? with
   | some od=>od.after.any fun e=>Region.binds .any e&&(e.on==i||D.contains e.on)
   | none=>true) &&
 (!lH op||(List.range ops.size).all fun j=>j==i||D.contains j||listed.getD j true||rs j))
def rlP (P:Program) (N:Nat) (ops:Array Oper) (rs:Nat→Bool):LPlan→Array Bool→Nat→Option (List Nat)→Option LPlan
 | .done,listed,_,none=>if (Region.ready .any ops listed).isEmpty then some .done else none
 | .take i D l p,listed,fuel+1,none=>match ops[i]? with
  | some o=>match rl P o.op l.op,gOk ops N o.guard,dOk N o.dst,rlP P N ops rs p (listed.setIfInBounds i true) fuel none with
   | some op,some g,true,some p'=>if y8 ops rs listed i D op then some (.take i D ⟨o.dst,op,g⟩ p') else none
   | _,_,_,_=>none
  | none=>none
 | .alt i l r p q,listed,fuel+1,rem=>match rem.getD (Region.ready .any ops listed),ops[i]? with
  | j::js,some o=>match rl P o.op l.op,gOk ops N o.guard,dOk N o.dst,rlP P N ops rs p (listed.setIfInBounds i true) fuel none,rlP P N ops rs q listed (fuel+1) (some js) with
   | some op,some g,true,some p',some q'=>if j=i∧r=rs i then some (.alt i ⟨o.dst,op,g⟩ r p' q') else none
   | _,_,_,_,_=>none
  | _,_=>none
 | .none,_,_,some []=>some .none
 | _,_,_,_=>none
section
variable [DBase] {P:Program} {ρ0:Nat→Loc} {X:Nat→Prop} {w0:World} {fx:List Nat} {N:Nat}
abbrev Gh:=(Nat→Loc) × (Nat→Prop)
def GR (rs:Nat→Bool) (j:Nat) (g:Gh) (w:World) (g':Gh) (w':World):Prop :=
 Fr g.1 w g'.1 w'∧(rs j=true→(∀ b,g.2 b→g'.2 b)∧∀ b,g.2 b→b<w.heap.size→w'.heap[b]?=w.heap[b]?)
def GoodAt (ρ0:Nat→Loc) (X:Nat→Prop) (w0:World) (fx:List Nat) (N:Nat) (ρ:Nat→Loc) (s:St) (a:Act) (w:World):Prop :=
 ((Fr ρ0 w0 ρ w∧∀ k∈fx,ρ k=ρ0 k)∧aD fx s.h)∧(Rep ρ X w s.h∧cS ρ X w s.e a.tmps)∧a.tmps.size=N∧Marks ρ w0 w a.defers
def BI (ρ:Nat→Loc) (B:Nat→Prop) (bn:List Nat) (w:World):Prop :=
 ∀ b,B b→b<w.heap.size∧((∃ k∈bn,(ρ k).real=true∧(ρ k).blk=b)∨¬Own ρ b)
def Inv (b:Nat) (o:Option Obj) (g:Gh) (w:World):Prop:=(b<w.heap.size∧(g.2 b∨¬Own g.1 b))∧w.heap[b]?=o
theorem Inv.step {rs:Nat→Bool} {j b:Nat} {o:Option Obj} {g g':Gh} {w w':World} (hj:rs j=true) (hG:GR rs j g w g' w') (h:Inv b o g w):Inv b o g' w':=by
 obtain ⟨⟨h1,h2⟩,h3⟩:=h
 obtain ⟨hF,hB⟩:=hG
 obtain ⟨h4,h5⟩:=hB hj
 refine ⟨⟨yaw h1 hF.size,?_⟩,?_⟩
 ·rcases h2 with h2|h2
  ·exact .inl (h4 b h2)
  ·exact .inr (hF.keep b h1 h2).2
 ·rcases h2 with h2|h2
  ·rw [h5 b h2 h1];exact h3
  ·rw [(hF.keep b h1 h2).1];exact h3
theorem GR.refl (rs:Nat→Bool) (j:Nat) (g:Gh) (w:World):GR rs j g w g w:=⟨Fr.refl _ _,fun _=>⟨fun _ h=>h,fun _ _ _=>rfl⟩⟩
theorem Lq {P:Program} {ops:Array Oper} {Q:Exit→Act→World→Prop} {Γ:Type} {G:Nat→Γ→World→Γ→World→Prop} {listed:Array Bool} {g:Γ} {a:Act} {w:World}
  (hr:Region.ready .any ops listed=[]) (h:Q .normal a w):∀ fuel,fQ P .any ops Q G fuel listed g a w
 | 0=>⟨hr,h⟩
 | _+1=>⟨fun _=>h,by rw [hr];simp⟩
theorem Nv {cx:Cx} (hcx:cx.ok P) (hfxe:cx.fx=fx) {ops:Array Oper} {rs:Nat→Bool} {Q:Exit→Act→World→Prop} {i:Nat} {o:Oper} {l0 op:LOp} {g:Option (Nat × Bool)} (ho:ops[i]?=some o)
  (hm:rl P o.op l0=some op) (hg:gOk ops N o.guard=some g) (hd:dOk N o.dst=true) {bn:List Nat} {B:Nat→Prop} {ρ:Nat→Loc} {s:St} {a:Act} {w:World} {r:Bool} (hr:r=rs i) (hB:BI ρ B bn w)
  (hG:GoodAt ρ0 X w0 fx N ρ s a w) {K:St→Prop} {Z:Gh→Act→World→Prop} (h:rQ { cx with bn:=if r then bn else [] } ⟨o.dst,op,g⟩ s K)
  (hZ:∀ ρ' B' s' a' w',K s'→BI ρ' B' (if r then bn else []) w'→GoodAt ρ0 X w0 fx N ρ' s' a' w'→Z (ρ',B') a' w') :
  wpOp P ops Q i (fun a' w'=>∃ g',GR rs i (ρ,B) w g' w'∧Z g' a' w') a w:=by
 obtain ⟨hpre,⟨hrep,he⟩,hN,hdf⟩:=hG
 have hd':∀ n,o.dst=some n→n<N:=fun n hn=>by simpa [dOk,hn] using hd
 unfold wpOp
 simp only [ho]
 rcases fB hN hg he h with ⟨hw,e',_,he',h'⟩|⟨hw,e',_,he',h'⟩
 ·rw [if_pos hw]
  left
  have hcx':Cx.ok { cx with bn:=if r then bn else [] } P:=hcx
  refine Oper.wp_mono ?_ (oL hcx' hm (s:={ s with e:=e' }) hrep he' (by rw [hfxe];exact hpre.2) h')
  rintro a' w' ⟨val,rfl,x,s',ρ',hK,⟨hk,hfx,hbn⟩,hf,hr',he2,hv⟩
  rw [hfxe] at hk hfx
  have hh:(s'.put o.dst x).h=s'.h:=by cases o.dst<;>rfl
  have hgood:GoodAt ρ0 X w0 fx N ρ' (s'.put o.dst x) (a.put o.dst val) w' :=
   ⟨⟨⟨hpre.1.1.trans hf,fun k hk'=>(hfx k hk').trans (hpre.1.2 k hk')⟩,by rw [hh];exact hk⟩,⟨by rw [hh];exact hr',eJ (e:=s'.e) he2 hv (fun n hn=>by rw [hN];exact hd' n hn) s' rfl⟩,by rw [size_put];exact hN,by rw [lU];exact hdf.fr hf⟩
  cases r with
  | true =>
   simp only [if_true] at hbn hZ
   refine ⟨(ρ',B),⟨hf,fun _=>⟨fun _ h=>h,fun b hb hlt=>?_⟩⟩,hZ ρ' B _ _ _ hK (fun b hb=>?_) hgood⟩
   ·rcases (hB b hb).2 with ⟨k,hk1,hk2,hk3⟩|h3
    ·rw [←hk3];exact (hbn k hk1 hk2).2
    ·exact (hf.keep b hlt h3).1
   ·refine ⟨yaw (hB b hb).1 hf.size,?_⟩
    rcases (hB b hb).2 with ⟨k,hk1,hk2,hk3⟩|h3
    ·have h4:=(hbn k hk1 hk2).1
     exact .inl ⟨k,hk1,by rw [h4];exact hk2,by rw [h4];exact hk3⟩
    ·exact .inr (hf.keep b (hB b hb).1 h3).2
  | false =>
   refine ⟨(ρ',fun _=>False),⟨hf,fun h=>by rw [←hr] at h;cases h⟩,hZ ρ' _ _ _ _ hK (fun b hb=>hb.elim) hgood⟩
 ·rw [if_neg (by rw [hw];exact yaV)]
  have hh:(St.put { s with e:=e' } o.dst (.v (.tuple #[]))).h=s.h:=by cases o.dst<;>rfl
  have hgood:GoodAt ρ0 X w0 fx N ρ (St.put { s with e:=e' } o.dst (.v (.tuple #[]))) (a.put o.dst undef) w :=
   ⟨⟨hpre.1,by rw [hh];exact hpre.2⟩,⟨by rw [hh];exact hrep,eJ (e:=e') (x:=.v (.tuple #[])) (val:=undef) he' rfl (fun n hn=>by rw [hN];exact hd' n hn) _ rfl⟩,by rw [size_put];exact hN,by cases o.dst<;>exact hdf⟩
  cases r with
  | true=>exact ⟨(ρ,B),GR.refl _ _ _ _,hZ ρ B _ _ _ h' hB hgood⟩
  | false=>exact ⟨(ρ,fun _=>False),⟨Fr.refl _ _,fun h=>by rw [←hr] at h;cases h⟩,hZ ρ _ _ _ _ h' (fun b hb=>hb.elim) hgood⟩
theorem Dd {e e':Env} (h:vA e e') (p:Operand):ev e' p=ev e p∨∃ b,ev e' p=V.b b:=by
 cases p with
 | tmp t=>exact h t
 | _=>exact .inl rfl
theorem Vy {op:LOp} {e:Env} {bn:List Nat} (h:lH op=false):rdB op e bn=bn:=by
 cases op<;>first|rfl|simp [lH] at h
theorem Sq {cx:Cx} {ops:Array Oper} {rs:Nat→Bool} (hs:Region.noSelect ops=true) {Q:Exit→Act→World→Prop} (hQp:∀ c a w,¬Q (.panic c) a w) {i:Nat} {o:Oper} {l0 op:LOp} {g:Option (Nat × Bool)} (ho:ops[i]?=some o)
  (hm:rl P o.op l0=some op) (hg:gOk ops N o.guard=some g) (hd:dOk N o.dst=true) {listed:Array Bool} {D:List Nat} (hok:y8 ops rs listed i D op=true)
  {bn:List Nat} {B:Nat→Prop} {ρ:Nat→Loc} {s:St} {a:Act} {w:World} (hB:BI ρ B bn w)
  (hG:GoodAt ρ0 X w0 fx N ρ s a w) {K:St→Prop} {fuel:Nat} (h:rQ cx ⟨o.dst,op,g⟩ s K)
  (hZ:∀ B' s' a',K s'→BI ρ B' (rdB op s.e bn) w→GoodAt ρ0 X w0 fx N ρ s' a' w→fQ P .any ops Q (GR rs) fuel (listed.setIfInBounds i true) (ρ,B') a' w) :
  fQ P .any ops Q (GR rs) (fuel+1) listed (ρ,B) a w:=by
 obtain ⟨hpre,⟨hrep,he⟩,hN,hdf⟩:=hG
 have hd':∀ n,o.dst=some n→n<N:=fun n hn=>by simpa [dOk,hn] using hd
 simp only [y8,yaz] at hok
 obtain ⟨⟨⟨hready,hfree⟩,hq⟩,hDl,hres⟩:=hok
 have hready':i∈Region.ready .any ops listed:=by simpa using hready
 have hfr:=Region.free_spec (md:=.any) ho hfree
 have hDc:∀ j oj,j∈D→ops[j]?=some oj→∃ e∈oj.after,Region.binds .any e=true∧(e.on=i∨e.on∈D):=by
  intro j oj hj hoj
  have:=yah.1 hDl j hj
  simp only [hoj,yaz] at this
  obtain ⟨e,he,hb⟩:=Array.any_eq_true'.1 this.2
  simp only [yaz,Bool.or_eq_true,beq_iff_eq,ybs] at hb
  exact ⟨e,he,hb.1,hb.2⟩
 have hDu:∀ j,j∈D→listed.getD j false=false:=by
  intro j hj
  have:=yah.1 hDl j hj
  simp only [yaz,Bool.not_eq_true'] at this
  exact this.1
 have hsel:=Region.noSelect_spec hs
 have free:∀ (v:Value) (B':Nat→Prop),(YieldsIf P ops (fun _=>True) o v a)→fQ P .any ops Q (GR rs) fuel (listed.setIfInBounds i true) (ρ,B') (a.put o.dst v) w→fQ P .any ops Q (GR rs) (fuel+1) listed (ρ,B') a w:=by
  intro v B' hy hh
  exact oT (D:=(·∈D)) ho hsel (fun c a w h=>(hQp _ _ _ h).elim) hDc (Inv:=fun _ _=>True) (fun g w _=>GR.refl _ _ _ _) fuel listed _ a w hfr hDu (fun _ _ _ _ _ _ _ _ _ _ _ _=>trivial) hready' (hy.imp (fun ⟨h1,h2⟩=>⟨h1,fun w _=>h2 w trivial⟩) id) trivial hh
 rcases fB hN hg he h with ⟨hw,e',hEB,he',h'⟩|⟨hw,e',_,he',h'⟩
 ·obtain ⟨x,val,h1,h2,h3⟩:=Ej (s:={ s with e:=e' }) hq hm hrep he' h'
  have hh:(St.put { s with e:=e' } o.dst x).h=s.h:=by cases o.dst<;>rfl
  have hgood:GoodAt ρ0 X w0 fx N ρ (St.put { s with e:=e' } o.dst x) (a.put o.dst val) w :=
   ⟨⟨hpre.1,by rw [hh];exact hpre.2⟩,⟨by rw [hh];exact hrep,eJ (e:=e') he' h2 (fun n hn=>by rw [hN];exact hd' n hn) _ rfl⟩,by rw [size_put];exact hN,by cases o.dst<;>exact hdf⟩
  by_cases hL:lH op=true
  ·have hres':∀ j,j≠i→j∉D→listed.getD j true=false→j<ops.size→rs j=true:=by
    intro j hji hjD hjl hlt
    simp only [hL,Bool.not_true,Bool.false_or] at hres
    have:=yah.1 hres j (by simpa using hlt)
    simp only [Bool.or_eq_true,beq_iff_eq,hji,false_or,ybs,hjD,hjl,yaD] at this
    exact this
   cases op with
   | load n p =>
    have hpv:=aT he' p
    cases hp:ev e' p with
    | ptr k ix f =>
     rw [hp] at hpv
     have hreal:=hpv.1
     have hlt:=hrep.lt k hreal
     have hrd:rdB (.load n p) s.e bn=k::bn:=by
      have:ev s.e p=.ptr k ix f:=by
       rcases Dd hEB p with h4|⟨b,h4⟩
       ·rw [←h4];exact hp
       ·rw [h4] at hp;cases hp
      simp only [rdB,this]
     have hB':BI ρ (fun b=>B b∨b=(ρ k).blk) (rdB (.load n p) s.e bn) w:=by
      rw [hrd]
      rintro b (hb|rfl)
      ·exact ⟨(hB b hb).1,(hB b hb).2.imp (fun ⟨k',hk,hk'⟩=>⟨k',yaI _ hk,hk'⟩) id⟩
      ·exact ⟨hlt,.inl ⟨k,yay,hreal,rfl⟩⟩
     refine Lp (g2:=(ρ,fun b=>B b∨b=(ρ k).blk)) (fun j g' w' hj=>⟨hj.1,fun hr=>⟨fun b hb=>(hj.2 hr).1 b (.inl hb),fun b hb=>(hj.2 hr).2 b (.inl hb)⟩⟩) _ _ _ ?_
     refine oT (D:=(·∈D)) ho hsel (fun c a w h=>(hQp _ _ _ h).elim) hDc (Inv:=Inv (ρ k).blk w.heap[(ρ k).blk]?) (fun g w _=>GR.refl _ _ _ _) fuel listed _ a w hfr hDu
      (fun j oj hoj hji hjD hjl g w g' w' hG hI=>Inv.step (hres' j hji hjD hjl (ybr.1 hoj).1) hG hI) hready' ?_ ⟨⟨hlt,.inl (.inr rfl)⟩,rfl⟩ (hZ _ _ _ h1 hB' hgood)
     refine .inl ⟨hw,fun w' ⟨g,hI⟩=>h3 w' ?_⟩
     intro b hb
     rw [hp] at hb
     obtain ⟨_,rfl⟩:=hb
     exact fun _=>hI.2
    | rp sz els ix f =>
     have hrd:rdB (.load n p) s.e bn=bn:=by
      have:ev s.e p=.rp sz els ix f:=by
       rcases Dd hEB p with h4|⟨b,h4⟩
       ·rw [←h4];exact hp
       ·rw [h4] at hp;cases hp
      simp only [rdB,this]
     refine oT (D:=(·∈D)) ho hsel (fun c a w h=>(hQp _ _ _ h).elim) hDc (Inv:=fun g w'=>∀ b,b<w.heap.size→¬Own ρ b→(b<w'.heap.size∧¬Own g.1 b)∧w'.heap[b]?=w.heap[b]?) (fun g w _=>GR.refl _ _ _ _) fuel listed _ a w hfr hDu
      (fun j oj hoj hji hjD hjl g w1 g' w2 hG hI b hb1 hb2=>?_) hready' ?_ (fun b hb1 hb2=>⟨⟨hb1,hb2⟩,rfl⟩) (hZ _ _ _ h1 (by rw [hrd];exact hB) hgood)
     ·obtain ⟨⟨h4,h5⟩,h6⟩:=hI b hb1 hb2
      have h7:=hG.1.keep b h4 h5
      exact ⟨⟨yaw h4 hG.1.size,h7.2⟩,h7.1.trans h6⟩
     ·refine .inl ⟨hw,fun w' ⟨g,hI⟩=>h3 w' ?_⟩
      intro b hb
      rw [hp] at hb
      exact fun _=>(hI b hb.1 hb.2).2
    | _=>exact absurd h' (by simp [aOp,hp,hJ])
   | _=>simp [lH] at hL
  ·have hL':lH op=false:=by simpa using hL
   have hrun:∀ w',(execOp a.eval o).run P w'=.ok (.value val) w':=fun w'=>h3 w' (by cases op<;>first|trivial|simp [lH] at hL')
   refine free val B (.inl ⟨hw,fun w' _=>hrun w'⟩) (hZ B _ _ h1 (by rw [Vy hL'];exact hB) hgood)
 ·have hh:(St.put { s with e:=e' } o.dst (.v (.tuple #[]))).h=s.h:=by cases o.dst<;>rfl
  have hgood:GoodAt ρ0 X w0 fx N ρ (St.put { s with e:=e' } o.dst (.v (.tuple #[]))) (a.put o.dst undef) w :=
   ⟨⟨hpre.1,by rw [hh];exact hpre.2⟩,⟨by rw [hh];exact hrep,eJ (e:=e') (x:=.v (.tuple #[])) (val:=undef) he' rfl (fun n hn=>by rw [hN];exact hd' n hn) _ rfl⟩,by rw [size_put];exact hN,by cases o.dst<;>exact hdf⟩
  have hB':BI ρ B (rdB op s.e bn) w:=fun b hb=>⟨(hB b hb).1,(hB b hb).2.imp (fun ⟨k,hk,hk'⟩=>⟨k,by
   unfold rdB
   split
   ·split
    ·exact yaI _ hk
    ·exact hk
   ·exact hk,hk'⟩) id⟩
  exact free undef B (.inr ⟨hw,rfl⟩) (hZ B _ _ h' hB' hgood)
theorem Tv {cx:Cx} (hcx:cx.ok P) (hfxe:cx.fx=fx) {ops:Array Oper} {rs:Nat→Bool} (hs:Region.noSelect ops=true) {Q:Exit→Act→World→Prop} (hQp:∀ c a w,¬Q (.panic c) a w) {K:St→Prop}
  (hQ:∀ s a w,K s→Good ρ0 X w0 fx N s a w→Q .normal a w) :
  ∀ (p0 p:LPlan) (listed:Array Bool) (fuel:Nat) (rem:Option (List Nat)),rlP P N ops rs p0 listed fuel rem=some p→∀ (bn:List Nat) (B:Nat→Prop) (ρ:Nat→Loc) (s:St) (a:Act) (w:World),
   BI ρ B bn w→GoodAt ρ0 X w0 fx N ρ s a w→awP cx p bn K s →
   (rem=none→fQ P .any ops Q (GR rs) fuel listed (ρ,B) a w) ∧
   (∀ l,rem=some l→∀ i∈l,wpOp P ops Q i (fun a' w'=>∃ g',GR rs i (ρ,B) w g' w'∧fQ P .any ops Q (GR rs) (fuel-1) (listed.setIfInBounds i true) g' a' w') a w):=by
 intro p0
 induction p0 with
 | done =>
  intro p listed fuel rem hm bn B ρ s a w hB hG h
  cases rem with
  | some l=>simp [rlP] at hm
  | none =>
   simp only [rlP] at hm
   split at hm
   ·rename_i hr
    simp only [yaa] at hm
    subst hm
    refine ⟨fun _=>Lq (List.isEmpty_iff.1 hr) (hQ s a w h ⟨ρ,hG⟩) fuel,fun l hl=>by cases hl⟩
   ·cases hm
 | none =>
  intro p listed fuel rem hm bn B ρ s a w hB hG h
  cases rem with
  | none=>simp [rlP] at hm
  | some l =>
   cases l with
   | nil=>exact ⟨fun h=>(by cases h),fun l hl i hi=>(by cases hl;simp at hi)⟩
   | cons _ _=>simp [rlP] at hm
 | take i D l p ih =>
  intro p1 listed fuel rem hm bn B ρ s a w hB hG h
  cases rem with
  | some l=>cases fuel<;>simp [rlP] at hm
  | none =>
   cases fuel with
   | zero=>simp [rlP] at hm
   | succ fuel =>
    simp only [rlP] at hm
    split at hm
    ·rename_i o ho
     split at hm
     ·rename_i op g p' h1 h2 h3 h4
      split at hm
      ·rename_i hok
       simp only [yaa] at hm
       subst hm
       refine ⟨fun _=>?_,fun l hl=>by cases hl⟩
       refine Sq (cx:=cx) (K:=fun s'=>awP cx p' (rdB op s.e bn) K s') hs hQp ho h1 h2 h3 hok hB hG h ?_
       intro B' s' a' hK hB' hG'
       exact (ih p' _ _ _ h4 _ _ _ _ _ _ hB' hG' hK).1 rfl
      ·cases hm
     ·cases hm
    ·cases hm
 | alt i l r p q ihp ihq =>
  intro p1 listed fuel rem hm bn B ρ s a w hB hG h
  cases fuel with
  | zero=>cases rem<;>simp [rlP] at hm
  | succ fuel =>
   simp only [rlP] at hm
   split at hm
   ·rename_i j js o hrem ho
    split at hm
    ·rename_i op g p' q' h1 h2 h3 h4 h5
     split at hm
     ·rename_i hc
      obtain ⟨rfl,hr⟩:=hc
      simp only [yaa] at hm
      subst hm
      have hall:∀ i∈j::js,wpOp P ops Q i (fun a' w'=>∃ g',GR rs i (ρ,B) w g' w'∧fQ P .any ops Q (GR rs) fuel (listed.setIfInBounds i true) g' a' w') a w:=by
       intro i hi
       rcases yaW.1 hi with rfl|hi
       ·refine Nv (K:=fun s'=>awP cx p' (if r then bn else []) K s') (Z:=fun g' a' w'=>fQ P .any ops Q (GR rs) fuel (listed.setIfInBounds i true) g' a' w') hcx hfxe ho h1 h2 h3 hr hB hG h.1 ?_
        intro ρ' B' s' a' w' hK hB' hG'
        exact (ihp p' _ _ _ h4 _ _ _ _ _ _ hB' hG' hK).1 rfl
       ·exact (ihq q' _ _ _ h5 _ _ _ _ _ _ hB hG h.2).2 js rfl i hi
      refine ⟨fun hn=>?_,fun l hl=>?_⟩
      ·subst hn
       simp only [Option.getD_none] at hrem
       exact ⟨fun h0=>(by rw [hrem] at h0;cases h0),by rw [hrem];exact hall⟩
      ·subst hl
       simp only [Option.getD_some] at hrem
       subst hrem
       exact hall
     ·cases hm
    ·cases hm
   ·cases hm
def rlT (P:Program) (N:Nat) (ops:Array Oper) (p:LPlan):Option LPlan :=
 if Region.noSelect ops then rlP P N ops (fun j=>!(Sx p).contains j) p (Array.replicate ops.size false) ops.size none else none
def uI (Q:Exit→Act→World→Prop):Exit→Act→World→Prop
 | .panic _,_,_=>False
 | e,a,w=>Q e a w
end
end Go.Fx
