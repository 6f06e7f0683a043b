import Derived.Test.YtebjeeogjepcaaaGreatDoorFxTree
import Derived.OrdersIn
import Derived.TacticsIn
import Derived.Sort.LoopGhostIn
import Derived.Test.YtebjeeogjepcaaaGreatDoorFxFrz
import Derived.OpenShut
import Derived.ChangeOld
import Derived.Below
import Derived.ProofKit
import Derived.JoinedCond
import Derived.Test.YtebjeeogjepcaaaGreatDoorProg
set_option linter.unusedVariables false
set_option linter.unusedSimpArgs false
set_option linter.unusedSectionVars false
open Option.some renaming injEq → yaa
open List renaming replicate → yab, getElem?_eq_some_iff → yae, mem_cons_of_mem → yaf, mem_cons_self → yag, getElem?_set_ne → yai, getElem?_cons_zero → yaj, all_eq_true → yak, mem_cons → yal, getElem?_append_left → yam, mem_of_getElem? → yar, getElem?_set_self → yat, length_eq_one_iff → yaw, mem_append_right → yax, nodup_cons → yaz, cons_append → yaB, getElem?_eq_none → yaC, contains_iff_mem → yaE, mem_append_left → yaG, append_nil → yaH, getElem?_append_right → yaI, getElem?_replicate → yaJ, getElem?_eq_getElem → yaK, getD_eq_getElem?_getD → yaL
open Bool renaming and_eq_true → yac, not_eq_true' → yao, false_ne_true → yaA, not_true → yaF
open Nat renaming le_refl → yad, zero_add → yan, zero_le → yas, lt_or_ge → yau, lt_of_lt_of_le → yay
open Array renaming replicate → yah, getD_eq_getD_getElem? → yav, getElem?_eq_some_iff → yaD, getElem?_eq_none → yaM
open Option renaming map_some → yap
open Prod.mk renaming injEq → yaq
namespace Go.Fx
open Go.RowKit
def rlY (P:Program) (op:Op) (l0:LOp):Option LOp :=
 match l0 with
 | .yld _ _=>match op with
  | .call c=>match c.callee with
   | .value f=>some (.yld f c.args.toList)
   | _=>none
  | _=>none
 | l0=>match rl P op l0 with
  | some (.yld _ _)=>none
  | r=>r
def dX (P:Program) (ops:Array Oper) (N:Nat):List Oper→List aR→Option (List aR)
 | [],[]=>some []
 | o::os,l::ls=>match rlY P o.op l.op,gOk ops N o.guard,dOk N o.dst,dX P ops N os ls with
  | some op,some g,true,some r=>some (⟨o.dst,op,g⟩::r)
  | _,_,_,_=>none
 | _,_=>none
def eA (o:Oper):Bool:=match o.op with
 | .defer _=>false
 | _=>true
def cU:Code→Bool
 | .region _ ops _=>ops.toList.all eA
 | .seq a b=>cU a&&cU b
 | .cond _ a b=>cU a&&cU b
 | .block _ a=>cU a
 | .loop a=>cU a
 | .rangeFunc _ _ a b=>cU a&&cU b
 | .skip|.label _|.ret|.exit _=>true
 | _=>false
def fN:LCode→Bool
 | .skip|.reg _ _|.tree _ _|.exit _|.ret|.bad=>true
 | .tail _ _ _|.qui _ _|.yreg _ _ _|.ytree _ _ _ _=>false
 | .seq a b=>fN a&&fN b
 | .cond _ a b=>fN a&&fN b
 | .block _ a=>fN a
 | .loop a=>fN a
 | .frz _ a=>fN a
 | .rfn _ _ a b=>fN a&&fN b
def o7 (P:Program) (N:Nat) (ops:Array Oper) (rs:Nat→Bool) (m:Nat):LPlan→Array Bool→Nat→Option (List Nat)→Option LPlan
 | .done,listed,fuel,none=>if fuel=0∧m<ops.size∧Region.seqB .any ops (ops.size-m) m listed=true then some .done else none
 | .take i D l p,listed,fuel+1,none=>match ops[i]? with
  | some o=>match rl P o.op l.op,gOk ops N o.guard,dOk N o.dst,o7 P N ops rs m p (listed.setIfInBounds i true) fuel none with
   | some op,some g,true,some p'=>if rC ops rs listed i D op&&D.contains m then some (.take i D ⟨o.dst,op,g⟩ p') else none
   | _,_,_,_=>none
  | none=>none
 | .alt i l r p q,listed,fuel+1,rem=>match rem.getD (Region.ready .any ops listed),ops[i]? with
  | j::js,some o=>match rl P o.op l.op,gOk ops N o.guard,dOk N o.dst,o7 P N ops rs m p (listed.setIfInBounds i true) fuel none,o7 P N ops rs m q listed (fuel+1) (some js) with
   | some op,some g,true,some p',some q'=>if j=i∧r=rs i then some (.alt i ⟨o.dst,op,g⟩ r p' q') else none
   | _,_,_,_,_=>none
  | _,_=>none
 | .none,_,_,some []=>some .none
 | _,_,_,_=>none
def Uy (P:Program) (N:Nat) (ops:Array Oper) (p:LPlan) (m:Nat):Option LPlan :=
 if Region.noSelect ops then o7 P N ops (fun j=>!(Jc p).contains j) m p (yah ops.size false) m none else none
def rlC (P:Program) (N:Nat):Code→LCode→Option LCode
 | .skip,_=>some .skip
 | .label _,_=>some .skip
 | .scope c,l=>rlC P N c l
 | .ret,_=>some .ret
 | .exit i,_=>some (.exit i)
 | .region _ ops draw,l=>match l with
  | .reg n ls=>match draw,d4 P ops N ops.toList ls with
   | false,some r=>some (.reg n r)
   | _,_=>none
  | .qui n ls=>match draw,d4 P ops N ops.toList ls with
   | true,some r=>if (r.all fun l=>aZ l.op)&&Region.lexB .any ops then some (.qui n r) else none
   | _,_=>none
  | .tail m n ls=>match draw,d4 P ops N ops.toList ls with
   | true,some r=>if ((r.take m).all fun l=>aZ l.op)&&Region.lexTailB .any ops m then some (.tail m n r) else none
   | _,_=>none
  | .tree n p=>match draw,rlT P N ops p with
   | true,some r=>some (.tree n r)
   | _,_=>none
  | .yreg m n ls=>match dX P ops N ops.toList ls with
   | some r=>if !draw||((r.take m).all fun l=>aZ l.op)&&Region.lexTailB .any ops m then some (.yreg (if draw then m else 0) n r) else none
   | _=>none
  | .ytree n p m ls=>match draw,Uy P N ops p m,dX P ops N (ops.toList.drop m) ls with
   | true,some p',some r=>if m<ops.size then some (.ytree n p' m r) else none
   | _,_,_=>none
  | .bad=>some .bad
  | _=>none
 | .seq a b,l=>match l with
  | .seq x y=>match rlC P N a x,rlC P N b y with
   | some x',some y'=>some (.seq x' y')
   | _,_=>none
  | .frz xs (.seq x y)=>match rlC P N a x,rlC P N b y with
   | some x',some y'=>some (.frz xs (.seq x' y'))
   | _,_=>none
  | .bad=>some .bad
  | _=>none
 | .cond c a b,l=>match l with
  | .cond _ x y=>match rlC P N a x,rlC P N b y with
   | some x',some y'=>some (.cond c x' y')
   | _,_=>none
  | _=>none
 | .block i a,l=>match l with
  | .block _ x=>match rlC P N a x with
   | some x'=>some (.block i x')
   | none=>none
  | _=>none
 | .loop a,l=>match l with
  | .loop x=>match rlC P N a x with
   | some x'=>some (.loop x')
   | none=>none
  | _=>none
 | .rangeFunc g ps asg body,l=>match l with
  | .rfn _ _ x y=>match rlC P N asg x,rlC P N body y with
   | some x',some y'=>if (ps.toList.all fun p=>decide (p<N))&&(cU asg&&cU body)&&(fN x'&&fN y') then some (.rfn g ps.toList x' y') else none
   | _,_=>none
  | _=>none
 | _,_=>none
section
variable [DBase] {P:Program} {ρ0:Nat→Loc} {X:Nat→Prop} {w0:World} {fx:List Nat} {N:Nat}
theorem Fh:∀ {p:Env} {e:Env},leE e p→∀ i,get p i=.any∨get p i=get e i
 | [],_,_,_=>.inl rfl
 | (j,x)::r,e,h,i=>by
  simp only [get]
  split
  ·rename_i hi
   subst hi
   exact .inr h.1.symm
  ·exact Fh h.2 i
theorem Id:∀ {h p:List Blk},leH h p→∀ (k:Nat) (B:Blk),p[k]?=some B→∃ A,h[k]?=some A∧leB A B
 | _,[],_,k,B,hB=>by simp at hB
 | a::h,c::p,hl,0,B,hB=>by
  simp only [yaj,yaa] at hB
  subst hB
  exact ⟨a,rfl,hl.1⟩
 | a::h,c::p,hl,k+1,B,hB=>by
  obtain ⟨A,h1,h2⟩:=Id (h:=h) (p:=p) hl.2 k B (by simpa using hB)
  exact ⟨A,by simpa using h1,h2⟩
 | [],_::_,hl,_,_,_=>hl.elim
theorem Db {ρ:Nat→Loc} {w:World}:∀ {xs ys:List V} {vs:List Value},c7 xs ys→a7 ρ X w xs vs→a7 ρ X w ys vs
 | [],[],_,_,h=>h
 | x::xs,y::ys,u::us,hl,h=>by
  refine ⟨?_,Db hl.2 h.2⟩
  have h1:=hl.1
  unfold leV at h1
  split at h1
  ·trivial
  ·subst h1;exact h.1
 | _::_,_::_,[],_,h=>h.elim
 | [],_::_,_,hl,_=>hl.elim
 | _::_,[],_,hl,_=>hl.elim
def cO (ρ:Nat→Loc) (p:List Blk) (k:Nat):Loc :=
 match p[k]? with
 | some .dead=>{ ρ k with real:=false }
 | some _=>ρ k
 | none=>{ ρ k with real:=false }
theorem iW {ρ:Nat→Loc} {p:List Blk} {b:Nat} (h:Own (cO ρ p) b):Own ρ b:=by
 obtain ⟨k,h1,h2⟩:=h
 unfold cO at h1 h2
 split at h1
 ·cases h1
 ·exact ⟨k,h1,by simp_all⟩
 ·cases h1
theorem bZ {ρ:Nat→Loc} {p:List Blk} {k:Nat} (h:aB p k):cO ρ p k=ρ k:=by
 unfold aB at h
 unfold cO
 cases hb:p[k]? with
 | none=>rw [hb] at h;exact h.elim
 | some B=>rw [hb] at h;cases B<;>first|rfl|exact h.elim
theorem mQ {ρ:Nat→Loc} {w:World} {p:List Blk}:∀ b,Sta ρ X w b→Sta (cO ρ p) X w b∧w.heap[b]?=w.heap[b]? :=
 fun _ h=>⟨⟨h.1,fun ho=>h.2.1 (iW ho),h.2.2⟩,rfl⟩
theorem vL {ρ:Nat→Loc} {w:World} {p:List Blk} {b:Nat} (h:Len ρ w b):Len (cO ρ p) w b:=⟨h.1,fun ho=>h.2 (iW ho)⟩
mutual
theorem eE {ρ:Nat→Loc} {w:World} {p:List Blk}:∀ (x:V) (val:Value),wfV p x→aK ρ X w x val→aK (cO ρ p) X w x val
 | .any,_,_,_=>trivial
 | .v _,_,_,hx=>hx
 | .ro sz els,val,_,hx=>c5 mQ (.ro sz els) val hx
 | .bro sz els,val,_,hx=>by
  obtain ⟨a,len,cap,h1,h2,h3,h4,h5⟩:=hx
  refine ⟨a,len,cap,h1,h2,h3,h4,h5.imp id ?_⟩
  rintro ⟨b,off,h6,h7,h8⟩
  exact ⟨b,off,h6,vL h7,aJ mQ sz b rfl off els h8⟩
 | .full sz els,val,_,hx=>by
  obtain ⟨a,len,h1,h2,h4,h5⟩:=hx
  refine ⟨a,len,h1,h2,h4,h5.imp id ?_⟩
  rintro ⟨b,off,h6,h7,h8⟩
  exact ⟨b,off,h6,vL h7,aJ mQ sz b rfl off els h8⟩
 | .rp sz els i f,val,_,hx=>by
  obtain ⟨b,off,h6,h7,h8⟩:=hx
  exact ⟨b,off,h6,vL h7,aJ mQ sz b rfl off els h8⟩
 | .sl k i n,val,hw,hx=>by
  obtain ⟨cap,h1,h2,h3⟩:=hx
  refine ⟨cap,h1,h2,?_⟩
  rw [bZ hw]
  exact h3
 | .ptr k i f,val,hw,hx=>by
  simp only [aK]
  rw [bZ hw]
  exact hx
 | .agg cs,val,hw,hx=>by
  obtain ⟨arr,h1,h2⟩:=hx
  exact ⟨arr,h1,fV cs _ hw h2⟩
 | .tup cs,val,hw,hx=>by
  obtain ⟨arr,h1,h2⟩:=hx
  exact ⟨arr,h1,fV cs _ hw h2⟩
 | .clo f cs,val,hw,hx=>by
  obtain ⟨arr,h1,h2⟩:=hx
  exact ⟨arr,h1,fV cs _ hw h2⟩
 | .mp k,val,hw,hx=>by
  simp only [aK]
  rw [bZ hw]
  exact hx
 | .itr k,val,hw,hx=>by
  simp only [aK]
  rw [bZ hw]
  exact hx
theorem fV {ρ:Nat→Loc} {w:World} {p:List Blk}:∀ (xs:List V) (vs:List Value),wfL p xs→a7 ρ X w xs vs→a7 (cO ρ p) X w xs vs
 | [],[],_,_=>trivial
 | x::r,u::us,hw,hx=>⟨eE x u hw.1 hx.1,fV r us hw.2 hx.2⟩
 | [],_::_,_,hx=>hx.elim
 | _::_,[],_,hx=>hx.elim
end
theorem tH {h:List Blk}:∀ {e:Env},wfE h e→∀ i,wfV h (get e i)
 | [],_,_=>trivial
 | (j,x)::r,hw,i=>by
  simp only [get]
  split
  ·exact hw.1
  ·exact tH hw.2 i
theorem Gt {h:List Blk}:∀ {l:List Blk},wfB h l→∀ (k:Nat) (cs:List V),l[k]?=some (Blk.var cs)→wfL h cs
 | b::r,hw,0,cs,hk=>by
  simp only [yaj,yaa] at hk
  subst hk
  exact hw.1
 | b::r,hw,k+1,cs,hk=>by
  have:wfB h r:=by cases b<;>first|exact hw|exact hw.2
  exact Gt this k cs (by simpa using hk)
 | [],_,_,_,hk=>by simp at hk
theorem Gp {h:List Blk}:∀ {xs:List V},wfL h xs→∀ {x:V},x∈xs→wfV h x
 | y::r,hw,x,hx=>by
  rcases yal.1 hx with rfl|hx
  ·exact hw.1
  ·exact Gp hw.2 hx
 | [],_,_,hx=>by simp at hx
theorem oR {h:List Blk} {b:Blk} {r:List Blk} (hw:wfB h (b::r)):wfB h r:=by cases b<;>first|exact hw|exact hw.2
theorem Gu {h:List Blk}:∀ {l:List Blk},wfB h l→∀ (k:Nat) (sz:Nat) (els:List (List V)),l[k]?=some (Blk.arv sz els)→wfL h els.flatten
 | b::r,hw,0,sz,els,hk=>by
  simp only [yaj,yaa] at hk
  subst hk
  exact hw.1
 | b::r,hw,k+1,sz,els,hk=>Gu (oR hw) k sz els (by simpa using hk)
 | [],_,_,_,_,hk=>by simp at hk
theorem Gs {h:List Blk}:∀ {l:List Blk},wfB h l→∀ (k:Nat) (es:List (Value × V × Nat)) (c:Nat),l[k]?=some (Blk.map es c)→wfL h (es.map (·.2.1))
 | b::r,hw,0,sz,els,hk=>by
  simp only [yaj,yaa] at hk
  subst hk
  exact hw.1
 | b::r,hw,k+1,sz,els,hk=>Gs (oR hw) k sz els (by simpa using hk)
 | [],_,_,_,_,hk=>by simp at hk
theorem Ko {h:List Blk}:∀ {l:List Blk},wfB h l→∀ (k:Nat) (m:V) (s:Nat) (sn:List Nat) (c:Nat),l[k]?=some (Blk.it m s sn c)→wfV h m
 | b::r,hw,0,m,s,sn,c,hk=>by
  simp only [yaj,yaa] at hk
  subst hk
  exact hw.1
 | b::r,hw,k+1,m,s,sn,c,hk=>Ko (oR hw) k m s sn c (by simpa using hk)
 | [],_,_,_,_,_,_,hk=>by simp at hk
theorem Gr {h:List Blk}:∀ {l:List Blk},wfB h l→∀ (k:Nat) (t:RS) (e:Env),l[k]?=some (Blk.rcd t e)→wfE h e
 | b::r,hw,0,t,e,hk=>by
  simp only [yaj,yaa] at hk
  subst hk
  exact hw.1
 | b::r,hw,k+1,t,e,hk=>Gr (oR hw) k t e (by simpa using hk)
 | [],_,_,_,_,hk=>by simp at hk
theorem gE {ρ:Nat→Loc} {w:World} {p:List Blk}:Fr ρ w (cO ρ p) w:=⟨rfl,rfl,rfl,yad _,fun _ _ ho=>⟨rfl,fun h=>ho (iW h)⟩⟩
theorem lO {ρ:Nat→Loc} {w:World} {h p:List Blk} (hr:Rep ρ X w h) (hl:leH h p) (hw:wfB p p):Rep (cO ρ p) X w p:=by
 have hreal:∀ k,(cO ρ p k).real=true→aB p k:=by
  intro k hk
  unfold cO at hk
  unfold aB
  cases hb:p[k]? with
  | none=>rw [hb] at hk;cases hk
  | some B=>rw [hb] at hk;cases B<;>first|trivial|cases hk
 refine ⟨?_,?_,?_,?_,?_,hr.xlt⟩
 ·intro i j hij hi hj
  have h1:=hreal i hi
  have h2:=hreal j hj
  rw [bZ h1] at hi ⊢
  rw [bZ h2] at hj ⊢
  exact hr.inj i j hij hi hj
 ·intro k hk
  have:p[k]?=none:=by simpa using hk
  simp [cO,this]
 ·intro k B hB
  obtain ⟨A,hA,hAB⟩:=Id hl k B hB
  have hrA:=hr.blk k A hA
  cases B with
  | dead=>simp [aQ,cO,hB]
  | arr sz els =>
   have hAB':A=.arr sz els:=hAB
   subst hAB'
   have hlive:aB p k:=by simp [aB,hB]
   simp only [aQ] at hrA ⊢
   rw [bZ hlive]
   refine ⟨hrA.1,hrA.2.imp id ?_⟩
   rintro ⟨h1,c,T,h2,h3,h4,h5⟩
   exact ⟨h1,c,T,h2,h3,h4,aJ mQ sz _ rfl _ _ h5⟩
  | var ys =>
   cases A with
   | var xs =>
    have hlive:aB p k:=by simp [aB,hB]
    simp only [aQ] at hrA ⊢
    rw [bZ hlive]
    obtain ⟨h1,c,T,h2,h3⟩:=hrA
    exact ⟨h1,c,T,h2,fV _ _ (Gt hw k ys hB) (Db hAB h3.1),h3.2⟩
   | _=>exact hAB.elim
  | arv sz els =>
   have hAB':A=.arv sz els:=hAB
   subst hAB'
   have hlive:aB p k:=by simp [aB,hB]
   simp only [aQ] at hrA ⊢
   rw [bZ hlive]
   obtain ⟨h0,h1,c,T,h2,h3,h4,h5⟩:=hrA
   refine ⟨h0,h1,c,T,h2,h3,h4,fun i e he=>⟨(h5 i e he).1,fun f x hx=>?_⟩⟩
   obtain ⟨u,h6,h7⟩:=(h5 i e he).2 f x hx
   exact ⟨u,h6,eE _ _ (Gp (Gu hw k sz els hB) (List.mem_flatten.2 ⟨e,yar he,yar hx⟩)) h7⟩
  | map es cl =>
   have hAB':A=.map es cl:=hAB
   subst hAB'
   have hlive:aB p k:=by simp [aB,hB]
   simp only [aQ] at hrA ⊢
   rw [bZ hlive]
   obtain ⟨h1,arr,h2,h3,h4⟩:=hrA
   exact ⟨h1,arr,h2,h3,fV _ _ (Gs hw k es cl hB) h4⟩
  | it m s sn l =>
   have hAB':A=.it m s sn l:=hAB
   subst hAB'
   have hlive:aB p k:=by simp [aB,hB]
   simp only [aQ] at hrA ⊢
   rw [bZ hlive]
   obtain ⟨h1,x,h2,h3⟩:=hrA
   exact ⟨h1,x,h2,eE _ _ (Ko hw k m s sn l hB) h3⟩
  | rcd t p' =>
   cases A with
   | rcd t' e =>
    obtain ⟨rfl,hle⟩:t'=t∧(e=p'∨leE e p'):=hAB
    have hlive:aB p k:=by simp [aB,hB]
    simp only [aQ] at hrA ⊢
    rw [bZ hlive]
    refine ⟨hrA.1,fun i=>?_⟩
    have hwf:=tH (Gr hw k t' p' hB) i
    rcases hle with rfl|hle
    ·exact eE _ _ hwf (hrA.2 i)
    rcases Fh hle i with hg|hg
    ·rw [hg];trivial
    ·exact eE _ _ hwf (by rw [hg];exact hrA.2 i)
   | _=>exact hAB.elim
 ·rintro b ho hx
  exact hr.disj b (iW ho) hx
 ·intro k hk
  have hl':=hreal k hk
  rw [bZ hl'] at hk ⊢
  exact hr.lt k hk
theorem Good.le {s p:St} {a:Act} {w:World} (h:Good ρ0 X w0 fx N s a w) (hl:leS fx s p):Good ρ0 X w0 fx N p a w:=by
 obtain ⟨ρ,⟨⟨hf,h1⟩,hk⟩,⟨hr,he⟩,h5,h5m⟩:=h
 obtain ⟨l1,l2,l3,l4,l5⟩:=hl
 refine ⟨cO ρ p.h,⟨⟨hf.trans gE,fun k hk'=>by rw [bZ (aN l3 k hk')];exact h1 k hk'⟩,l3⟩,⟨lO hr l2 l5,fun i=>?_⟩,h5,h5m.fr gE⟩
 have hwf:=tH l4 i
 rcases Fh l1 i with hg|hg
 ·rw [hg];trivial
 ·exact eE _ _ hwf (by rw [hg];exact he i)
theorem cJ:∀ xs:List V,c7 xs xs
 | []=>trivial
 | x::xs=>⟨by unfold leV;split<;>trivial,cJ xs⟩
theorem bF (b:Blk):leB b b:=by
 cases b with
 | dead=>trivial
 | var xs=>exact cJ xs
 | rcd t e=>exact ⟨rfl,.inl rfl⟩
 | _=>rfl
theorem cH:∀ h:List Blk,leH h h
 | []=>trivial
 | b::h=>⟨bF b,cH h⟩
theorem Dc:∀ (h:List Blk) (n:Nat) (B:Blk),leH (h.set n B) (h.set n .dead)
 | [],_,_=>trivial
 | b::h,0,B=>⟨trivial,cH h⟩
 | b::h,n+1,B=>⟨bF b,Dc h n B⟩
theorem Good.leH {s:St} {p:List Blk} {a:Act} {w:World} (h:Good ρ0 X w0 fx N s a w) (l2:leH s.h p) (l3:aC fx p) (l4:wfE p s.e) (l5:wfB p p):Good ρ0 X w0 fx N { s with h:=p } a w:=by
 obtain ⟨ρ,⟨⟨hf,h1⟩,hk⟩,⟨hr,he⟩,h5,h5m⟩:=h
 exact ⟨cO ρ p,⟨⟨hf.trans gE,fun k hk'=>by rw [bZ (aN l3 k hk')];exact h1 k hk'⟩,l3⟩,⟨lO hr l2 l5,fun i=>eE _ _ (tH l4 i) (he i)⟩,h5,h5m.fr gE⟩
theorem Good.give {s:St} {M:Nat→Bool} {a:Act} {w:World} (h:Good ρ0 X w0 fx N s a w) (hM:∀ k∈fx,M k=false):Good ρ0 X w0 fx N (s.give M) a w:=by
 obtain ⟨ρ,⟨⟨g1,g2⟩,g3⟩,⟨g4,g5⟩,g6⟩:=h
 exact ⟨dF ρ M,⟨⟨g1.trans sT,fun j hj=>by rw [lZ (by rw [hM j hj];simp)];exact g2 j hj⟩,c8 fun j hj=>Jn (aN g3 j hj) (hM j hj)⟩,
  ⟨Ri g4,fun i=>by show aK _ _ _ (get (gvE M s.h s.e) i) _;rw [Ao];exact rT g4 _ _ (g5 i)⟩,g6.1,g6.2.fr sT⟩
theorem uT {ρ:Nat→Loc} {w:World} {x y:V} {val:Value} (hc:y8 x y) (h:aK ρ X w x val):aK ρ X w y val:=by
 rcases hc with rfl|⟨rfl,k,rfl⟩
 ·exact h
 ·have:val=.slice none 0 0:=h
  subst this
  exact ⟨0,yad _,yas _,.inl ⟨rfl,none,rfl⟩⟩
theorem Hl {ρ:Nat→Loc} {w:World}:∀ {xs ys:List V} {vs:List Value},Fb xs ys→a7 ρ X w xs vs→a7 ρ X w ys vs
 | [],ys,[],hr,h=>by
  have:ys=[]:=List.eq_nil_of_length_eq_zero hr.1
  subst this;trivial
 | x::xs,[],v::vs,hr,h=>by have:=hr.1;simp at this
 | x::xs,y::ys,v::vs,hr,h =>
  ⟨uT (hr.2 0 x y rfl rfl) h.1,Hl (xs:=xs) (ys:=ys) ⟨by simpa using hr.1,fun i a b h1 h2=>hr.2 (i+1) a b (by simpa using h1) (by simpa using h2)⟩ h.2⟩
 | [],_,_::_,_,h=>h.elim
 | _::_,_,[],_,h=>h.elim
theorem w4 {ρ ρ':Nat→Loc} {w:World} (hf:Fr ρ w ρ' w) (hag:∀ k,(ρ k).real=true→ρ' k=ρ k) {k:Nat} (hk:ρ' k=ρ k) {B:Blk} (h:aQ ρ X w k B):aQ ρ' X w k B:=by
 cases B with
 | dead=>simp only [aQ] at h ⊢;rw [hk];exact h
 | arr s es =>
  simp only [aQ] at h ⊢
  rw [hk]
  refine ⟨h.1,h.2.imp id ?_⟩
  rintro ⟨h1,c,T,h2,h3,h4,h5⟩
  exact ⟨h1,c,T,h2,h3,h4,aJ hf.sta s _ rfl _ _ h5⟩
 | var cs =>
  simp only [aQ] at h ⊢
  rw [hk]
  obtain ⟨h1,c,T,h2,h3⟩:=h
  exact ⟨h1,c,T,h2,dN hf hag _ _ h3.1,h3.2⟩
 | arv s es =>
  simp only [aQ] at h ⊢
  rw [hk]
  obtain ⟨h0,h1,c,T,h2,h3,h4,h5⟩:=h
  exact ⟨h0,h1,c,T,h2,h3,h4,fun i e he=>⟨(h5 i e he).1,fun f x hx=>by obtain ⟨u,h6,h7⟩:=(h5 i e he).2 f x hx;exact ⟨u,h6,bK hf hag _ _ h7⟩⟩⟩
 | map es cl =>
  simp only [aQ] at h ⊢
  rw [hk]
  obtain ⟨h1,arr,h2,h3,h4⟩:=h
  exact ⟨h1,arr,h2,h3,dN hf hag _ _ h4⟩
 | it m s sn l =>
  simp only [aQ] at h ⊢
  rw [hk]
  obtain ⟨h1,x,h2,h3⟩:=h
  exact ⟨h1,x,h2,bK hf hag _ _ h3⟩
 | rcd t e =>
  simp only [aQ] at h ⊢
  rw [hk]
  exact ⟨h.1,fun i=>bK hf hag _ _ (h.2 i)⟩
theorem Good.setB {s:St} {a:Act} {w:World} {j:Nat} {B C:Blk} (h:Good ρ0 X w0 fx N s a w) (hb:s.h[j]?=some B) (hl:aB [C] 0) (hC:∀ ρ,aQ ρ X w j B→aQ ρ X w j C):Good ρ0 X w0 fx N { s with h:=s.h.set j C } a w:=by
 obtain ⟨ρ,⟨⟨g1,g2⟩,g3⟩,⟨g4,g5⟩,g6⟩:=h
 have hjl:=(yae.1 hb).1
 refine ⟨ρ,⟨⟨g1,g2⟩,c8 fun k hk=>?_⟩,⟨⟨g4.inj,fun k hk=>g4.out k (by simpa using hk),fun k D hD=>?_,g4.disj,g4.lt,g4.xlt⟩,g5⟩,g6⟩
 ·have:=aN g3 k hk
  unfold aB at this ⊢
  by_cases hkj:j=k
  ·subst hkj
   rw [yat hjl]
   cases C<;>first|exact hl.elim|trivial
  ·rw [yai hkj];exact this
 ·by_cases hkj:j=k
  ·subst hkj
   rw [yat hjl] at hD
   simp only [yaa] at hD
   subst hD
   exact hC ρ (g4.blk j B hb)
  ·rw [yai hkj] at hD
   exact g4.blk k D hD
def eN (ρ:Nat→Loc) (n m sz k:Nat):Loc:=if n≤k∧k<n+m then { ρ k with real:=false,sz:=sz } else ρ k
theorem Good.virt {s:St} {a:Act} {w:World} (m sz:Nat) (hz:0<sz) (h:Good ρ0 X w0 fx N s a w):Good ρ0 X w0 fx N { s with h:=s.h++yab m (.arr sz []) } a w:=by
 obtain ⟨ρ,⟨⟨g1,g2⟩,g3⟩,⟨g4,g5⟩,g6⟩:=h
 have hreal:∀ k,(eN ρ s.h.length m sz k).real=true→(ρ k).real=true∧eN ρ s.h.length m sz k=ρ k:=by
  intro k hk
  unfold eN at hk ⊢
  split at hk
  ·cases hk
  ·rename_i hn;rw [if_neg hn];exact ⟨hk,rfl⟩
 have hag:∀ k,(ρ k).real=true→eN ρ s.h.length m sz k=ρ k:=by
  intro k hk
  unfold eN
  rw [if_neg]
  rintro ⟨h1,_⟩
  rw [g4.out k h1] at hk
  cases hk
 have hown:∀ b,Own (eN ρ s.h.length m sz) b→Own ρ b:=by
  rintro b ⟨k,h1,h2⟩
  have:=hreal k h1
  rw [this.2] at h2
  exact ⟨k,this.1,h2⟩
 have hf:Fr ρ w (eN ρ s.h.length m sz) w:=⟨rfl,rfl,rfl,yad _,fun _ _ ho=>⟨rfl,fun h=>ho (hown _ h)⟩⟩
 have hlt:∀ k,k<s.h.length→eN ρ s.h.length m sz k=ρ k:=fun k hk=>by unfold eN;rw [if_neg (by omega)]
 refine ⟨eN ρ s.h.length m sz,⟨⟨g1.trans hf,fun k hk=>?_⟩,c8 fun k hk=>?_⟩,⟨⟨?_,fun k hk=>?_,fun k D hD=>?_,fun b ho=>g4.disj b (hown b ho),fun k hk=>?_,g4.xlt⟩,fun i=>bK hf hag _ _ (g5 i)⟩,g6.1,g6.2.fr hf⟩
 ·have hl:=aN g3 k hk
  have:k<s.h.length:=by
   unfold aB at hl
   cases hb:s.h[k]? with
   | none=>rw [hb] at hl;exact hl.elim
   | some B=>exact (yae.1 hb).1
  rw [hlt k this];exact g2 k hk
 ·have hl:=aN g3 k hk
  unfold aB at hl ⊢
  cases hb:s.h[k]? with
  | none=>rw [hb] at hl;exact hl.elim
  | some B =>
   show (match (s.h++yab m (Blk.arr sz []))[k]? with|some Blk.dead=>False|some _=>True|none=>False)
   rw [yam (yae.1 hb).1]
   rw [hb] at hl ⊢
   exact hl
 ·intro i j hij hi hj
  have h1:=hreal i hi
  have h2:=hreal j hj
  rw [h1.2,h2.2]
  exact g4.inj i j hij h1.1 h2.1
 ·simp only [List.length_append,List.length_replicate] at hk
  have:=g4.out k (by omega)
  unfold eN
  split
  ·rfl
  ·exact this
 ·by_cases hkl:k<s.h.length
  ·rw [yam hkl] at hD
   exact w4 hf hag (hlt k hkl) (g4.blk k D hD)
  ·rw [yaI (by omega),yaJ] at hD
   split at hD
   ·rename_i hm
    simp only [yaa] at hD
    subst hD
    simp only [aQ,eN]
    rw [if_pos (by omega)]
    exact ⟨⟨rfl,hz⟩,.inl ⟨rfl,trivial⟩⟩
   ·cases hD
 ·have h1:=hreal k hk
  rw [h1.2];exact g4.lt k h1.1
theorem Good.virtAt {s:St} {a:Act} {w:World} (k sz:Nat) (hz:0<sz) (hk:s.h[k]?=some .dead) (h:Good ρ0 X w0 fx N s a w):Good ρ0 X w0 fx N { s with h:=s.h.set k (.arr sz []) } a w:=by
 obtain ⟨ρ,⟨⟨g1,g2⟩,g3⟩,⟨g4,g5⟩,g6⟩:=h
 have hkl:=(yae.1 hk).1
 have hkd:(ρ k).real=false:=by simpa [aQ] using g4.blk k _ hk
 have hne:∀ j,j≠k→upd ρ k { ρ k with sz:=sz } j=ρ j:=fun j hj=>aH _ _ hj
 have hreal:∀ j,(upd ρ k { ρ k with sz:=sz } j).real=(ρ j).real:=by
  intro j
  by_cases hj:j=k
  ·subst hj;rw [upd_same]
  ·rw [hne j hj]
 have hag:∀ j,(ρ j).real=true→upd ρ k { ρ k with sz:=sz } j=ρ j:=by
  intro j hj
  refine hne j fun e=>?_
  rw [e,hkd] at hj;cases hj
 have hown:∀ b,Own (upd ρ k { ρ k with sz:=sz }) b→Own ρ b:=by
  rintro b ⟨j,h1,h2⟩
  rw [hreal] at h1
  rw [hag j h1] at h2
  exact ⟨j,h1,h2⟩
 have hf:Fr ρ w (upd ρ k { ρ k with sz:=sz }) w:=⟨rfl,rfl,rfl,yad _,fun _ _ ho=>⟨rfl,fun h=>ho (hown _ h)⟩⟩
 have hnf:∀ j∈fx,j≠k:=by
  intro j hj e
  have:=aN g3 j hj
  rw [e] at this
  unfold aB at this
  rw [hk] at this
  exact this
 refine ⟨_,⟨⟨g1.trans hf,fun j hj=>(hne j (hnf j hj)).trans (g2 j hj)⟩,c8 fun j hj=>?_⟩,⟨⟨?_,fun j hj=>?_,fun j D hD=>?_,fun b ho=>g4.disj b (hown b ho),fun j hj=>?_,g4.xlt⟩,fun i=>bK hf hag _ _ (g5 i)⟩,g6.1,g6.2.fr hf⟩
 ·have:=aN g3 j hj
  unfold aB at this ⊢
  rw [yai (fun e=>hnf j hj e.symm)];exact this
 ·intro a b hab ha hb
  rw [hreal] at ha hb
  rw [hag a ha,hag b hb]
  exact g4.inj a b hab ha hb
 ·rw [hreal]
  exact g4.out j (by simpa using hj)
 ·by_cases hkj:k=j
  ·subst hkj
   rw [yat hkl] at hD
   simp only [yaa] at hD
   subst hD
   simp only [aQ,upd_same]
   exact ⟨⟨trivial,hz⟩,.inl ⟨hkd,trivial⟩⟩
  ·rw [yai hkj] at hD
   exact w4 hf hag (hne j fun e=>hkj e.symm) (g4.blk j D hD)
 ·rw [hreal] at hj
  rw [hag j hj];exact g4.lt j hj
theorem Good.mv {s:St} {a:Act} {w:World} (i j:Nat) (B:Blk) (hij:i≠j) (hi:s.h[i]?=some .dead) (hj:s.h[j]?=some B) (hjf:j∉fx) (h:Good ρ0 X w0 fx N s a w) :
  Good ρ0 X w0 fx N { s with e:=mvE i j s.e,h:=((s.h.map (mvB i j)).set i (mvB i j B)).set j .dead } a w:=by
 obtain ⟨ρ,⟨⟨g1,g2⟩,g3⟩,⟨g4,g5⟩,g6⟩:=h
 have hid:(ρ i).real=false:=by simpa [aQ] using g4.blk i _ hi
 have hnf:∀ k∈fx,k≠i∧k≠j:=by
  intro k hk
  refine ⟨fun e=>?_,fun e=>hjf (e▸hk)⟩
  have:=aN g3 k hk
  rw [e] at this
  unfold aB at this
  rw [hi] at this
  exact this
 refine ⟨dK ρ i j,⟨⟨g1.trans (xU hid),fun k hk=>?_⟩,c8 fun k hk=>?_⟩,⟨aaB g4 hij hi hj,fun t=>?_⟩,g6.1,g6.2.fr (xU hid)⟩
 ·have:=hnf k hk
  unfold dK
  rw [if_neg this.1,if_neg this.2];exact g2 k hk
 ·have h1:=hnf k hk
  have:=aN g3 k hk
  unfold aB at this ⊢
  rw [yai (fun e=>h1.2 e.symm),yai (fun e=>h1.1 e.symm),List.getElem?_map]
  cases hb:s.h[k]? with
  | none=>rw [hb] at this;exact this.elim
  | some C=>rw [hb] at this;cases C<;>first|exact this.elim|trivial
 ·show aK _ _ _ (get (mvE i j s.e) t) _
  rw [An];exact uV hid _ _ (g5 t)
theorem Good.ghost {s s':St} {a:Act} {w:World} (hg:dR fx s s') (h:Good ρ0 X w0 fx N s a w):Good ρ0 X w0 fx N s' a w:=by
 induction hg with
 | refl s=>exact h
 | le hl _ ih=>exact ih (h.le hl)
 | give M hM _ ih=>exact ih (h.give hM)
 | virtAt k sz hz hk _ ih=>exact ih (h.virtAt k sz hz hk)
 | mv i j B hij hi hj hf _ ih=>exact ih (h.mv i j B hij hi hj hf)
 | virt n sz hz _ ih=>exact ih (h.virt n sz hz)
 | nilE i k hn _ ih =>
  refine ih ?_
  obtain ⟨ρ,g1,⟨g4,g5⟩,g6⟩:=h
  refine ⟨ρ,g1,⟨g4,fun j=>?_⟩,g6⟩
  show aK ρ X w (if j=i then .sl k 0 0 else get _ j) _
  by_cases hj:j=i
  ·subst hj
   rw [if_pos rfl]
   exact uT (.inr ⟨rfl,k,rfl⟩) (hn▸g5 j)
  ·rw [if_neg hj];exact g5 j
 | nilB j xs ys hb hr _ ih =>
  refine ih (h.setB hb trivial fun ρ hB=>?_)
  simp only [aQ] at hB ⊢
  obtain ⟨h1,c,T,h2,h3⟩:=hB
  exact ⟨h1,c,T,h2,Hl hr h3.1,h3.2⟩
 | nilW j sz xs ys hb hr _ ih =>
  refine ih (h.setB hb trivial fun ρ hB=>?_)
  simp only [aQ] at hB ⊢
  obtain ⟨h0,h1,c,T,h2,h3,h4,h5⟩:=hB
  refine ⟨h0,h1,c,T,h2,h3,by rw [hr.1];exact h4,fun i e he=>?_⟩
  have hil:i<xs.length:=by rw [←hr.1];exact (yae.1 he).1
  have hx:xs[i]?=some xs[i]:=yaK hil
  have hrow:=hr.2 i _ _ hx he
  obtain ⟨h6,h7⟩:=h5 i _ hx
  refine ⟨hrow.1.trans h6,fun f y hy=>?_⟩
  have hfl:f<xs[i].length:=by rw [←hrow.1];exact (yae.1 hy).1
  have hxf:xs[i][f]?=some xs[i][f]:=yaK hfl
  obtain ⟨u,h8,h9⟩:=h7 f _ hxf
  exact ⟨u,h8,uT (hrow.2 f _ _ hxf hy) h9⟩
 | opn j sz els hb hn _ ih =>
  refine ih (h.setB hb trivial fun ρ hB=>?_)
  simp only [aQ] at hB ⊢
  obtain ⟨h0,⟨_,h1⟩|⟨h1,c,T,h2,h3,h4,h5⟩⟩:=hB
  ·exact absurd h1 hn
  refine ⟨h0,h1,c,T,h2,h3,h4,fun i e he=>?_⟩
  obtain ⟨q1,q2⟩:=dU h5 he
  refine ⟨q1,fun f x hx=>?_⟩
  obtain ⟨u,q3,q4⟩:=f7 q2 hx
  exact ⟨u,by simpa [World.cell?,h2] using q3,k0 q4⟩
 | cls j sz els hb hd _ ih =>
  refine ih (h.setB hb trivial fun ρ hB=>?_)
  simp only [aQ] at hB ⊢
  obtain ⟨h0,h1,c,T,h2,h3,h4,h5⟩:=hB
  refine ⟨h0,.inr ⟨h1,c,T,h2,h3,h4,dO fun i e he=>?_⟩⟩
  obtain ⟨q1,q2⟩:=h5 i e he
  refine ⟨q1,k9 fun f x hx=>?_⟩
  obtain ⟨u,q3,q4⟩:=q2 f x hx
  exact ⟨u,by simpa [World.cell?,h2] using q3,k7 (yak.1 (hd e (yar he)) x (yar hx)) q4⟩
 | shr j sz n els hb _ ih =>
  refine ih (h.setB hb trivial fun ρ hB=>?_)
  simp only [aQ] at hB ⊢
  obtain ⟨h0,⟨h1,h2⟩|⟨h1,c,T,h2,h3,h4,h5⟩⟩:=hB
  ·exact ⟨h0,.inl ⟨h1,by rw [h2];simp⟩⟩
  ·refine ⟨h0,.inr ⟨h1,c,T,h2,h3,Nat.le_trans (Nat.add_le_add_left (Nat.mul_le_mul_right _ (by rw [List.length_take];omega)) _) h4,?_⟩⟩
   have:=s7 (i:=0) (n:=n) h5
   simpa using this
theorem Good.leG {s p:St} {a:Act} {w:World} (h:Good ρ0 X w0 fx N s a w) (hl:leG fx s p):Good ρ0 X w0 fx N p a w:=by
 obtain ⟨s',h1,h2⟩:=hl
 exact (h.ghost h1).le h2
theorem nE {a:Act} {w:World} {K:St→Prop}:∀ (xs:List Nat) (s:St),mC fx xs s K→Good ρ0 X w0 fx N s a w→∃ s',K s'∧Good ρ0 X w0 fx N s' a w
 | [],s,h,hg=>⟨s,h,hg⟩
 | x::r,s,h,hg=>by
  simp only [mC] at h
  split at h
  ·rename_i k i n hx
   unfold As at h
   split at h
   ·rename_i sz els hb
    obtain ⟨hk,h⟩:=h
    have hb':s.h[k]?=some (.arr sz els):=by
     unfold blk at hb
     rw [yaL] at hb
     cases hk:s.h[k]? with
     | none=>simp [hk] at hb
     | some B=>rw [hk] at hb;simpa using hb
    refine nE r _ h ?_
    obtain ⟨ρ,⟨⟨g1,g2⟩,g3⟩,⟨g4,g5⟩,g6⟩:=hg
    have hne:∀ j∈fx,j≠k:=fun j hj e=>hk (e▸hj)
    exact ⟨dJ ρ k,⟨⟨g1.trans lL,fun j hj=>by rw [d9 (hne j hj)];exact g2 j hj⟩,c8 fun j hj=>Cy (aN g3 j hj) (hne j hj)⟩,
     ⟨Nu g4 hb',fun i=>by rw [pM];exact nD g4 hb' _ _ (g5 i)⟩,g6.1,g6.2.fr lL⟩
   ·exact nE r s h hg
  ·exact nE r s h hg
theorem Rx {c:V} {A B:Prop} (h:brV c A B):∃ t,c=.v (.bool t)∧(t=true→A)∧(t=false→B):=by
 unfold brV at h
 split at h
 ·exact ⟨_,rfl,h⟩
 ·exact h.elim
end
end Go.Fx
namespace Go.Fx
open Go.RowKit
def FR (r:Option Nat):Fence:={ Fence.wide with round:=r }
section
variable {P:Program} {r:Option Nat}
theorem Il {n:Nat} {f:FuncId} {args:Array Value} {w:World} {R:Ending→World→Prop} (h:Calls P f args w R):CallsIn (FR r) n P f args w R:=(callsIn_wide (n:=n)).2 h
theorem Ux {n:Nat} {row:String} {args:Array Value} {w:World} {R:Value→World→Prop} (h:Rows P row args w R):RowsIn (FR r) n P row args w R :=
 fun c cs _=>let ⟨v,w',hr,hs⟩:=h c cs;⟨v,w',hr,stepsIn_wide.2 hs⟩
theorem Ez {o:Oper} (hd:r=none∨eA o=true) {Q:Exit→Act→World→Prop} {a:Act} {w:World} {next:Act→World→Prop} (h:o.wp P a w next Q):o.wpIn (FR r) 0 P a w next Q:=by
 refine ⟨fun _ _=>trivial,?_⟩
 have hs:o.semAt (FR r).round a.eval=execOp a.eval o:=by
  rcases hd with rfl|hd
  ·rfl
  ·exact Oper.semAt_eq _ _ _ fun c hc=>by simp [eA,hc] at hd
 rw [hs]
 unfold Oper.wp at h
 generalize (execOp a.eval o).run P w=res at h ⊢
 unfold Oper.upon at h
 split at h
 ·exact h
 ·exact h
 ·exact h
 ·refine ⟨fun h=>(by cases h),Il (h.mono ?_)⟩
  rintro e w' he
  cases e<;>exact he
 ·exact ⟨fun h=>(by cases h),Ux h⟩
 ·exact h
 ·exact h.elim
theorem Vm {ops:Array Oper} (hd:r=none∨∀ (i:Nat) (o:Oper),ops[i]?=some o→eA o=true) {Q:Exit→Act→World→Prop} (hQ:¬LetsOut Q) {i:Nat} {K:Act→World→Prop} {a:Act} {w:World} (h:wpOp P ops Q i K a w) :
  wpOpIn (FR r) 0 P ops Q i K a w:=by
 unfold wpOp at h
 unfold wpOpIn
 split at h
 ·rename_i ho;simp only [ho];exact h
 ·rename_i o ho
  simp only [ho]
  split at h
  ·rename_i hw
   rw [if_pos hw]
   rcases h with h|h
   ·exact Ez (hd.imp id fun h=>h i o ho) h
   ·exact absurd h.2 hQ
  ·rename_i hw
   rw [if_neg hw]
   exact ⟨fun _ _=>trivial,h⟩
theorem Tl {ops:Array Oper} (hd:r=none∨∀ (i:Nat) (o:Oper),ops[i]?=some o→eA o=true) {Q:Exit→Act→World→Prop} (hQ:¬LetsOut Q) {md:Region.Mode} :
  ∀ (fuel:Nat) (listed:Array Bool) (a:Act) (w:World),wpAny P md ops Q fuel listed a w→wpAnyIn (FR r) 0 P md ops Q fuel listed a w
 | 0,_,_,_,h=>h
 | fuel+1,_,_,_,h=>⟨h.1,fun i hi=>wpOpIn_mono (fun a w=>Tl hd hQ fuel _ a w) (Vm hd hQ (h.2 i hi))⟩
theorem u7 {ops:Array Oper} {Q:Exit→Act→World→Prop} (hQ:¬LetsOut Q):∀ (os:List Oper),(r=none∨∀ o∈os,eA o=true)→∀ (a:Act) (w:World),wpList P ops Q os a w→wpListIn (FR r) 0 P ops Q os a w
 | [],_,_,_,h=>h
 | o::os,hd,a,w,h=>by
  unfold wpList at h
  unfold wpListIn
  have hd':r=none∨∀ o∈os,eA o=true:=hd.imp id fun h o ho=>h o (yaf _ ho)
  split at h
  ·rename_i hw
   rw [if_pos hw]
   rcases h with h|h
   ·exact Oper.wpIn_mono (fun a w=>u7 hQ os hd' a w) (Ez (hd.imp id fun h=>h o yag) h)
   ·exact absurd h.2 hQ
  ·rename_i hw
   rw [if_neg hw]
   exact ⟨fun _ _=>trivial,u7 hQ os hd' _ _ h⟩
theorem lU {ops:Array Oper} {Q:Exit→Act→World→Prop} {md:Region.Mode}:∀ (l:List Oper) (k:Nat) (listed:Array Bool) (a:Act) (w:World),(∀ j,l[j]?=ops[k+j]?) →
  Region.seqB md ops l.length k listed=true→wpListIn (FR r) 0 P ops Q l a w→wpAnyIn (FR r) 0 P md ops Q l.length listed a w
 | [],_,_,_,_,_,hB,h=>⟨by simpa [Region.seqB] using hB,h⟩
 | o::l,k,listed,a,w,hl,hB,h=>by
  have h0:ops[k]?=some o:=by simpa using (hl 0).symm
  simp only [List.length_cons,Region.seqB,yac,decide_eq_true_eq] at hB
  refine ⟨fun h1=>(by rw [hB.1] at h1;cases h1),fun i hi=>?_⟩
  rw [hB.1] at hi
  obtain rfl:i=k:=by simpa using hi
  have hw:wpOpIn (FR r) 0 P ops Q i (wpListIn (FR r) 0 P ops Q l) a w:=by unfold wpOpIn;simp only [h0];exact h
  exact wpOpIn_mono (fun a' w' h'=>lU l (i+1) _ a' w' (fun j=>by have:=hl (j+1);simpa [Nat.add_assoc,Nat.add_comm 1 j] using this) hB.2 h') hw
theorem nS {ops:Array Oper} {Q:Exit→Act→World→Prop} (hQ:¬LetsOut Q) {md:Region.Mode} {w:World} {n g:Nat} {L:Array Bool→Act→Prop} (hL:∀ listed a,L listed a→wpAnyIn (FR none) 0 P md ops Q g listed a w) :
  ∀ (f:Nat) (listed:Array Bool) (a:Act),wpAnyL P md ops w n L f listed a→wpAnyIn (FR none) 0 P md ops Q (f+g) listed a w
 | 0,listed,a,h=>by rw [yan];exact hL _ _ h
 | f+1,listed,a,h=>by
  rw [show f+1+g=(f+g)+1 by omega]
  exact ⟨fun h0=>absurd h0 h.1,fun i hi=>Vm (.inl rfl) hQ (wpOp_of_stOp (fun a' h'=>nS hQ hL f _ a' h') (h.2 i hi).2)⟩
end
end Go.Fx
namespace Go.Fx
open Go.RowKit
section
variable [DBase] {P:Program} {X:Nat→Prop} {ρ:Nat→Loc} {w w':World}
theorem Lv {h:List Blk} (hr:Rep ρ X w h):Rep ρ X w (h++[.dead]):=by
 refine ⟨hr.inj,fun k hk=>hr.out k (by simp at hk;omega),fun k B hB=>?_,hr.disj,hr.lt,hr.xlt⟩
 rcases yau k h.length with hlt|hge
 ·rw [yam hlt] at hB
  exact hr.blk k B hB
 ·rw [yaI hge] at hB
  have:B=.dead:=by
   cases hk:k-h.length with
   | zero=>rw [hk] at hB;simpa using hB.symm
   | succ m=>rw [hk] at hB;simp at hB
  subst this
  exact hr.out k hge
theorem set_last (h:List Blk) (A B:Blk):(h++[A]).set h.length B=h++[B]:=by
 rw [List.set_append_right _ _ (yad _)];simp
theorem Dk (h:List Blk) (A:Blk):(h++[A])[h.length]?=some A:=by simp
theorem Ho {h:List Blk} (hr:Rep ρ X w h) {lp:Loop} (hm:Made w w' (.loop { lp with state:=.ready,pending:=none })) {e:Env} (he:cD ρ X w e lp.tmps) :
  ∃ ρ',Fr ρ w ρ' w'∧(∀ j,j≠h.length→ρ' j=ρ j)∧(∀ j,(ρ j).real=true→ρ' j=ρ j)∧Rep ρ' X w' (h++[.rcd .ready e])∧ρ' h.length=⟨true,w.heap.size,0,0,0,lp⟩:=by
 have hkr:(ρ h.length).real=false:=hr.out _ (yad _)
 have hf:Fr ρ w (upd ρ h.length ⟨true,w.heap.size,0,0,0,lp⟩) w':=mG hm (k:=h.length) rfl
 have hag:=mH hkr ⟨true,w.heap.size,0,0,0,lp⟩
 refine ⟨_,hf,fun j hj=>aH _ _ hj,hag,?_,upd_same _ _ _⟩
 have:=pF (Lv hr) hm (Dk h .dead) (l:=⟨true,w.heap.size,0,0,0,lp⟩) rfl (B:=.rcd .ready e) (by
  simp only [aQ,upd_same]
  exact ⟨⟨⟨rfl,rfl,rfl⟩,hm.new⟩,aT hf hag he⟩)
 rwa [set_last] at this
theorem Jm {h:List Blk} (hr:Rep ρ X w h) {e:Env} {t:Array Value} (he:cD ρ X w e t) :
  ∃ ρ',Fr ρ w ρ' w∧Fr ρ' w ρ w∧(∀ j,j≠h.length→ρ' j=ρ j)∧(∀ j,(ρ j).real=true→ρ' j=ρ j)∧Rep ρ' X w (h++[.rcd .ghost e])∧(ρ' h.length).lp.tmps=t:=by
 have hkr:(ρ h.length).real=false:=hr.out _ (yad _)
 let L:Loc:={ ρ h.length with real:=false,lp:={ (default:Loop) with tmps:=t } }
 have hag:∀ j,(ρ j).real=true→upd ρ h.length L j=ρ j:=mH hkr L
 have hre:∀ j,(upd ρ h.length L j).real=true→(ρ j).real=true∧upd ρ h.length L j=ρ j:=by
  intro j hj
  by_cases hjn:j=h.length
  ·subst hjn;rw [upd_same] at hj;cases hj
  ·rw [aH _ _ hjn] at hj ⊢;exact ⟨hj,rfl⟩
 have hown:∀ b,Own (upd ρ h.length L) b↔Own ρ b:=by
  intro b
  constructor
  ·rintro ⟨j,h1,h2⟩
   have:=hre j h1
   rw [this.2] at h2
   exact ⟨j,this.1,h2⟩
  ·rintro ⟨j,h1,h2⟩
   exact ⟨j,by rw [hag j h1];exact h1,by rw [hag j h1];exact h2⟩
 have hf:Fr ρ w (upd ρ h.length L) w:=⟨rfl,rfl,rfl,yad _,fun b _ ho=>⟨rfl,fun h=>ho ((hown b).1 h)⟩⟩
 have hf':Fr (upd ρ h.length L) w ρ w:=⟨rfl,rfl,rfl,yad _,fun b _ ho=>⟨rfl,fun h=>ho ((hown b).2 h)⟩⟩
 refine ⟨upd ρ h.length L,hf,hf',fun j hj=>aH _ _ hj,hag,⟨?_,?_,?_,fun b ho=>hr.disj b ((hown b).1 ho),?_,hr.xlt⟩,by rw [upd_same]⟩
 ·intro i j hij hi hj
  have h1:=hre i hi
  have h2:=hre j hj
  rw [h1.2,h2.2]
  exact hr.inj i j hij h1.1 h2.1
 ·intro k hk
  have:k≠h.length:=by simp at hk;omega
  rw [aH _ _ this]
  exact hr.out k (by simp at hk;omega)
 ·intro k B hB
  rcases yau k h.length with hlt|hge
  ·rw [yam hlt] at hB
   exact w4 hf hag (aH _ _ (by omega)) (hr.blk k B hB)
  ·have hk:k=h.length:=by
    have:=(yae.1 hB).1
    simp at this;omega
   subst hk
   rw [Dk] at hB
   simp only [yaa] at hB
   subst hB
   simp only [aQ,upd_same]
   exact ⟨rfl,aT hf hag he⟩
 ·intro k hk
  have:=hre k hk
  rw [this.2]
  exact hr.lt k this.1
theorem jT {k:Nat} (hk:(ρ k).real=true) (o:Obj):Fr ρ w ρ (w.putObj (ρ k).blk o):=yY hk o rfl rfl rfl rfl
theorem uN {h:List Blk} (hr:Rep ρ X w h) {k:Nat} {t t':RS} {e:Env} (hb:h[k]?=some (.rcd t e)) (hk:(ρ k).real=true) {o:Obj} (ho:uO (w.putObj (ρ k).blk o) (ρ k) t') :
  Rep ρ X (w.putObj (ρ k).blk o) (h.set k (.rcd t' e)):=by
 have hB:=hr.blk k _ hb
 simp only [aQ] at hB
 refine t6 hr hk (o:=o) (jT hk o) rfl ?_
 simp only [aQ]
 exact ⟨ho,aT (jT hk o) (fun _ _=>rfl) hB.2⟩
theorem Cl {k:Nat} (hk:(ρ k).real=true) {h:List Blk} (hr:Rep ρ X w h) (o:Obj):(w.putObj (ρ k).blk o).heap[(ρ k).blk]?=some o:=World.putObj_heap_same (hr.lt k hk)
theorem Oe {h:List Blk} (hr:Rep ρ X w h) {w0:World} (h0:w0.heap.size≤w.heap.size) {ds:List Deferred} (hM:Marks ρ w0 w ds) (r:Option Nat) (hrd:∀ l0,r=some l0→∃ r0,w.heap[l0]?=some (.loop r0))
  (fn:FuncId) (tmps:Array Value) (ps:Array Tmp) (asg body:Code) {e:Env} (he:cD ρ X w e tmps) :
  ∃ (l:Nat) (mark:List Deferred) (w1:World) (lp:Loop) (ρ':Nat→Loc),(Instr.enterLoop fn tmps ps asg body r).run P w=.ok (l,mark) w1 ∧
   (lp.fn=fn∧lp.tmps=tmps∧lp.params=ps∧lp.assign=asg∧lp.body=body)∧Fr ρ w ρ' w1∧(∀ j,j≠h.length→ρ' j=ρ j)∧(∀ j,(ρ j).real=true→ρ' j=ρ j)∧Rep ρ' X w1 (h++[.rcd .ready e]) ∧
   ρ' h.length=⟨true,l,0,0,0,lp⟩∧Marks ρ' w0 w1 (mark++ds):=by
 cases r with
 | none =>
  have hm1:Made w (w.alloc (.deferred (some []))) (.deferred (some [])):=Made.alloc _ _
  have hf1:Fr ρ w ρ (w.alloc (.deferred (some []))):=⟨rfl,rfl,rfl,by rw [hm1.size];omega,fun b hb ho=>⟨hm1.old hb,ho⟩⟩
  have hr1:Rep ρ X (w.alloc (.deferred (some []))) h :=
   ⟨hr.inj,hr.out,fun k B hB=>f8 hf1 (fun _ _=>rfl) rfl (fun hk=>hm1.old (hr.lt k hk)) (hr.blk k B hB),hr.disj,fun k hk=>yay (hr.lt k hk) hf1.size,hr.xfr hf1⟩
  let lp:Loop:={ state:=.ready,pending:=none,fn,tmps,params:=ps,assign:=asg,body,defers:=w.heap.size }
  obtain ⟨ρ',g1,g2,g3,g4,g5⟩:=Ho hr1 (lp:=lp) (Made.alloc _ _) (aT hf1 (fun _ _=>rfl) he)
  refine ⟨_,_,_,lp,ρ',run_enterLoop_outer fn tmps ps asg body,⟨rfl,rfl,rfl,rfl,rfl⟩,hf1.trans g1,g2,g3,g4,by rw [g5,hm1.size],?_⟩
  obtain ⟨Ds,⟨h1,h2⟩,h3⟩:=hM.fr (hf1.trans g1)
  refine ⟨w.heap.size::Ds,⟨by rw [h1];rfl,yaz.2 ⟨fun hD=>?_,h2⟩⟩,fun D hD=>?_⟩
  ·obtain ⟨Ds',⟨h1',_⟩,h3'⟩:=hM
   have:Ds=Ds':=by
    have hinj:∀ (xs ys:List Nat),xs.map uX=ys.map uX→xs=ys:=by
     intro xs
     induction xs with
     | nil=>intro ys h;cases ys with|nil=>rfl|cons _ _=>simp at h
     | cons x xs ih =>
      intro ys h
      cases ys with
      | nil=>simp at h
      | cons y ys =>
       simp only [List.map_cons,List.cons.injEq,uX,Deferred.mk.injEq,Target.collected.injEq,and_true] at h
       rw [h.1,ih ys h.2]
    exact hinj _ _ (List.append_cancel_right (h1.symm.trans h1'))
   subst this
   have:=(h3' _ hD).1.2
   omega
  ·rcases yal.1 hD with rfl|hD
   ·refine ⟨⟨h0,yay (by rw [hm1.size];omega) g1.size⟩,?_,?_⟩
    ·rintro ⟨j,hj1,hj2⟩
     by_cases hjn:j=h.length
     ·subst hjn;rw [g5] at hj2;simp only [hm1.size] at hj2;omega
     ·rw [g2 j hjn] at hj1 hj2
      have:=hr.lt j hj1
      omega
    ·rw [(Made.alloc (w.alloc (.deferred (some []))) _).old (by rw [hm1.size];omega)]
     exact hm1.new
   ·exact h3 D hD
 | some l0 =>
  obtain ⟨r0,hr0⟩:=hrd l0 rfl
  let lp:Loop:={ state:=.ready,pending:=none,fn,tmps,params:=ps,assign:=asg,body,defers:=r0.defers }
  obtain ⟨ρ',g1,g2,g3,g4,g5⟩:=Ho hr (lp:=lp) (Made.alloc _ _) he
  exact ⟨_,_,_,lp,ρ',run_enterLoop_inner hr0 fn tmps ps asg body,⟨rfl,rfl,rfl,rfl,rfl⟩,g1,g2,g3,g4,g5,hM.fr g1⟩
end
end Go.Fx
namespace Go.Fx
open Go.RowKit
section
variable [DBase] {P:Program} {ρ0:Nat→Loc} {X:Nat→Prop} {w0:World} {N:Nat}
theorem nY {ops:Array Oper} {N:Nat} {o:Oper} {os:List Oper} {ls0:List aR} {l:aR} {ls:List aR} (h:dX P ops N (o::os) ls0=some (l::ls)) :
  ∃ l0 r0 op g,ls0=l0::r0∧rlY P o.op l0.op=some op∧gOk ops N o.guard=some g∧(∀ d,o.dst=some d→d<N)∧l=⟨o.dst,op,g⟩∧dX P ops N os r0=some ls:=by
 cases ls0 with
 | nil=>simp [dX] at h
 | cons l0 r0 =>
  simp only [dX] at h
  split at h
  ·rename_i op g r h1 h2 h3 h4
   simp only [yaa,List.cons.injEq] at h
   obtain ⟨rfl,rfl⟩:=h
   refine ⟨l0,r0,op,g,rfl,h1,h2,fun d hd=>?_,rfl,h4⟩
   simpa [dOk,hd] using h3
  ·cases h
theorem rI {ops:Array Oper} {N:Nat} {os:List Oper} {ls0:List aR} (h:dX P ops N os ls0=some []):os=[]:=by
 cases os with
 | nil=>rfl
 | cons o os =>
  cases ls0 with
  | nil=>simp [dX] at h
  | cons l0 r0 =>
   simp only [dX] at h
   split at h<;>simp at h
theorem rG {op:Op} {l0 l:LOp} (h:rlY P op l0=some l):(∃ f c,l=.yld f c.args.toList∧op=.call c∧c.callee=.value f)∨(rl P op l0=some l∧∀ f xs,l≠.yld f xs):=by
 unfold rlY at h
 split at h
 ·split at h
  ·rename_i c
   split at h
   ·rename_i f hf
    simp only [yaa] at h
    exact .inl ⟨f,c,h.symm,rfl,hf⟩
   ·cases h
  ·cases h
 ·split at h
  ·cases h
  ·rename_i hn
   exact .inr ⟨h,fun f xs e=>hn f xs (by rw [h,e])⟩
theorem Kg {cx:Cx} {o:Oper} {c:Call} {f:Operand} (hop:o.op=.call c) (hcal:c.callee=.value f) {a:Act} {s:St} {ρ:Nat→Loc} {w:World} {K:V→St→Prop} {Q:Exit→Act→World→Prop}
  (hf:Fr ρ0 w0 ρ w∧∀ j∈cx.fx,ρ j=ρ0 j) (hk:aC cx.fx s.h) (hr:Rep ρ X w s.h) (he:cD ρ X w s.e a.tmps) (hy:∀ k,YOk P ρ0 X w0 cx.fx k (cx.y k)) (h:p8 cx f c.args.toList s K) :
  o.wpIn (FR none) 0 P a w (fun a' w'=>∃ val,a'=a.put o.dst val∧j9 cx.fx [] ρ X w a.tmps K val w') Q:=by
 unfold p8 at h
 split at h
 ·rename_i k hev
  have hv:=aF he f
  rw [hev] at hv
  obtain ⟨_,hv⟩:=hv
  obtain ⟨fn,tm,asg,body,hy1,hy2⟩:=hy k ρ w s a.tmps _ _ K hf hk hr he (iH he c.args.toList) h
  refine ⟨fun _ _=>trivial,?_⟩
  show o.uponIn (FR none) 0 P a _ Q ((execOp a.eval o).run P w)
  have ha:(c.args.map a.eval)=(c.args.toList.map a.eval).toArray:=by apply Array.ext';simp
  have hrun:(execOp a.eval o).run P w=.ok (.round (ρ k).blk fn tm asg body) w:=by
   unfold execOp
   simp only [hop,resolve,hcal,ha,hv,Deferred.ofValue,Sem.run_bind,Sem.run_pure,Result.andThen_ok,invoke,Array.empty_append,Array.append_empty]
   exact hy1
  rw [hrun,Oper.uponIn_round]
  refine ⟨fun h=>(by cases h),hy2.mono ?_⟩
  rintro e w' ⟨val,rfl,hs⟩
  exact ⟨val,rfl,hs⟩
 ·exact h.elim
theorem iY {cx:Cx} (hcx:cx.ok P) (hy:∀ k,YOk P ρ0 X w0 cx.fx k (cx.y k)) {ops:Array Oper} {Q:Exit→Act→World→Prop} {K:St→Prop} (hQ:∀ s a w,K s→Good ρ0 X w0 cx.fx N s a w→Q .normal a w) :
  ∀ (os:List Oper) (ls0 ls:List aR) (s:St) (a:Act) (w:World),dX P ops N os ls0=some ls→Good ρ0 X w0 cx.fx N s a w→bC cx ls s K→wpListIn (FR none) 0 P ops Q os a w
 | os,ls0,[],s,a,w,hm,hg,h=>by
  have:=rI hm
  subst this
  exact hQ s a w h hg
 | [],ls0,l::ls,s,a,w,hm,hg,h=>by
  cases ls0<;>simp [dX] at hm
 | o::os,ls0,l::ls,s,a,w,hm,hg,h=>by
  obtain ⟨l0,r0,op,g,rfl,h1,h2,hd,rfl,h4⟩:=nY hm
  obtain ⟨ρ,hpre,⟨hr,he⟩,hN,hdf⟩:=hg
  simp only [bC] at h
  unfold wpListIn
  have key:∀ (A:St→(V→St→Prop)→Prop) (K':St→Prop),(∀ s' a' w',K' s'→Good ρ0 X w0 cx.fx N s' a' w'→wpListIn (FR none) 0 P ops Q os a' w') →
    (∀ e',cD ρ X w e' a.tmps→A { s with e:=e' } (fun x s'=>K' (s'.put o.dst x)) →
     o.wpIn (FR none) 0 P a w (fun a' w'=>∃ val,a'=a.put o.dst val∧j9 cx.fx [] ρ X w a.tmps (fun x s'=>K' (s'.put o.dst x)) val w') Q)→gP g o.dst A s K' →
    if Region.wanted o (yielded ops a.tmps) then o.wpIn (FR none) 0 P a w (wpListIn (FR none) 0 P ops Q os) Q
     else (∀ f,o.about P w a.eval=some f→(FR none).fn f)∧wpListIn (FR none) 0 P ops Q os (a.put o.dst undef) w:=by
   intro A K' hK' hA h
   rcases pL hN h2 he h with ⟨hw,e',_,he',h'⟩|⟨hw,e',_,he',h'⟩
   ·rw [if_pos hw]
    refine Oper.wpIn_mono ?_ (hA e' he' h')
    rintro a' w' ⟨val,rfl,hs⟩
    obtain ⟨x,s',hK,hgood⟩:=Good.sound (s:=s) hpre ⟨hN,hdf⟩ hd hs
    exact hK' _ _ _ hK hgood
   ·rw [if_neg (by rw [hw];exact yaA)]
    have hh:(St.put { s with e:=e' } o.dst (.v (.tuple #[]))).h=s.h:=by cases o.dst<;>rfl
    refine ⟨fun _ _=>trivial,hK' _ _ _ h' ⟨ρ,⟨hpre.1,by rw [hh];exact hpre.2⟩,⟨by rw [hh];exact hr,?_⟩,by rw [size_put];exact hN,by rw [iM];exact hdf⟩⟩
    exact dQ (e:=e') (x:=.v (.tuple #[])) (val:=undef) he' rfl (fun n hn=>by rw [hN];exact hd n hn) _ rfl
  have hrest:∀ s' a' w',bC cx ls s' K→Good ρ0 X w0 cx.fx N s' a' w'→wpListIn (FR none) 0 P ops Q os a' w':=fun s' a' w' hK hg'=>iY hcx hy hQ os r0 ls s' a' w' h4 hg' hK
  by_cases hyl:∃ f xs,op=.yld f xs
  ·obtain ⟨f,xs,rfl⟩:=hyl
   rcases rG h1 with ⟨f',c,hl,hop,hcal⟩|h1
   ·simp only [LOp.yld.injEq] at hl
    obtain ⟨rfl,rfl⟩:=hl
    refine key (p8 cx f c.args.toList) _ hrest (fun e' he' h'=>?_) h
    exact Kg hop hcal (s:={ s with e:=e' }) hpre.1 hpre.2 hr he' hy h'
   ·exact absurd rfl (h1.2 f xs)
  ·have h1':rl P o.op l0.op=some op:=by
    rcases rG h1 with ⟨f',c,hl,_,_⟩|h1
    ·exact absurd ⟨f',_,hl⟩ hyl
    ·exact h1.1
   refine key (aOp cx op) _ hrest (fun e' he' h'=>?_) ?_
   ·refine Ez (.inl rfl) (Oper.wp_mono ?_ (j7 hcx h1' (s:={ s with e:=e' }) hr he' hpre.2 h'))
    rintro a' w' ⟨val,rfl,x,s',ρ',g1,⟨g2,g3,_⟩,g4⟩
    exact ⟨val,rfl,x,s',ρ',g1,⟨g2,g3,fun _ h=>by simp at h⟩,g4⟩
   ·have:vZ cx ⟨o.dst,op,g⟩ s (fun s'=>bC cx ls s' K)=mV cx ⟨o.dst,op,g⟩ s (fun s'=>bC cx ls s' K):=by
     unfold vZ
     split
     ·rename_i f xs hop
      exact absurd ⟨f,xs,hop⟩ hyl
     ·rfl
    rw [this] at h
    cases g<;>exact h
end
end Go.Fx
namespace Go.Fx
open Go.RowKit
section
variable {P:Program}
def ROk (r:Option Nat) (cx:Cx) (ρ0:Nat→Loc):Prop :=
 match r,cx.rk with
 | none,none=>True
 | some l,some k=>k∈cx.fx∧(ρ0 k).blk=l
 | _,_=>False
theorem jS {h:List Blk} {k:Nat} {K:RS→Env→Prop} (hk:pA h k K):∃ t e,h[k]?=some (.rcd t e)∧K t e:=by
 unfold pA at hk
 split at hk
 ·exact ⟨_,_,by assumption,hk⟩
 ·exact hk.elim
theorem xK:∀ (ps:List Nat) (xs:List V) (vs:List Value) (e:Env) (t:Array Value) {ρ:Nat→Loc} {X:Nat→Prop} {w:World},(∀ p∈ps,p<t.size)→xs.length=ps.length→a7 ρ X w xs vs→cD ρ X w e t →
  cD ρ X w (fC ps xs e) ((ps.zip vs).foldl (fun t (p,v)=>t.setIfInBounds p v) t)
 | [],[],[],_,_,_,_,_,_,_,_,he=>he
 | p::ps,x::xs,v::vs,e,t,ρ,X,w,hp,hl,hx,he=>by
  simp only [fC,List.zip_cons_cons,List.foldl_cons]
  refine xK ps xs vs _ _ (fun q hq=>by simpa using hp q (yaf _ hq)) (by simpa using hl) hx.2 ?_
  intro i
  rw [get_put]
  split
  ·rename_i hi
   subst hi
   have:=hp i yag
   rw [yav,Array.getElem?_setIfInBounds_self_of_lt this]
   exact hx.1
  ·rename_i hi
   rw [yav,Array.getElem?_setIfInBounds_ne (Ne.symm hi),←yav]
   exact he i
 | [],_::_,_,_,_,_,_,_,_,hl,_,_=>by simp at hl
 | _::_,[],_,_,_,_,_,_,_,hl,_,_=>by simp at hl
 | _::_,_::_,[],_,_,_,_,_,_,_,hx,_=>hx.elim
 | [],[],_::_,_,_,_,_,_,_,_,hx,_=>hx.elim
theorem vF:∀ (l:List (Nat × Value)) (t:Array Value),(l.foldl (fun t (p,v)=>t.setIfInBounds p v) t).size=t.size
 | [],_=>rfl
 | (p,v)::l,t=>by rw [List.foldl_cons,vF l];simp
theorem fL {Q:Exit→Act→World→Prop} {K:Act→World→Prop} (h:¬LetsOut Q):¬LetsOut (Exit.then K Q):=fun ⟨a,w,hq⟩=>h ⟨a,w,hq⟩
end
end Go.Fx
namespace Go.Fx
open Go.RowKit
section
variable [DBase] {P:Program} {ρ0:Nat→Loc} {X:Nat→Prop} {w0:World} {N:Nat} {r:Option Nat}
theorem aaA {ops:Array Oper} (h:ops.toList.all eA=true):∀ (i:Nat) (o:Oper),ops[i]?=some o→eA o=true :=
 fun i o ho=>yak.1 h o (by rw [Array.mem_toList_iff];exact Array.mem_of_getElem? ho)
theorem Qi (hP:P.follows .mixedOrders=true) {cx:Cx} (hcx:cx.ok P) {ops:Array Oper} {id:Nat} {Q:Exit→Act→World→Prop} (hQo:¬LetsOut Q) {K:St→Prop} (hQ:∀ s a w,K s→Good ρ0 X w0 cx.fx N s a w→Q .normal a w)
  (hd:r=none∨ops.toList.all eA=true) {p0 p:LPlan} {s:St} {a:Act} {w:World} (hm:rlT P N ops p0=some p) (hg:Good ρ0 X w0 cx.fx N s a w) (h:awP cx p [] K s):(Code.region id ops true).wpIn (FR r) 0 P Q a w:=by
 unfold rlT at hm
 split at hm
 ·rename_i hs
  refine wpIn_mono (Q:=nT Q) ?_ (fun e a w he=>?_)
  ·refine wpIn_region_any hP (Tl (Q:=nT Q) (hd.imp (fun h=>h) aaA) (fun ⟨a,w,hq⟩=>hQo ⟨a,w,hq⟩) _ _ _ _ ?_)
   obtain ⟨ρ,hG⟩:=Good.drew hg
   exact tY _ _ _ _ _ ((Ju (Q:=nT Q) hcx rfl hs (fun _ _ _ h=>h) (fun s a w hK hg=>hQ s a w hK hg) p0 p _ _ _ hm [] (fun _=>False) ρ s a _ (fun b hb=>hb.elim) hG h).1 rfl)
  ·cases e<;>first|exact he|exact he.elim
 ·cases hm
theorem sM {ops:Array Oper}:∀ (m:Nat) (os:List Oper) (ls0 ls:List aR),dX P ops N os ls0=some ls →
  dX P ops N (os.take m) (ls0.take m)=some (ls.take m)∧dX P ops N (os.drop m) (ls0.drop m)=some (ls.drop m)
 | 0,os,ls0,ls,h=>by simp [dX,h]
 | m+1,[],ls0,ls,h=>by
  cases ls0 with
  | nil=>simp [dX] at h;subst h;simp [dX]
  | cons _ _=>simp [dX] at h
 | m+1,o::os,ls0,ls,h=>by
  cases ls with
  | nil=>have:=rI h;cases this
  | cons l ls =>
   obtain ⟨l0,r0,op,g,rfl,h1,h2,hd,rfl,h4⟩:=nY h
   obtain ⟨h5,h6⟩:=sM m os r0 ls h4
   refine ⟨?_,by simpa using h6⟩
   have hd':dOk N o.dst=true:=by
    cases hdst:o.dst with
    | none=>rfl
    | some d=>simpa [dOk,hdst] using hd d hdst
   simp [dX,h1,h2,hd',h5]
theorem sN {ops:Array Oper}:∀ (os:List Oper) (ls0 ls:List aR),dX P ops N os ls0=some ls→(∀ l∈ls,aZ l.op=true)→d4 P ops N os ls0=some ls
 | [],ls0,ls,h,_=>by
  cases ls0 with
  | nil=>simpa [dX,d4] using h
  | cons _ _=>simp [dX] at h
 | o::os,ls0,ls,h,hq=>by
  cases ls with
  | nil=>have:=rI h;cases this
  | cons l ls =>
   obtain ⟨l0,r0,op,g,rfl,h1,h2,hd,rfl,h4⟩:=nY h
   have h5:=sN os r0 ls h4 (fun l hl=>hq l (yaf _ hl))
   have hd':dOk N o.dst=true:=by
    cases hdst:o.dst with
    | none=>rfl
    | some d=>simpa [dOk,hdst] using hd d hdst
   have h1':rl P o.op l0.op=some op:=by
    rcases rG h1 with ⟨f,c,hl,_,_⟩|h1
    ·have:=hq _ yag
     rw [hl] at this
     simp [aZ] at this
    ·exact h1.1
   simp [d4,h1',h2,hd',h5]
theorem s4 {cx:Cx}:∀ (l1 l2:List aR) (s:St) (K:St→Prop),(∀ l∈l1,aZ l.op=true)→bC cx (l1++l2) s K=d6 cx l1 s fun s'=>bC cx l2 s' K
 | [],_,_,_,_=>rfl
 | o::r,l2,s,K,hq=>by
  simp only [yaB,d6,bC]
  have:vZ cx o=mV cx o:=by
   funext s K
   unfold vZ
   split
   ·rename_i f xs hop
    have:=hq o yag
    rw [hop] at this
    simp [aZ] at this
   ·rfl
  rw [this]
  congr 1
  funext s'
  exact s4 r l2 s' K (fun l hl=>hq l (yaf _ hl))
theorem Pr (hP:P.follows .mixedOrders=true) {cx:Cx} (hcx:cx.ok P) (hy:∀ k,YOk P ρ0 X w0 cx.fx k (cx.y k)) {ops:Array Oper} {id:Nat} {Q:Exit→Act→World→Prop} (hQo:¬LetsOut Q) {K:St→Prop}
  (hQ:∀ s a w,K s→Good ρ0 X w0 cx.fx N s a w→Q .normal a w) {m:Nat} {ls0 ls:List aR} {s:St} {a:Act} {w:World} (hm:dX P ops N ops.toList ls0=some ls) (hq:(ls.take m).all (fun l=>aZ l.op)=true)
  (hB:Region.lexTailB .any ops m=true) (hg:Good ρ0 X w0 cx.fx N s a w) (h:bC cx ls s K):(Code.region id ops true).wpIn (FR none) 0 P Q a w:=by
 obtain ⟨ρ,hpre,⟨hr,he⟩,hN,hdf⟩:=Good.drew hg
 obtain ⟨h1,h2⟩:=sM m _ _ _ hm
 have hqs:∀ l∈ls.take m,aZ l.op=true:=fun l hl=>yak.1 hq l hl
 have hops:ops=ops.toList.toArray:=by simp
 refine wpIn_region_any hP ?_
 rw [←List.take_append_drop m ls,s4 _ _ _ _ hqs] at h
 have hst:wpStill P ops { w with drawn:=w.drawn+1 } (fun a'=>wpListIn (FR none) 0 P ops Q (ops.toList.drop m) a' { w with drawn:=w.drawn+1 }) (ops.toList.take m) a:=by
  refine nV (fx:=cx.fx) (cx:=cx) (ρ:=ρ) (K:=fun s'=>bC cx (ls.drop m) s' K) ?_ _ _ _ s a (sN _ _ _ h1 hqs) hqs hr hpre.2 he hN rfl h
  intro s' a' hK he' hN' hdf' hr' hk'
  exact iY hcx hy hQ _ _ _ s' a' _ h2 ⟨ρ,⟨hpre.1,hk'⟩,⟨hr',he'⟩,hN',by rw [hdf'];exact hdf⟩ hK
 simp only [Region.lexTailB,yac,decide_eq_true_eq] at hB
 obtain ⟨⟨⟨⟨hsel,hn⟩,hs⟩,hc⟩,hlex⟩:=hB
 have htl:(ops.toList.take m).length=m:=by simp;omega
 have hdl:(ops.toList.drop m).length=ops.size-m:=by simp
 have inv0:HeadInv .any ops m (yah ops.size false) :=
  ⟨by simp,fun j oj _ hl=>(by rw [getD_replicate_false] at hl;cases hl),fun t _ ht=>getD_in (by simpa using ht) (getD_replicate_false _ _)⟩
 have H:=wpAnyL_lex (md:=.any) (g:=ops.size-m) hsel hs hc hn (ops.toList.take m) 0 _ a (fun j hj=>by
  have hj':j<m:=by rw [htl] at hj;exact hj
  simp [hj']) (by simpa using htl) inv0 (by rw [htl];exact hlex) hst
 have:=nS (P:=P) (Q:=Q) hQo (g:=ops.size-m) (fun listed a' hL=>by
  have:=lU (P:=P) (r:=none) (md:=.any) (Q:=Q) (ops.toList.drop m) m listed a' { w with drawn:=w.drawn+1 } (fun j=>by simp [List.getElem?_drop]) (by rw [hdl];exact hL.1) hL.2
  rwa [hdl] at this) _ _ _ H
 rw [htl,show m+(ops.size-m)=ops.size by omega] at this
 exact this
end
end Go.Fx
namespace Go.Fx
open Go.RowKit
section
variable {P:Program} {X:Nat→Prop} {N:Nat}
def Jy (P:Program) (X:Nat→Prop) (N:Nat) (c:Code) (rd:Prop) (A:Cx→(St→Prop)→(Nat→St→Prop)→(St→Prop)→St→Prop):Prop :=
 ∀ [DBase] (r:Option Nat) (cx:Cx) (ρ0:Nat→Loc) (w0:World),cx.ok P→(r=none∨rd)→ROk r cx ρ0→(∀ k,YOk P ρ0 X w0 cx.fx k (cx.y k)) →
  ∀ (Q:Exit→Act→World→Prop) (Nn:St→Prop) (Xx:Nat→St→Prop) (Rr:St→Prop),¬LetsOut Q →
   (∀ s a w,Nn s→Good ρ0 X w0 cx.fx N s a w→Q .normal a w)→(∀ j s a w,Xx j s→Good ρ0 X w0 cx.fx N s a w→Q (.exit j) a w)→(∀ s a w,Rr s→Good ρ0 X w0 cx.fx N s a w→Q .ret a w) →
   ∀ s a w,A cx Nn Xx Rr s→Good ρ0 X w0 cx.fx N s a w→c.wpIn (FR r) 0 P Q a w
def Sh (P:Program) (X:Nat→Prop) (N:Nat) (c:Code):Prop :=
 ∀ (l0 l:LCode),rlC P N c l0=some l→Jy P X N c (cU c=true∧fN l=true) (fun cx=>aw cx l)
theorem j8 {ρ0:Nat→Loc} {w0:World} {fx:List Nat} {k:Nat}:YOk P ρ0 X w0 fx k (fun _ _ _=>False):=fun _ _ _ _ _ _ _ _ _ _ _ _ h=>h.elim
theorem Good.rcd [DBase] {ρ0:Nat→Loc} {w0:World} {fx:List Nat} {s:St} {a:Act} {w:World} {k:Nat} {t t':RS} {e:Env} (hg:Good ρ0 X w0 fx N s a w) (hk:k∈fx) (hb:s.h[k]?=some (.rcd t e)) (hreal:(ρ0 k).real=true) {o:Obj}
  (ho:uO (w.putObj (ρ0 k).blk o) (ρ0 k) t'):Good ρ0 X w0 fx N { s with h:=s.h.set k (.rcd t' e) } a (w.putObj (ρ0 k).blk o):=by
 obtain ⟨ρ,⟨⟨hf,h1⟩,hkp⟩,⟨hr,he⟩,h5,h5m⟩:=hg
 have hρ:=h1 k hk
 rw [←hρ] at ho hreal ⊢
 have hf1:=jT (w:=w) hreal o
 refine ⟨ρ,⟨⟨hf.trans hf1,h1⟩,aW hkp (bH (by simp))⟩,⟨uN hr hb hreal ho,aT hf1 (fun _ _=>rfl) he⟩,h5,h5m.fr hf1⟩
theorem Jd {asg body:Code} {rda rdb:Prop} {Aa Ab:Cx→(St→Prop)→(Nat→St→Prop)→(St→Prop)→St→Prop} (ha:Jy P X N asg rda Aa) (hb:Jy P X N body rdb Ab) (hra:rda) (hrb:rdb)
  {cx:Cx} (hcx:cx.ok P) {ρ1:Nat→Loc} {w1:World} {n:Nat} {fx:List Nat} (hcf:cx.fx=fx) {lp:Loop} {l:Nat} (hn:ρ1 n=⟨true,l,0,0,0,lp⟩) {ps:Array Tmp} (hlp:lp.params=ps∧lp.assign=asg∧lp.body=body)
  (hps:∀ p∈ps.toList,p<N) (hsz:lp.tmps.size=N) :
  YOk P ρ1 X w1 (n::fx) n (fun xs sI K=>pA sI.h n fun t e=>t=.ready∧xs.length=ps.toList.length ∧
     Aa { cx with fx:=sI.h.length::n::cx.fx,y:=fun _ _ _ _=>False,rk:=some n }
      (sW n fun s1=>Ab { cx with fx:=sI.h.length::n::cx.fx,y:=fun _ _ _ _=>False,rk:=some n }
       (eX n sI.h.length sI.b K true .ready) (fun j=>eX n sI.h.length sI.b K false (.out (some j))) (eX n sI.h.length sI.b K false (.out none)) s1)
      (fun _ _=>False) (fun _=>False) ⟨fC ps.toList xs e,sI.h++[.rcd .ghost sI.e],sI.b⟩):=by
 letI:DBase:=⟨[]⟩
 subst hcf
 intro ρ w s tmps xs vals K hfr hkp hr he hx h
 obtain ⟨t,e,hbn,rfl,hlen,h⟩:=jS h
 have hρn:ρ n=⟨true,l,0,0,0,lp⟩:=(hfr.2 n yag).trans hn
 have hB:=hr.blk n _ hbn
 simp only [aQ,hρn] at hB
 have hl:w.heap[l]?=some (.loop { lp with state:=.ready,pending:=none }):=hB.1.2
 have hnl:n<s.h.length:=(yae.1 hbn).1
 have hvl:=b7 hx
 rw [hρn]
 have hy:=run_yield (P:=P) (args:=vals.toArray) hl (by simp [hlp.1];simpa [←hvl] using hlen)
 refine ⟨_,_,_,_,hy,?_⟩
 simp only [hlp.2.1,hlp.2.2]
 -- what is kept of the iterator's frame
 obtain ⟨ρ2,f2,f2',o2,ag2,hr2,ht2⟩:=Jm hr he
 have hρ2n:ρ2 n=⟨true,l,0,0,0,lp⟩:=by rw [o2 n (by omega)];exact hρn
 have hzip:(Array.zip lp.params vals.toArray).foldl (fun tmps (t,a)=>tmps.setIfInBounds t a) lp.tmps=(ps.toList.zip vals).foldl (fun t (p,v)=>t.setIfInBounds p v) lp.tmps:=by
  rw [hlp.1,←Array.foldl_toList];simp [Array.toList_zip]
 show RoundIn Fence.wide 0 P l lp.fn ((Array.zip lp.params vals.toArray).foldl (fun tmps (t,a)=>tmps.setIfInBounds t a) lp.tmps) asg body w _
 rw [hzip]
 refine roundIn_of_wpIn trivial ?_
 have hgood:Good ρ2 X w (s.h.length::n::cx.fx) N ⟨fC ps.toList xs e,s.h++[.rcd .ghost s.e],s.b⟩ { tmps:=(ps.toList.zip vals).foldl (fun t (p,v)=>t.setIfInBounds p v) lp.tmps,defers:=[] } w:=by
  refine ⟨ρ2,⟨⟨Fr.refl _ _,fun _ _=>rfl⟩,c8 fun j hj=>?_⟩,⟨hr2,?_⟩,?_,Marks.nil⟩
  ·rcases yal.1 hj with rfl|hj
   ·simp [aB]
   ·have:=aN hkp j hj
    unfold aB at this ⊢
    cases hb:s.h[j]? with
    | none=>rw [hb] at this;exact this.elim
    | some B=>rw [yam (yae.1 hb).1,hb];rw [hb] at this;exact this
  ·refine xK _ _ _ _ _ (fun p hp=>by rw [hsz];exact hps p hp) hlen (dN f2 ag2 _ _ hx) (aT f2 ag2 hB.2)
  ·rw [vF];exact hsz
 have hcx':Cx.ok { cx with fx:=s.h.length::n::cx.fx,y:=fun _ _ _ _=>False,rk:=some n } P:=hcx
 have hro:ROk (some l) { cx with fx:=s.h.length::n::cx.fx,y:=fun _ _ _ _=>False,rk:=some n } ρ2:=⟨by simp,by rw [hρ2n]⟩
 have hgo:∀ (b:Bool) (t':RS) (j:Option Code) (s2:St) (a2:Act) (w2:World),eX n s.h.length s.b K b t' s2→Good ρ2 X w (s.h.length::n::cx.fx) N s2 a2 w2 →
   (∀ w',w'.heap[l]?=some (.loop { lp with state:=if j.isNone then .ready else .done,pending:=j })→uO w' ⟨true,l,0,0,0,lp⟩ t')→t'≠.ghost→b=j.isNone →
   ∃ v w',(Instr.endRound l j).run P w2=.ok v w'∧∃ val,Ending.returned v=.returned val∧j9 (n::cx.fx) [] ρ X w tmps K val w':=by
  intro b t' j s2 a2 w2 hend hg2 hrec hgh hbj
  obtain ⟨t2,e2,hb2,rfl,hend⟩:=jS hend
  obtain ⟨t3,eI,hb3,rfl,hK⟩:=jS hend
  have hg2':=hg2
  obtain ⟨ρ3,⟨⟨g1,g2⟩,g3⟩,⟨g4,g5⟩,g6⟩:=hg2
  have h3n:ρ3 n=⟨true,l,0,0,0,lp⟩:=(g2 n (by simp)).trans hρ2n
  have hB2:=g4.blk n _ hb2
  simp only [aQ,h3n] at hB2
  have hl2:w2.heap[l]?=some (.loop { lp with state:=.busy,pending:=none }):=hB2.1.2
  have hrun:=run_endRound (P:=P) j hl2
  refine ⟨_,_,hrun,_,rfl,?_⟩
  have hput:∀ o:Obj,(w2.putObj (ρ3 n).blk o).heap[(ρ3 n).blk]?=some o:=fun o=>Cl (by rw [h3n]) g4 o
  have hwb:(ρ3 n).blk=l:=by rw [h3n]
  generalize ho:Obj.loop { ({ lp with state:=.busy,pending:=none }:Loop) with state:=if j.isNone then .ready else .done,pending:=j }=o
  have hf3:Fr ρ3 w2 ρ3 (w2.putObj l o):=by have:=jT (w:=w2) (k:=n) (ρ:=ρ3) (by rw [h3n]) o;rwa [hwb] at this
  have hr3:Rep ρ3 X (w2.putObj l o) (s2.h.set n (.rcd t' e2)):=by
   have:=uN g4 hb2 (by rw [h3n]) (o:=o) (t':=t') (by
    rw [h3n];exact hrec _ (by have:=hput o;rw [hwb] at this;rw [this,←ho]))
   rwa [hwb] at this
  have hne:s.h.length≠n:=by omega
  have hb3':(s2.h.set n (.rcd t' e2))[s.h.length]?=some (.rcd .ghost eI):=by rw [yai (Ne.symm hne)];exact hb3
  have hBg:=hr3.blk _ _ hb3'
  simp only [aQ] at hBg
  have h3g:ρ3 s.h.length=ρ2 s.h.length:=g2 _ (by simp)
  have hdead:Rep ρ3 X (w2.putObj l o) ((s2.h.set n (.rcd t' e2)).set s.h.length .dead):=by
   refine ⟨hr3.inj,fun k hk=>hr3.out k (by simpa using hk),fun k B hB=>?_,hr3.disj,hr3.lt,hr3.xlt⟩
   by_cases hkn:k=s.h.length
   ·subst hkn
    rw [yat (yae.1 hb3').1] at hB
    simp only [yaa] at hB
    subst hB
    exact hBg.1
   ·rw [yai (Ne.symm hkn)] at hB
    exact hr3.blk k B hB
  subst hbj
  refine ⟨.b j.isNone,_,ρ3,hK,⟨c8 fun k hk=>?_,fun k hk=>?_,fun k hk=>by simp at hk⟩,(f2.trans g1).trans hf3,hdead,?_,rfl⟩
  ·have hlk:=aN g3 k (yaf _ hk)
   have hkl:=aN hkp k hk
   have hks:k≠s.h.length:=by
    intro e
    unfold aB at hkl
    rw [e,yaC (yad _)] at hkl
    exact hkl
   have:=bH (B:=Blk.rcd t' e2) (k:=n) (by simp) k hlk
   unfold aB at this ⊢
   rw [yai (Ne.symm hks)]
   exact this
  ·have hkl:=aN hkp k hk
   have hks:k≠s.h.length:=by
    intro e
    unfold aB at hkl
    rw [e,yaC (yad _)] at hkl
    exact hkl
   rw [g2 k (yaf _ hk),o2 k hks]
  ·have:=hBg.2
   rw [h3g,ht2] at this
   exact this
 refine ha (some l) _ ρ2 w hcx' (.inr hra) hro (fun _=>j8) _ _ _ _ (fun ⟨a,w,hq⟩=>hq) ?_ (fun _ _ _ _ h _=>h.elim) (fun _ _ _ h _=>h.elim) _ _ _ h hgood
 intro s1 a1 wA hbeg hg1
 obtain ⟨t1,e1,hb1,rfl,hbody⟩:=jS hbeg
 have hl1:wA.heap[l]?=some (.loop { lp with state:=.ready,pending:=none }):=by
  obtain ⟨ρ3,⟨⟨g1,g2⟩,g3⟩,⟨g4,g5⟩,g6⟩:=hg1
  have h3n:ρ3 n=⟨true,l,0,0,0,lp⟩:=(g2 n (by simp)).trans hρ2n
  have hB2:=g4.blk n _ hb1
  simp only [aQ,h3n] at hB2
  exact hB2.1.2
 refine ⟨_,run_beginRound hl1 rfl,?_⟩
 have hlt:l<wA.heap.size:=(yaD.1 hl1).1
 have hgB:=hg1.rcd (t':=.busy) (k:=n) (by simp) hb1 (by rw [hρ2n]) (o:=.loop { lp with state:=.busy,pending:=none }) (by
  rw [hρ2n];exact ⟨⟨rfl,rfl,rfl⟩,World.putObj_heap_same hlt⟩)
 rw [hρ2n] at hgB
 refine hb (some l) _ ρ2 w hcx' (.inr hrb) hro (fun _=>j8) (roundPost P l _) _ _ _ (fun ⟨a,w,hq⟩=>hq) ?_ ?_ ?_ _ _ _ hbody hgB
 ·intro s2 a2 w2 hend hg2
  exact hgo true .ready none s2 a2 w2 hend hg2 (fun w' hw'=>⟨⟨rfl,rfl,rfl⟩,hw'⟩) (by simp) rfl
 ·intro j s2 a2 w2 hend hg2
  exact hgo false (.out (some j)) (some (.exit j)) s2 a2 w2 hend hg2 (fun w' hw'=>⟨⟨rfl,rfl,rfl⟩,hw'⟩) (by simp) rfl
 ·intro s2 a2 w2 hend hg2
  exact hgo false (.out none) (some .ret) s2 a2 w2 hend hg2 (fun w' hw'=>⟨⟨rfl,rfl,rfl⟩,hw'⟩) (by simp) rfl
end
end Go.Fx
namespace Go.Fx
open Go.RowKit
section
variable {P:Program} {X:Nat→Prop} {N:Nat}
theorem Qr {g:Operand} {ps:Array Tmp} {asg body:Code} {rda rdb:Prop} {Aa Ab:Cx→(St→Prop)→(Nat→St→Prop)→(St→Prop)→St→Prop} (ha:Jy P X N asg rda Aa) (hb:Jy P X N body rdb Ab) (hra:rda) (hrb:rdb)
  (hps':∀ p∈ps.toList,p<N):Jy P X N (.rangeFunc g ps asg body) True (fun cx Nn Xx Rr s =>
  match ev s.e g with
  | .clo gf caps=>Nm cx.rk s.h∧cx.it gf (.itr s.h.length::caps) (s.h.length::cx.fx) s.h.length
    (fun xs sI K=>pA sI.h s.h.length fun t e=>t=.ready∧xs.length=ps.toList.length ∧
     Aa { cx with fx:=sI.h.length::s.h.length::cx.fx,y:=fun _ _ _ _=>False,rk:=some s.h.length }
      (sW s.h.length fun s1=>Ab { cx with fx:=sI.h.length::s.h.length::cx.fx,y:=fun _ _ _ _=>False,rk:=some s.h.length }
       (eX s.h.length sI.h.length sI.b K true .ready) (fun j=>eX s.h.length sI.h.length sI.b K false (.out (some j))) (eX s.h.length sI.h.length sI.b K false (.out none)) s1)
      (fun _ _=>False) (fun _=>False) ⟨fC ps.toList xs e,sI.h++[.rcd .ghost sI.e],sI.b⟩)
    (s.h++[.rcd .ready s.e]) (vK s.h.length Nn Xx Rr)
  | _=>False):=by
 intro _ r cx ρ0 w0 hcx hrd hro hy Q Nn Xx Rr hQo hN hX hR s a w h hg
 split at h
 ·rename_i gf caps hev
  obtain ⟨hrk,hit⟩:=h
  obtain ⟨hcall,hiter⟩:=hcx.2 _ _ _ _ _ _ _ hit
  obtain ⟨ρ,⟨⟨hf,hfx⟩,hkp⟩,⟨hr,he⟩,hsz,hM⟩:=hg
  have hgv:=aF he g
  rw [hev] at hgv
  obtain ⟨arr,hgv,hcaps⟩:=hgv
  have hrd0:∀ l0,r=some l0→∃ r0,w.heap[l0]?=some (.loop r0):=by
   rintro l0 rfl
   unfold ROk at hro
   split at hro
   ·rename_i h1 _;cases h1
   ·rename_i l1 k h1 h2
    simp only [yaa] at h1
    subst h1
    rw [h2] at hrk
    obtain ⟨t,e,hb1,rfl⟩:=jS hrk
    have hB:=hr.blk k _ hb1
    simp only [aQ] at hB
    rw [hfx k hro.1] at hB
    exact ⟨_,by rw [←hro.2];exact hB.1.2⟩
   ·exact hro.elim
  refine wpIn_rangeFunc ?_
  intro fn _
  obtain ⟨l,mark,w1,lp,ρ1,hen,hlp,f1,o1,ag1,hr1,hn1,hM1⟩:=Oe hr hf.size hM r hrd0 fn a.tmps ps asg body he
  refine ⟨l,mark,w1,{ target:=.fn (.func gf) arr,args:=#[.func (.yield l) #[] #[]] },w1,gf,#[.func (.yield l) #[] #[]]++arr,w1,hen,?_,fun _ _=>trivial,?_,fun h=>(by cases h),?_⟩
  ·simp only [resolve,hgv]
   simp [go_sem]
  ·simp [invoke,go_sem,gU hcall]
  ·refine Il ?_
   have hkp1:aC (s.h.length::cx.fx) (s.h++[.rcd .ready s.e]):=c8 fun j hj=>by
    rcases yal.1 hj with rfl|hj
    ·simp [aB]
    ·have:=aN hkp j hj
     unfold aB at this ⊢
     cases hb:s.h[j]? with
     | none=>rw [hb] at this;exact this.elim
     | some B=>rw [yam (yae.1 hb).1,hb];rw [hb] at this;exact this
   have hargs:a7 ρ1 X w1 (.itr s.h.length::caps) ((Value.func (.yield l) #[] #[])::arr.toList):=⟨⟨by rw [hn1],by rw [hn1]⟩,dN f1 ag1 _ _ hcaps⟩
   have hyok:=Jd (w1:=w1) ha hb hra hrb hcx rfl hn1 ⟨hlp.2.2.1,hlp.2.2.2.1,hlp.2.2.2.2⟩ hps' (by rw [hlp.2.1];exact hsz)
   have hcalls:=hiter ρ1 X w1 _ hr1 hargs hkp1 hyok
   have hvals:((Value.func (.yield l) #[] #[])::arr.toList).toArray=#[.func (.yield l) #[] #[]]++arr:=by apply Array.ext';simp
   rw [hvals] at hcalls
   refine hcalls.mono ?_
   rintro e w2 ⟨val,h',ρ2,rfl,hK,⟨f2,hr2⟩,hfx2,hkp2⟩
   obtain ⟨t,e',hbn,⟨hwf1,hwf2⟩,hK⟩:=jS hK
   have h2n:ρ2 s.h.length=⟨true,l,0,0,0,lp⟩:=(hfx2 _ yag).trans hn1
   have hB:=hr2.blk _ _ hbn
   simp only [aQ,h2n] at hB
   -- behind the iterator: the record is spent
   have fin:∀ (j:Option Code) (rr:Loop),w2.heap[l]?=some (.loop rr)→rr.state≠.busy→rr.pending=j →
     (Instr.endLoop l).run P w2=.ok j (w2.putObj l (.loop { rr with state:=.exhausted })) ∧
     Good ρ0 X w0 cx.fx N ⟨e',h'.set s.h.length .dead,0⟩ { a with defers:=mark++a.defers } (w2.putObj l (.loop { rr with state:=.exhausted })):=by
    intro j rr hrr hnb hj
    refine ⟨by rw [←hj];exact run_endLoop hrr hnb,?_⟩
    have hreal:(ρ2 s.h.length).real=true:=by rw [h2n]
    have hblk:(ρ2 s.h.length).blk=l:=by rw [h2n]
    have hf3:=jT (w:=w2) (k:=s.h.length) (ρ:=ρ2) hreal (.loop { rr with state:=.exhausted })
    have hr3:=uN (t':=.gone) hr2 hbn hreal (o:=.loop { rr with state:=.exhausted }) (by
     rw [h2n];exact ⟨⟨rfl,rfl,rfl⟩,_,World.putObj_heap_same (yaD.1 hrr).1⟩)
    rw [hblk] at hf3 hr3
    have hfx':∀ k∈cx.fx,k≠s.h.length:=by
     intro k hk e
     have:=aN hkp k hk
     unfold aB at this
     rw [e,yaC (yad _)] at this
     exact this
    have hkp3:aC cx.fx (h'.set s.h.length (.rcd .gone e')):=aW (c8 fun k hk=>aN hkp2 k (yaf _ hk)) (bH (by simp))
    have hg3:Good ρ0 X w0 cx.fx N ⟨e',h'.set s.h.length (.rcd .gone e'),0⟩ { a with defers:=mark++a.defers } (w2.putObj l (.loop { rr with state:=.exhausted })):=by
     refine ⟨ρ2,⟨⟨hf.trans (f1.trans (f2.trans hf3)),fun k hk=>?_⟩,hkp3⟩,⟨hr3,?_⟩,hsz,(hM1.fr f2).fr hf3⟩
     ·rw [hfx2 k (yaf _ hk),o1 k (hfx' k hk),hfx k hk]
     ·have:=aT hf3 (fun _ _=>rfl) hB.2
      rw [hlp.2.1] at this
      exact this
    refine hg3.leH (Dc _ _ _) ?_ hwf1 hwf2
    exact c8 fun k hk=>by
     have:=aN hkp3 k hk
     unfold aB at this ⊢
     rw [yai (Ne.symm (hfx' k hk))] at this ⊢
     exact this
   cases t with
   | ready =>
    obtain ⟨h1,h2⟩:=fin none _ hB.1.2 (by simp) rfl
    exact ⟨none,_,h1,hN _ _ _ hK h2⟩
   | out j =>
    cases j with
    | none =>
     obtain ⟨h1,h2⟩:=fin (some .ret) _ hB.1.2 (by simp) rfl
     exact ⟨some .ret,_,h1,wpIn_ret (hR _ _ _ hK h2)⟩
    | some j =>
     obtain ⟨h1,h2⟩:=fin (some (.exit j)) _ hB.1.2 (by simp) rfl
     exact ⟨some (.exit j),_,h1,wpIn_exit (hX _ _ _ _ hK h2)⟩
   | ghost=>exact hK.elim
   | busy=>exact hK.elim
   | gone=>exact hK.elim
 ·exact h.elim
theorem Vb {g:Operand} {ps:Array Tmp} {asg body:Code} (ha:Sh P X N asg) (hb:Sh P X N body):Sh P X N (.rangeFunc g ps asg body):=by
 intro l0 l hm _ r cx ρ0 w0 hcx hrd hro hy Q Nn Xx Rr hQo hN hX hR s a w h hg
 cases l0 with
 | rfn g' ps' la0 lb0 =>
  simp only [rlC] at hm
  split at hm
  ·rename_i la lb hma hmb
   split at hm
   ·rename_i hc
    simp only [yac] at hc
    simp only [yaa] at hm
    subst hm
    obtain ⟨⟨hps,hcd⟩,hin⟩:=hc
    have hps':∀ p∈ps.toList,p<N:=fun p hp=>by simpa using yak.1 hps p hp
    exact Qr (ha la0 la hma) (hb lb0 lb hmb) ⟨(by simpa using hcd:_∧_).1,(by simpa using hin:_∧_).1⟩ ⟨(by simpa using hcd:_∧_).2,(by simpa using hin:_∧_).2⟩ hps' r cx ρ0 w0 hcx (hrd.imp id fun _=>trivial) hro hy Q Nn Xx Rr hQo hN hX hR s a w h hg
   ·cases hm
  ·cases hm
 | _=>simp [rlC] at hm
end
end Go.Fx
namespace Go.Fx
open Go.RowKit
section
variable {P:Program} {md:Region.Mode} {ops:Array Oper} {Q:Exit→Act→World→Prop} {Γ:Type} {G:Nat→Γ→World→Γ→World→Prop} {L:Array Bool→Act→World→Prop} {m:Nat}
def d7 (P:Program) (md:Region.Mode) (ops:Array Oper) (Q:Exit→Act→World→Prop) (L:Array Bool→Act→World→Prop) (G:Nat→Γ→World→Γ→World→Prop):Nat→Array Bool→Γ→Act→World→Prop
 | 0,listed,_,a,w=>L listed a w
 | fuel+1,listed,g,a,w =>
  Region.ready md ops listed≠[] ∧
  ∀ i∈Region.ready md ops listed,wpOp P ops Q i (fun a' w'=>∃ g',G i g w g' w'∧d7 P md ops Q L G fuel (listed.setIfInBounds i true) g' a' w') a w
theorem sY (hQ:¬LetsOut Q) {n:Nat} (hL:∀ listed a w,L listed a w→wpAnyIn (FR none) 0 P md ops Q n listed a w):∀ (fuel:Nat) (listed:Array Bool) (g:Γ) (a:Act) (w:World),
  d7 P md ops Q L G fuel listed g a w→wpAnyIn (FR none) 0 P md ops Q (fuel+n) listed a w
 | 0,listed,_,a,w,h=>by rw [yan];exact hL _ _ _ h
 | f+1,listed,g,a,w,h=>by
  rw [show f+1+n=(f+n)+1 by omega]
  exact ⟨fun h0=>absurd h0 h.1,fun i hi=>wpOpIn_mono (fun a' w' ⟨g',_,h'⟩=>sY hQ hL f _ g' a' w' h') (Vm (.inl rfl) hQ (h.2 i hi))⟩
theorem yV {g g2:Γ} {w:World} (h:∀ i g' w',G i g2 w g' w'→G i g w g' w'):∀ (fuel:Nat) (listed:Array Bool) (a:Act),d7 P md ops Q L G fuel listed g2 a w→d7 P md ops Q L G fuel listed g a w
 | 0,_,_,hh=>hh
 | _+1,_,_,hh=>⟨hh.1,fun i hi=>wpOp_mono (fun _ w' ⟨g',h1,h2⟩=>⟨g',h i g' w' h1,h2⟩) (hh.2 i hi)⟩
theorem i4 (hL:∀ listed a w,L listed a w→Region.ready md ops listed=[m]) {i:Nat} {oi:Oper} {v:Value} (hi:ops[i]?=some oi) (hsel:∀ (j:Nat) (o:Oper) cs b,ops[j]?=some o→o.op≠.select cs b)
  (hQ:∀ c a w,Q (.panic c) (a.put oi.dst v) w→Q (.panic c) a w) {D:Nat→Prop} (hmD:D m) (hD:∀ j oj,D j→ops[j]?=some oj→∃ e∈oj.after,Region.binds md e=true∧(e.on=i∨D e.on))
  {Inv:Γ→World→Prop} (hGi:∀ g w,Inv g w→G i g w g w) :
  ∀ (fuel:Nat) (listed:Array Bool) (g:Γ) (a:Act) (w:World),
   (∀ j oj,ops[j]?=some oj→j≠i→listed.getD j true=false→(∀ e∈oj.after,Region.binds md e=true→e.on≠i)→oi.apart ops oj=true) →
   (∀ j,D j→listed.getD j false=false) →
   (∀ j oj,ops[j]?=some oj→j≠i→¬D j→listed.getD j true=false→∀ g w g' w',G j g w g' w'→Inv g w→Inv g' w') →
   i∈Region.ready md ops listed→YieldsIf P ops (fun w=>∃ g,Inv g w) oi v a→Inv g w →
   d7 P md ops Q L G fuel (listed.setIfInBounds i true) g (a.put oi.dst v) w→d7 P md ops Q L G (fuel+1) listed g a w:=by
 intro fuel
 induction fuel with
 | zero =>
  intro listed g a w hfree hun _ hr hy hS H
  refine ⟨fun h=>(by rw [h] at hr;cases hr),fun j hj=>?_⟩
  by_cases hji:j=i
  ·subst hji;exact hy.wpOp hi ⟨g,hS⟩ ⟨g,hGi g w hS,H⟩
  ·exfalso
   have hjm:=ready_mono hj hji
   rw [hL _ _ _ H] at hjm
   obtain rfl:j=m:=by simpa using hjm
   obtain ⟨hjun,oj,hoj,hall⟩:=mem_ready.1 hj
   have hiun:listed.getD i false=false:=by
    have h0:=(mem_ready.1 hr).1
    rcases yau i listed.size with h'|h'
    ·simpa [h'] using h0
    ·simp [yaM h']
   obtain ⟨e,he,hb,h2⟩:=hD j oj hmD hoj
   have h3:=hall e he hb
   rcases h2 with h2|h2
   ·rw [h2,hiun] at h3;cases h3
   ·rw [hun _ h2] at h3;cases h3
 | succ fuel ih =>
  intro listed g a w hfree hun hinv hr hy hS H
  refine ⟨fun h=>(by rw [h] at hr;cases hr),fun j hj=>?_⟩
  by_cases hji:j=i
  ·subst hji;exact hy.wpOp hi ⟨g,hS⟩ ⟨g,hGi g w hS,H⟩
  ·have h1:=H.2 j (ready_mono hj hji)
   obtain ⟨hjun,oj,hoj,hall⟩:=mem_ready.1 hj
   have hiun:listed.getD i false=false:=by
    have h0:=(mem_ready.1 hr).1
    rcases yau i listed.size with h'|h'
    ·simpa [h'] using h0
    ·simp [yaM h']
   have hnot:∀ e∈oj.after,Region.binds md e=true→e.on≠i:=fun e he hb heq=>by
    have h1:=hall e he hb
    rw [heq,hiun] at h1
    cases h1
   have hnD:¬D j:=fun hd=>by
    obtain ⟨e,he,hb,h2⟩:=hD j oj hd hoj
    have h3:=hall e he hb
    rcases h2 with h2|h2
    ·rw [h2,hiun] at h3;cases h3
    ·rw [hun _ h2] at h3;cases h3
   have h2:=wpOp_putIf hoj (hfree j oj hoj hji hjun hnot) (fun cs b=>hsel i oi cs b hi) (fun cs b=>hsel j oj cs b hoj) hQ hy h1
   have hset:∀ k,(listed.setIfInBounds j true).getD k true=false→listed.getD k true=false:=fun k hk=>by
    by_cases hjk:j=k
    ·subst hjk;exact hjun
    ·rw [getD_set_ne true hjk] at hk;exact hk
   have hfree':∀ k ok,ops[k]?=some ok→k≠i→(listed.setIfInBounds j true).getD k true=false →
     (∀ e∈ok.after,Region.binds md e=true→e.on≠i)→oi.apart ops ok=true:=fun k ok hk hki hu hno=>hfree k ok hk hki (hset k hu) hno
   have hun':∀ k,D k→(listed.setIfInBounds j true).getD k false=false:=fun k hk=>by
    have hne:j≠k:=fun e=>hnD (e▸hk)
    rw [getD_set_ne false hne]
    exact hun k hk
   refine wpOp_mono (fun a' w' h3=>?_) h2
   obtain ⟨hy',g',hG,h4⟩:=h3
   refine ⟨g',hG,ih (listed.setIfInBounds j true) g' a' w' hfree' hun' (fun k ok hok hki hkD hku=>hinv k ok hok hki hkD (hset k hku)) (ready_mono hr (Ne.symm hji)) hy' (hinv j oj hoj hji hnD hjun _ _ _ _ hG hS) ?_⟩
   rw [Array.setIfInBounds_comm _ _ hji]
   exact h4
end
section
variable [DBase] {P:Program} {ρ0:Nat→Loc} {X:Nat→Prop} {w0:World} {fx:List Nat} {N:Nat} {L:Array Bool→Act→World→Prop} {m:Nat}
theorem Em {cx:Cx} {ops:Array Oper} (hLT:∀ listed a w,L listed a w→Region.ready .any ops listed=[m]) {rs:Nat→Bool} (hs:Region.noSelect ops=true) {Q:Exit→Act→World→Prop} (hQp:∀ c a w,¬Q (.panic c) a w) {i:Nat} {o:Oper} {l0 op:LOp} {g:Option (Nat × Bool)} (ho:ops[i]?=some o)
  (hm:rl P o.op l0=some op) (hg:gOk ops N o.guard=some g) (hd:dOk N o.dst=true) {listed:Array Bool} {D:List Nat} (hok:rC ops rs listed i D op=true) (hmD:m∈D)
  {bn:List Nat} {B:Nat→Prop} {ρ:Nat→Loc} {s:St} {a:Act} {w:World} (hB:BI ρ B bn w)
  (hG:GoodAt ρ0 X w0 fx N ρ s a w) {K:St→Prop} {fuel:Nat} (h:mV cx ⟨o.dst,op,g⟩ s K)
  (hZ:∀ B' s' a',K s'→BI ρ B' (rdB op s.e bn) w→GoodAt ρ0 X w0 fx N ρ s' a' w→d7 P .any ops Q L (GR rs) fuel (listed.setIfInBounds i true) (ρ,B') a' w) :
  d7 P .any ops Q L (GR rs) (fuel+1) listed (ρ,B) a w:=by
 obtain ⟨hpre,⟨hrep,he⟩,hN,hdf⟩:=hG
 have hd':∀ n,o.dst=some n→n<N:=fun n hn=>by simpa [dOk,hn] using hd
 simp only [rC,yac] at hok
 obtain ⟨⟨⟨hready,hfree⟩,hq⟩,hDl,hres⟩:=hok
 have hready':i∈Region.ready .any ops listed:=by simpa using hready
 have hfr:=Region.free_spec (md:=.any) ho hfree
 have hDc:∀ j oj,j∈D→ops[j]?=some oj→∃ e∈oj.after,Region.binds .any e=true∧(e.on=i∨e.on∈D):=by
  intro j oj hj hoj
  have:=yak.1 hDl j hj
  simp only [hoj,yac] at this
  obtain ⟨e,he,hb⟩:=Array.any_eq_true'.1 this.2
  simp only [yac,Bool.or_eq_true,beq_iff_eq,yaE] at hb
  exact ⟨e,he,hb.1,hb.2⟩
 have hDu:∀ j,j∈D→listed.getD j false=false:=by
  intro j hj
  have:=yak.1 hDl j hj
  simp only [yac,yao] at this
  exact this.1
 have hsel:=Region.noSelect_spec hs
 have free:∀ (v:Value) (B':Nat→Prop),(YieldsIf P ops (fun _=>True) o v a)→d7 P .any ops Q L (GR rs) fuel (listed.setIfInBounds i true) (ρ,B') (a.put o.dst v) w→d7 P .any ops Q L (GR rs) (fuel+1) listed (ρ,B') a w:=by
  intro v B' hy hh
  exact i4 (D:=(·∈D)) hLT ho hsel (fun c a w h=>(hQp _ _ _ h).elim) hmD hDc (Inv:=fun _ _=>True) (fun g w _=>GR.refl _ _ _ _) fuel listed _ a w hfr hDu (fun _ _ _ _ _ _ _ _ _ _ _ _=>trivial) hready' (hy.imp (fun ⟨h1,h2⟩=>⟨h1,fun w _=>h2 w trivial⟩) id) trivial hh
 rcases eD hN hg he h with ⟨hw,e',hEB,he',h'⟩|⟨hw,e',_,he',h'⟩
 ·obtain ⟨x,val,h1,h2,h3⟩:=uQ (s:={ s with e:=e' }) hq hm hrep he' h'
  have hh:(St.put { s with e:=e' } o.dst x).h=s.h:=by cases o.dst<;>rfl
  have hgood:GoodAt ρ0 X w0 fx N ρ (St.put { s with e:=e' } o.dst x) (a.put o.dst val) w :=
   ⟨⟨hpre.1,by rw [hh];exact hpre.2⟩,⟨by rw [hh];exact hrep,dQ (e:=e') he' h2 (fun n hn=>by rw [hN];exact hd' n hn) _ rfl⟩,by rw [size_put];exact hN,by cases o.dst<;>exact hdf⟩
  by_cases hL:iK op=true
  ·have hres':∀ j,j≠i→j∉D→listed.getD j true=false→j<ops.size→rs j=true:=by
    intro j hji hjD hjl hlt
    simp only [hL,yaF,Bool.false_or] at hres
    have:=yak.1 hres j (by simpa using hlt)
    simp only [Bool.or_eq_true,beq_iff_eq,hji,false_or,yaE,hjD,hjl,Bool.false_eq_true] at this
    exact this
   cases op with
   | load n p =>
    have hpv:=aF he' p
    cases hp:ev e' p with
    | ptr k ix f =>
     rw [hp] at hpv
     have hreal:=hpv.1
     have hlt:=hrep.lt k hreal
     have hrd:rdB (.load n p) s.e bn=k::bn:=by
      have:ev s.e p=.ptr k ix f:=by
       rcases tT hEB p with h4|⟨b,h4⟩
       ·rw [←h4];exact hp
       ·rw [h4] at hp;cases hp
      simp only [rdB,this]
     have hB':BI ρ (fun b=>B b∨b=(ρ k).blk) (rdB (.load n p) s.e bn) w:=by
      rw [hrd]
      rintro b (hb|rfl)
      ·exact ⟨(hB b hb).1,(hB b hb).2.imp (fun ⟨k',hk,hk'⟩=>⟨k',yaf _ hk,hk'⟩) id⟩
      ·exact ⟨hlt,.inl ⟨k,yag,hreal,rfl⟩⟩
     refine yV (g2:=(ρ,fun b=>B b∨b=(ρ k).blk)) (fun j g' w' hj=>⟨hj.1,fun hr=>⟨fun b hb=>(hj.2 hr).1 b (.inl hb),fun b hb=>(hj.2 hr).2 b (.inl hb)⟩⟩) _ _ _ ?_
     refine i4 (D:=(·∈D)) hLT ho hsel (fun c a w h=>(hQp _ _ _ h).elim) hmD hDc (Inv:=Inv (ρ k).blk w.heap[(ρ k).blk]?) (fun g w _=>GR.refl _ _ _ _) fuel listed _ a w hfr hDu
      (fun j oj hoj hji hjD hjl g w g' w' hG hI=>Inv.step (hres' j hji hjD hjl (yaD.1 hoj).1) hG hI) hready' ?_ ⟨⟨hlt,.inl (.inr rfl)⟩,rfl⟩ (hZ _ _ _ h1 hB' hgood)
     refine .inl ⟨hw,fun w' ⟨g,hI⟩=>h3 w' ?_⟩
     intro b hb
     rw [hp] at hb
     obtain ⟨_,rfl⟩:=hb
     exact fun _=>hI.2
    | rp sz els ix f =>
     have hrd:rdB (.load n p) s.e bn=bn:=by
      have:ev s.e p=.rp sz els ix f:=by
       rcases tT hEB p with h4|⟨b,h4⟩
       ·rw [←h4];exact hp
       ·rw [h4] at hp;cases hp
      simp only [rdB,this]
     refine i4 (D:=(·∈D)) hLT ho hsel (fun c a w h=>(hQp _ _ _ h).elim) hmD hDc (Inv:=fun g w'=>∀ b,b<w.heap.size→¬Own ρ b→(b<w'.heap.size∧¬Own g.1 b)∧w'.heap[b]?=w.heap[b]?) (fun g w _=>GR.refl _ _ _ _) fuel listed _ a w hfr hDu
      (fun j oj hoj hji hjD hjl g w1 g' w2 hG hI b hb1 hb2=>?_) hready' ?_ (fun b hb1 hb2=>⟨⟨hb1,hb2⟩,rfl⟩) (hZ _ _ _ h1 (by rw [hrd];exact hB) hgood)
     ·obtain ⟨⟨h4,h5⟩,h6⟩:=hI b hb1 hb2
      have h7:=hG.1.keep b h4 h5
      exact ⟨⟨yay h4 hG.1.size,h7.2⟩,h7.1.trans h6⟩
     ·refine .inl ⟨hw,fun w' ⟨g,hI⟩=>h3 w' ?_⟩
      intro b hb
      rw [hp] at hb
      exact fun _=>(hI b hb.1 hb.2).2
    | _=>exact absurd h' (by simp [aOp,hp,iI])
   | _=>simp [iK] at hL
  ·have hL':iK op=false:=by simpa using hL
   have hrun:∀ w',(execOp a.eval o).run P w'=.ok (.value val) w':=fun w'=>h3 w' (by cases op<;>first|trivial|simp [iK] at hL')
   refine free val B (.inl ⟨hw,fun w' _=>hrun w'⟩) (hZ B _ _ h1 (by rw [Ly hL'];exact hB) hgood)
 ·have hh:(St.put { s with e:=e' } o.dst (.v (.tuple #[]))).h=s.h:=by cases o.dst<;>rfl
  have hgood:GoodAt ρ0 X w0 fx N ρ (St.put { s with e:=e' } o.dst (.v (.tuple #[]))) (a.put o.dst undef) w :=
   ⟨⟨hpre.1,by rw [hh];exact hpre.2⟩,⟨by rw [hh];exact hrep,dQ (e:=e') (x:=.v (.tuple #[])) (val:=undef) he' rfl (fun n hn=>by rw [hN];exact hd' n hn) _ rfl⟩,by rw [size_put];exact hN,by cases o.dst<;>exact hdf⟩
  have hB':BI ρ B (rdB op s.e bn) w:=fun b hb=>⟨(hB b hb).1,(hB b hb).2.imp (fun ⟨k,hk,hk'⟩=>⟨k,by
   unfold rdB
   split
   ·split
    ·exact yaf _ hk
    ·exact hk
   ·exact hk,hk'⟩) id⟩
  exact free undef B (.inr ⟨hw,rfl⟩) (hZ B _ _ h' hB' hgood)
theorem Gd {cx:Cx} (hcx:cx.ok P) (hfxe:cx.fx=fx) {ops:Array Oper} {rs:Nat→Bool} (hs:Region.noSelect ops=true) {Q:Exit→Act→World→Prop} (hQp:∀ c a w,¬Q (.panic c) a w) {K:St→Prop}
  (hL:∀ listed a w,L listed a w→Region.ready .any ops listed=[m])
  (hQ:∀ listed s a w,K s→Good ρ0 X w0 fx N s a w→m<ops.size→Region.seqB .any ops (ops.size-m) m listed=true→L listed a w) :
  ∀ (p0 p:LPlan) (listed:Array Bool) (fuel:Nat) (rem:Option (List Nat)),o7 P N ops rs m p0 listed fuel rem=some p→∀ (bn:List Nat) (B:Nat→Prop) (ρ:Nat→Loc) (s:St) (a:Act) (w:World),
   BI ρ B bn w→GoodAt ρ0 X w0 fx N ρ s a w→awP cx p bn K s →
   (rem=none→d7 P .any ops Q L (GR rs) fuel listed (ρ,B) a w) ∧
   (∀ l,rem=some l→∀ i∈l,wpOp P ops Q i (fun a' w'=>∃ g',GR rs i (ρ,B) w g' w'∧d7 P .any ops Q L (GR rs) (fuel-1) (listed.setIfInBounds i true) g' a' w') a w):=by
 intro p0
 induction p0 with
 | done =>
  intro p listed fuel rem hm bn B ρ s a w hB hG h
  cases rem with
  | some l=>simp [o7] at hm
  | none =>
   simp only [o7] at hm
   split at hm
   ·rename_i hr
    simp only [yaa] at hm
    subst hm
    obtain ⟨rfl,hr1,hr2⟩:=hr
    exact ⟨fun _=>hQ listed s a w h ⟨ρ,hG⟩ hr1 hr2,fun l hl=>by cases hl⟩
   ·cases hm
 | none =>
  intro p listed fuel rem hm bn B ρ s a w hB hG h
  cases rem with
  | none=>simp [o7] at hm
  | some l =>
   cases l with
   | nil=>exact ⟨fun h=>(by cases h),fun l hl i hi=>(by cases hl;simp at hi)⟩
   | cons _ _=>simp [o7] at hm
 | take i D l p ih =>
  intro p1 listed fuel rem hm bn B ρ s a w hB hG h
  cases rem with
  | some l=>cases fuel<;>simp [o7] at hm
  | none =>
   cases fuel with
   | zero=>simp [o7] at hm
   | succ fuel =>
    simp only [o7] at hm
    split at hm
    ·rename_i o ho
     split at hm
     ·rename_i op g p' h1 h2 h3 h4
      split at hm
      ·rename_i hok
       simp only [yaa] at hm
       subst hm
       simp only [yac,yaE] at hok
       refine ⟨fun _=>?_,fun l hl=>by cases hl⟩
       refine Em hL (cx:=cx) (K:=fun s'=>awP cx p' (rdB op s.e bn) K s') hs hQp ho h1 h2 h3 hok.1 hok.2 hB hG h ?_
       intro B' s' a' hK hB' hG'
       exact (ih p' _ _ _ h4 _ _ _ _ _ _ hB' hG' hK).1 rfl
      ·cases hm
     ·cases hm
    ·cases hm
 | alt i l r p q ihp ihq =>
  intro p1 listed fuel rem hm bn B ρ s a w hB hG h
  cases fuel with
  | zero=>cases rem<;>simp [o7] at hm
  | succ fuel =>
   simp only [o7] at hm
   split at hm
   ·rename_i j js o hrem ho
    split at hm
    ·rename_i op g p' q' h1 h2 h3 h4 h5
     split at hm
     ·rename_i hc
      obtain ⟨rfl,hr⟩:=hc
      simp only [yaa] at hm
      subst hm
      have hall:∀ i∈j::js,wpOp P ops Q i (fun a' w'=>∃ g',GR rs i (ρ,B) w g' w'∧d7 P .any ops Q L (GR rs) fuel (listed.setIfInBounds i true) g' a' w') a w:=by
       intro i hi
       rcases yal.1 hi with rfl|hi
       ·refine Ea (K:=fun s'=>awP cx p' (if r then bn else []) K s') (Z:=fun g' a' w'=>d7 P .any ops Q L (GR rs) fuel (listed.setIfInBounds i true) g' a' w') hcx hfxe ho h1 h2 h3 hr hB hG h.1 ?_
        intro ρ' B' s' a' w' hK hB' hG'
        exact (ihp p' _ _ _ h4 _ _ _ _ _ _ hB' hG' hK).1 rfl
       ·exact (ihq q' _ _ _ h5 _ _ _ _ _ _ hB hG h.2).2 js rfl i hi
      refine ⟨fun hn=>?_,fun l hl=>?_⟩
      ·subst hn
       simp only [Option.getD_none] at hrem
       exact ⟨fun h0=>(by rw [hrem] at h0;cases h0),by rw [hrem];exact hall⟩
      ·subst hl
       simp only [Option.getD_some] at hrem
       subst hrem
       exact hall
     ·cases hm
    ·cases hm
   ·cases hm
theorem Ke (hP:P.follows .mixedOrders=true) {cx:Cx} (hcx:cx.ok P) (hy:∀ k,YOk P ρ0 X w0 cx.fx k (cx.y k)) {ops:Array Oper} {id:Nat} {Q:Exit→Act→World→Prop} (hQo:¬LetsOut Q) {K:St→Prop}
  (hQ:∀ s a w,K s→Good ρ0 X w0 cx.fx N s a w→Q .normal a w) {p0 p:LPlan} {ls0 ls:List aR} {s:St} {a:Act} {w:World} (hm:Uy P N ops p0 m=some p) (hmt:dX P ops N (ops.toList.drop m) ls0=some ls) (hlt:m<ops.size)
  (hg:Good ρ0 X w0 cx.fx N s a w) (h:awP cx p [] (fun s'=>bC cx ls s' K) s):(Code.region id ops true).wpIn (FR none) 0 P Q a w:=by
 unfold Uy at hm
 split at hm
 ·rename_i hs
  refine wpIn_mono (Q:=nT Q) ?_ (fun e a w he=>?_)
  ·refine wpIn_region_any hP ?_
   obtain ⟨ρ,hG⟩:=Good.drew hg
   have hno:¬LetsOut (nT Q):=fun ⟨a,w,hq⟩=>hQo ⟨a,w,hq⟩
   have hdl:(ops.toList.drop m).length=ops.size-m:=by simp
   have:=sY (P:=P) (md:=.any) (ops:=ops) (Q:=nT Q) (n:=ops.size-m) (G:=GR fun j=>!(Jc p0).contains j)
    (L:=fun listed a w=>(m<ops.size∧Region.seqB .any ops (ops.size-m) m listed=true)∧wpListIn (FR none) 0 P ops (nT Q) (ops.toList.drop m) a w) hno (fun listed a w hL=>by
     have:=lU (P:=P) (r:=none) (md:=.any) (Q:=nT Q) (ops.toList.drop m) m listed a w (fun j=>by simp [List.getElem?_drop]) (by rw [hdl];exact hL.1.2) hL.2
     rwa [hdl] at this) m _ _ _ _
    ((Gd (Q:=nT Q) (m:=m) hcx rfl hs (fun _ _ _ h=>h) (fun listed a w hL=>by
      obtain ⟨⟨h1,h2⟩,_⟩:=hL
      obtain ⟨q,hq⟩:∃ q,ops.size-m=q+1:=⟨ops.size-m-1,by omega⟩
      rw [hq] at h2
      simp only [Region.seqB,yac,decide_eq_true_eq] at h2
      exact h2.1) (fun listed s a w hK hg h1 h2=>⟨⟨h1,h2⟩,iY (Q:=nT Q) hcx hy (fun s a w hK hg=>hQ s a w hK hg) _ _ _ s a w hmt hg hK⟩) p0 p _ _ _ hm [] (fun _=>False) ρ s a _ (fun b hb=>hb.elim) hG h).1 rfl)
   rw [show m+(ops.size-m)=ops.size by omega] at this
   exact this
  ·cases e<;>first|exact he|exact he.elim
 ·cases hm
end
end Go.Fx
namespace Go.Fx
open Go.RowKit
section
variable {P:Program} {X:Nat→Prop} {N:Nat}
theorem Wi [DBase] {cx:Cx} {a:Act} {w:World} {K:St→Prop} {ρ0:Nat→Loc} {w0:World} (xs:List Nat) (s:St) (h:mC cx.fx xs s K) (hg:Good ρ0 X w0 cx.fx N s a w):∃ s',K s'∧Good ρ0 X w0 cx.fx N s' a w:=nE xs s h hg
theorem mS (hP:P.follows .mixedOrders=true):∀ c:Code,Sh P X N c:=by
 intro c
 induction c with
 | skip =>
  intro l0 l hm _ r cx ρ0 w0 hcx hrd hro hy Q Nn Xx Rr hQo hN hX hR s a w h hg
  simp only [rlC,yaa] at hm
  subst hm
  exact wpIn_skip (hN s a w h hg)
 | ret =>
  intro l0 l hm _ r cx ρ0 w0 hcx hrd hro hy Q Nn Xx Rr hQo hN hX hR s a w h hg
  simp only [rlC,yaa] at hm
  subst hm
  exact wpIn_ret (hR s a w h hg)
 | label i =>
  intro l0 l hm _ r cx ρ0 w0 hcx hrd hro hy Q Nn Xx Rr hQo hN hX hR s a w h hg
  simp only [rlC,yaa] at hm
  subst hm
  exact wpIn_label (hN s a w h hg)
 | exit i =>
  intro l0 l hm _ r cx ρ0 w0 hcx hrd hro hy Q Nn Xx Rr hQo hN hX hR s a w h hg
  simp only [rlC,yaa] at hm
  subst hm
  exact wpIn_exit (hX i s a w h hg)
 | region id ops draw =>
  intro l0 l hm _ r cx ρ0 w0 hcx hrd hro hy Q Nn Xx Rr hQo hN hX hR s a w h hg
  have hd:r=none∨ops.toList.all eA=true:=hrd.imp (fun h=>h) fun h=>h.1
  simp only [rlC] at hm
  split at hm
  ·split at hm
   ·rename_i x hr
    simp only [yaa] at hm
    subst hm
    exact wpIn_region_list (u7 hQo _ (hd.imp (fun h=>h) fun h=>yak.1 h) _ _ (lV hcx rfl hN _ _ _ _ a w hr (hg.reserve _ _) h))
   ·cases hm
  ·split at hm
   ·rename_i x hr
    split at hm
    ·rename_i hc
     simp only [yac] at hc
     simp only [yaa] at hm
     subst hm
     rcases hrd with rfl|hrd
     ·exact (wpIn_wide (n:=0)).2 (Jh hP hN hr hc.1 hc.2 (hg.reserve _ _) h)
     ·exact absurd hrd.2 (by simp [fN])
    ·cases hm
   ·cases hm
  ·split at hm
   ·rename_i x hr
    split at hm
    ·rename_i hc
     simp only [yac] at hc
     simp only [yaa] at hm
     subst hm
     rcases hrd with rfl|hrd
     ·exact (wpIn_wide (n:=0)).2 (En hP hcx rfl hN hr hc.1 hc.2 (hg.reserve _ _) h)
     ·exact absurd hrd.2 (by simp [fN])
    ·cases hm
   ·cases hm
  ·split at hm
   ·rename_i x hr
    simp only [yaa] at hm
    subst hm
    exact Qi hP hcx hQo hN hd hr (hg.reserve _ _) h
   ·cases hm
  ·split at hm
   ·rename_i x hr
    split at hm
    ·rename_i hc
     simp only [yaa] at hm
     subst hm
     rcases hrd with rfl|hrd
     ·cases draw with
      | false=>exact wpIn_region_list (iY hcx hy hN _ _ _ _ a w hr (hg.reserve _ _) h)
      | true =>
       simp only [yaF,Bool.false_or,yac] at hc
       exact Pr hP hcx hy hQo hN hr hc.1 hc.2 (hg.reserve _ _) h
     ·exact absurd hrd.2 (by simp [fN])
    ·cases hm
   ·cases hm
  ·split at hm
   ·rename_i p' x hp hr
    split at hm
    ·rename_i hlt
     simp only [yaa] at hm
     subst hm
     rcases hrd with rfl|hrd
     ·exact Ke hP hcx hy hQo hN hp hr hlt (hg.reserve _ _) h
     ·exact absurd hrd.2 (by simp [fN])
    ·cases hm
   ·cases hm
  ·simp only [yaa] at hm
   subst hm
   exact h.elim
  ·cases hm
 | seq a b iha ihb =>
  intro l0 l hm _ r cx ρ0 w0 hcx hrd hro hy Q Nn Xx Rr hQo hN hX hR s ac w h hg
  simp only [rlC] at hm
  split at hm
  ·split at hm
   ·rename_i x' y' h1 h2
    simp only [yaa] at hm
    subst hm
    have hra:r=none∨(cU a=true∧fN x'=true):=hrd.imp (fun h=>h) fun h=>by simp only [cU,fN,yac] at h;exact ⟨h.1.1,h.2.1⟩
    have hrb:r=none∨(cU b=true∧fN y'=true):=hrd.imp (fun h=>h) fun h=>by simp only [cU,fN,yac] at h;exact ⟨h.1.2,h.2.2⟩
    refine wpIn_seq (iha _ _ h1 r cx ρ0 w0 hcx hra hro hy _ (fun s'=>aw cx y' Nn Xx Rr s') Xx Rr (fL hQo) ?_ ?_ ?_ s ac w h hg)
    ·intro s' a' w' h' hg'
     exact ihb _ _ h2 r cx ρ0 w0 hcx hrb hro hy Q Nn Xx Rr hQo hN hX hR s' a' w' h' hg'
    ·exact hX
    ·exact hR
   ·cases hm
  ·split at hm
   ·rename_i x' y' h1 h2
    simp only [yaa] at hm
    subst hm
    have hra:r=none∨(cU a=true∧fN x'=true):=hrd.imp (fun h=>h) fun h=>by simp only [cU,fN,yac] at h;exact ⟨h.1.1,h.2.1⟩
    have hrb:r=none∨(cU b=true∧fN y'=true):=hrd.imp (fun h=>h) fun h=>by simp only [cU,fN,yac] at h;exact ⟨h.1.2,h.2.2⟩
    simp only [aw] at h
    obtain ⟨s1,h,hg⟩:=Wi _ s h hg
    refine wpIn_seq (iha _ _ h1 r cx ρ0 w0 hcx hra hro hy _ (fun s'=>aw cx y' Nn Xx Rr s') Xx Rr (fL hQo) ?_ ?_ ?_ s1 ac w h hg)
    ·intro s' a' w' h' hg'
     exact ihb _ _ h2 r cx ρ0 w0 hcx hrb hro hy Q Nn Xx Rr hQo hN hX hR s' a' w' h' hg'
    ·exact hX
    ·exact hR
   ·cases hm
  ·simp only [yaa] at hm
   subst hm
   exact h.elim
  ·cases hm
 | cond c a b iha ihb =>
  intro l0 l hm _ r cx ρ0 w0 hcx hrd hro hy Q Nn Xx Rr hQo hN hX hR s ac w h hg
  simp only [rlC] at hm
  split at hm
  ·split at hm
   ·rename_i x' y' h1 h2
    simp only [yaa] at hm
    subst hm
    have hra:r=none∨(cU a=true∧fN x'=true):=hrd.imp (fun h=>h) fun h=>by simp only [cU,fN,yac] at h;exact ⟨h.1.1,h.2.1⟩
    have hrb:r=none∨(cU b=true∧fN y'=true):=hrd.imp (fun h=>h) fun h=>by simp only [cU,fN,yac] at h;exact ⟨h.1.2,h.2.2⟩
    simp only [aw] at h
    obtain ⟨t,ht,hA,hB⟩:=Rx h
    have hev:ac.eval c=.bool t:=by
     obtain ⟨ρ,_,⟨_,he⟩,_⟩:=hg
     have:=aF he c
     rw [ht] at this
     exact this
    refine wpIn_cond hev ?_
    cases t
    ·exact ihb _ _ h2 r cx ρ0 w0 hcx hrb hro hy Q Nn Xx Rr hQo hN hX hR s ac w (hB rfl) hg
    ·exact iha _ _ h1 r cx ρ0 w0 hcx hra hro hy Q Nn Xx Rr hQo hN hX hR s ac w (hA rfl) hg
   ·cases hm
  ·cases hm
 | block i a iha =>
  intro l0 l hm _ r cx ρ0 w0 hcx hrd hro hy Q Nn Xx Rr hQo hN hX hR s ac w h hg
  simp only [rlC] at hm
  split at hm
  ·split at hm
   ·rename_i x' h1
    simp only [yaa] at hm
    subst hm
    refine wpIn_block (iha _ _ h1 r cx ρ0 w0 hcx hrd hro hy (Exit.inBlock i Q) Nn (fun j s'=>if j=i then Nn s' else Xx j s') Rr (fun ⟨a,w,hq⟩=>hQo ⟨a,w,hq⟩) ?_ ?_ ?_ s ac w h hg)
    ·exact hN
    ·intro j s' a' w' h' hg'
     show if j=i then _ else _
     split at h'
     ·rename_i hj;rw [if_pos hj];exact hN s' a' w' h' hg'
     ·rename_i hj;rw [if_neg hj];exact hX j s' a' w' h' hg'
    ·exact hR
   ·cases hm
  ·cases hm
 | loop a iha =>
  intro l0 l hm _ r cx ρ0 w0 hcx hrd hro hy Q Nn Xx Rr hQo hN hX hR s ac w h hg
  simp only [rlC] at hm
  split at hm
  ·split at hm
   ·rename_i x' h1
    simp only [yaa] at hm
    subst hm
    obtain ⟨G,pat,I,μ,L,hL,⟨g,hI,hle⟩,hround⟩:=h
    refine wpIn_loop_ghost (fun n a w=>∃ g,(I g∧μ g=n)∧Good ρ0 X w0 cx.fx N (pat g) a w) (μ g) ⟨g,⟨hI,rfl⟩,hg.leG hle⟩ ?_
    rintro n a' w' ⟨g',⟨hI',rfl⟩,hg'⟩
    refine iha _ _ h1 r cx ρ0 w0 hcx hrd hro hy _ _ Xx Rr (fL hQo) ?_ ?_ ?_ (pat g') a' w' (hround g' hI') hg'
    ·rintro s' a'' w'' ⟨g'',⟨hI'',hlt⟩,hle''⟩ hg''
     exact ⟨μ g'',hlt,g'',⟨hI'',rfl⟩,hg''.leG (hL _ _ hle'')⟩
    ·exact hX
    ·exact hR
   ·cases hm
  ·cases hm
 | rangeFunc g ps asg body iha ihb=>exact Vb iha ihb
 | scope c ih =>
  intro l0 l hm _ r cx ρ0 w0 hcx hrd hro hy Q Nn Xx Rr hQo hN hX hR s a w h hg
  simp only [rlC] at hm
  rcases hrd with rfl|hrd
  ·exact (wpIn_wide (n:=0)).2 (wp_scope_straight ((wpIn_wide (n:=0)).1 (ih l0 l hm none cx ρ0 w0 hcx (.inl rfl) hro hy (Exit.noGoto Q) Nn Xx Rr (fun ⟨a,w,hq⟩=>hQo ⟨a,w,hq⟩) hN hX hR s a w h hg)))
  ·exact absurd hrd.1 (by simp [cU])
 | _=>intro l0 l hm;simp [rlC] at hm
end
end Go.Fx
namespace Go.Fx
open Go.RowKit
section
variable {X:Nat→Prop} {ρ:Nat→Loc} {w w':World}
mutual
theorem yP {S S':Nat→Prop} (hS:∀ b,S b→S' b) (hc:∀ b o,w'.cell? ⟨b,o,none⟩=w.cell? ⟨b,o,none⟩):∀ (x:V) (val:Value),eM S w x val→eM S' w' x val
 | .v _,_,h=>h
 | .ro sz els,val,h=>by
  obtain ⟨a,len,cap,h1,h2,h3,h4,h5⟩:=h
  refine ⟨a,len,cap,h1,h2,h3,h4,h5.imp id ?_⟩
  rintro ⟨b,off,h6,h7,h8⟩
  exact ⟨b,off,h6,hS b h7,fA hS hc sz b off els h8⟩
 | .any,_,h|.bro _ _,_,h|.full _ _,_,h|.sl _ _ _,_,h|.ptr _ _ _,_,h|.rp _ _ _ _,_,h|.agg _,_,h|.tup _,_,h|.clo _ _,_,h|.mp _,_,h|.itr _,_,h=>h.elim
theorem fA {S S':Nat→Prop} (hS:∀ b,S b→S' b) (hc:∀ b o,w'.cell? ⟨b,o,none⟩=w.cell? ⟨b,o,none⟩) (sz b:Nat):∀ (off:Nat) (els:List (List V)),cC S w sz b off els→cC S' w' sz b off els
 | _,[],_=>trivial
 | off,e::r,h=>⟨⟨h.1.1,v8 hS hc b off e h.1.2⟩,fA hS hc sz b (off+sz) r h.2⟩
theorem v8 {S S':Nat→Prop} (hS:∀ b,S b→S' b) (hc:∀ b o,w'.cell? ⟨b,o,none⟩=w.cell? ⟨b,o,none⟩) (b:Nat):∀ (off:Nat) (cs:List V),gN S w b off cs→gN S' w' b off cs
 | _,[],_=>trivial
 | off,x::r,h=>⟨by obtain ⟨⟨val,h1,h2⟩,_⟩:=h;exact ⟨val,(hc b off).trans h1,yP hS hc x val h2⟩,v8 hS hc b (off+1) r h.2⟩
end
mutual
theorem k6 (hs:w'.heap.size=w.heap.size) (hc:∀ b o,w'.cell? ⟨b,o,none⟩=w.cell? ⟨b,o,none⟩):∀ (x:V) (val:Value),aK ρ X w x val→aK ρ X w' x val
 | .any,_,_=>trivial
 | .v _,_,h=>h
 | .ro sz els,val,h=>yP (fun b hb=>⟨hs▸hb.1,hb.2⟩) hc (.ro sz els) val h
 | .bro sz els,val,h=>by
  obtain ⟨a,len,cap,h1,h2,h3,h4,h5⟩:=h
  refine ⟨a,len,cap,h1,h2,h3,h4,h5.imp id ?_⟩
  rintro ⟨b,off,h6,h7,h8⟩
  exact ⟨b,off,h6,⟨hs▸h7.1,h7.2⟩,fA (fun b hb=>⟨hs▸hb.1,hb.2⟩) hc sz b off els h8⟩
 | .full sz els,val,h=>by
  obtain ⟨a,len,h1,h2,h4,h5⟩:=h
  refine ⟨a,len,h1,h2,h4,h5.imp id ?_⟩
  rintro ⟨b,off,h6,h7,h8⟩
  exact ⟨b,off,h6,⟨hs▸h7.1,h7.2⟩,fA (fun b hb=>⟨hs▸hb.1,hb.2⟩) hc sz b off els h8⟩
 | .sl _ _ _,_,h=>h
 | .ptr _ _ _,_,h=>h
 | .rp sz els i f,val,h=>by
  obtain ⟨b,off,h6,h7,h8⟩:=h
  exact ⟨b,off,h6,⟨hs▸h7.1,h7.2⟩,fA (fun b hb=>⟨hs▸hb.1,hb.2⟩) hc sz b off els h8⟩
 | .agg cs,val,h=>by
  obtain ⟨arr,h1,h2⟩:=h
  exact ⟨arr,h1,hU hs hc cs arr.toList h2⟩
 | .tup cs,val,h=>by
  obtain ⟨arr,h1,h2⟩:=h
  exact ⟨arr,h1,hU hs hc cs arr.toList h2⟩
 | .clo f cs,val,h=>by
  obtain ⟨arr,h1,h2⟩:=h
  exact ⟨arr,h1,hU hs hc cs arr.toList h2⟩
 | .mp _,_,h=>h
 | .itr _,_,h=>h
theorem hU (hs:w'.heap.size=w.heap.size) (hc:∀ b o,w'.cell? ⟨b,o,none⟩=w.cell? ⟨b,o,none⟩):∀ (xs:List V) (vs:List Value),a7 ρ X w xs vs→a7 ρ X w' xs vs
 | [],[],_=>trivial
 | x::r,u::us,h=>⟨k6 hs hc x u h.1,hU hs hc r us h.2⟩
 | [],_::_,h=>h.elim
 | _::_,[],h=>h.elim
end
theorem Ka (hs:w'.heap.size=w.heap.size) (hc:∀ b o,w'.cell? ⟨b,o,none⟩=w.cell? ⟨b,o,none⟩) {k:Nat} (hb:(ρ k).real=true→w'.heap[(ρ k).blk]?=w.heap[(ρ k).blk]?) {B:Blk} (h:aQ ρ X w k B):aQ ρ X w' k B:=by
 cases B with
 | dead=>exact h
 | arr sz els =>
  refine ⟨h.1,h.2.imp id ?_⟩
  rintro ⟨h1,c,T,h2,h3,h4,h5⟩
  exact ⟨h1,c,T,(hb h1).trans h2,h3,h4,fA (fun b hb=>⟨hs▸hb.1,hb.2⟩) hc sz _ _ _ h5⟩
 | var cs =>
  obtain ⟨h1,c,T,h2,h3⟩:=h
  exact ⟨h1,c,T,(hb h1.1).trans h2,hU hs hc _ _ h3.1,h3.2⟩
 | arv sz els =>
  obtain ⟨h0,h1,c,T,h2,h3,h4,h5⟩:=h
  refine ⟨h0,h1,c,T,(hb h1).trans h2,h3,h4,fun i e he=>⟨(h5 i e he).1,fun f x hx=>?_⟩⟩
  obtain ⟨u,h6,h7⟩:=(h5 i e he).2 f x hx
  exact ⟨u,h6,k6 hs hc _ _ h7⟩
 | map es cl =>
  obtain ⟨h1,arr,h2,h3,h4⟩:=h
  exact ⟨h1,arr,(hb h1.1).trans h2,h3,hU hs hc _ _ h4⟩
 | it m s sn l =>
  obtain ⟨h1,x,h2,h3⟩:=h
  exact ⟨h1,x,(hb h1.1).trans h2,k6 hs hc _ _ h3⟩
 | rcd t e=>exact ⟨n7 hb h.1,fun i=>k6 hs hc _ _ (h.2 i)⟩
variable [DBase] {ρ0:Nat→Loc} {w0:World} {fx:List Nat} {N:Nat}
theorem Good.takeD {s:St} {a:Act} {w:World} {n:Nat} (hg:Good ρ0 X w0 fx N s a w) (hl:a.defers.length=n+1+DBase.ds.length) :
  ∃ D ds,a.defers=uX D::ds∧w.heap[D]?=some (.deferred (some []))∧Good ρ0 X w0 fx N s { a with defers:=ds } (w.putObj D (.deferred none)):=by
 obtain ⟨ρ,⟨⟨hf,h1⟩,hk⟩,⟨hr,he⟩,h5,Ds,⟨hDs,hnd⟩,hM⟩:=hg
 cases Ds with
 | nil=>rw [hDs] at hl;simp at hl
 | cons D Ds =>
  obtain ⟨⟨g1,g2⟩,g3,g4⟩:=hM D yag
  refine ⟨D,_,hDs,g4,?_⟩
  have hoth:∀ b,b≠D→(w.putObj D (.deferred none)).heap[b]?=w.heap[b]?:=fun b hb=>World.putObj_heap_other hb
  have hs:(w.putObj D (.deferred none)).heap.size=w.heap.size:=World.putObj_size
  have hc:∀ b o,(w.putObj D (.deferred none)).cell? ⟨b,o,none⟩=w.cell? ⟨b,o,none⟩:=by
   intro b o
   by_cases hb:b=D
   ·subst hb
    simp [World.cell?,World.putObj_heap_same g2,g4]
   ·exact cell_of_heap (hoth b hb)
  have hown:∀ k,(ρ k).real=true→(ρ k).blk≠D:=fun k hk e=>g3 ⟨k,hk,e⟩
  refine ⟨ρ,⟨⟨⟨hf.os,hf.tape,hf.output,by rw [hs];exact hf.size,fun b hb ho=>⟨(hoth b (by omega)).trans (hf.keep b hb ho).1,(hf.keep b hb ho).2⟩⟩,h1⟩,hk⟩,
   ⟨⟨hr.inj,hr.out,fun k B hB=>Ka hs hc (fun hk=>hoth _ (hown k hk)) (hr.blk k B hB),hr.disj,fun k hk=>by rw [hs];exact hr.lt k hk,⟨fun b hb=>by rw [hs];exact hr.xlt.1 b hb,fun p hp i hi=>by rw [hc];exact hr.xlt.2 p hp i hi⟩⟩,fun i=>k6 hs hc _ _ (he i)⟩,
   h5,Ds,⟨rfl,(yaz.1 hnd).2⟩,fun E hE=>?_⟩
  obtain ⟨⟨k1,k2⟩,k3,k4⟩:=hM E (yaf _ hE)
  have hne:E≠D:=fun e=>(yaz.1 hnd).1 (e▸hE)
  exact ⟨⟨k1,by rw [hs];exact k2⟩,k3,(hoth E hne).trans k4⟩
theorem Good.marked {s:St} {a:Act} {w:World} (hg:Good ρ0 X w0 fx N s a w):∃ n,a.defers.length=n+DBase.ds.length:=by
 obtain ⟨ρ,_,_,_,Ds,⟨hDs,_⟩,_⟩:=hg
 exact ⟨Ds.length,by rw [hDs];simp⟩
theorem Good.base {s:St} {a:Act} {w:World} (hg:Good ρ0 X w0 fx N s a w) (hl:a.defers.length=DBase.ds.length):a.defers=DBase.ds:=by
 obtain ⟨ρ,_,_,_,Ds,⟨hDs,_⟩,_⟩:=hg
 cases Ds with
 | nil=>simpa using hDs
 | cons D Ds=>rw [hDs] at hl;simp at hl;omega
theorem mL {P:Program} {fn:Func} {R:Ending→World→Prop} {s:St} (hend:∀ (a:Act) (w:World),Good ρ0 X w0 fx N s a w→a.defers=DBase.ds→LeavesInM Fence.wide 0 P fn a.tmps R a.defers .returning w) :
  ∀ (n:Nat) (a:Act) (w:World),a.defers.length=n+DBase.ds.length→Good ρ0 X w0 fx N s a w→LeavesInM Fence.wide 0 P fn a.tmps R a.defers .returning w
 | 0,a,w,hl,hg=>hend a w hg (hg.base (by omega))
 | n+1,a,w,hl,hg=>by
  obtain ⟨D,ds,hd,h1,h2⟩:=hg.takeD (n:=n) (by omega)
  rw [hd]
  have:=mL hend n { a with defers:=ds } _ (by rw [hd] at hl;simp at hl ⊢;omega) h2
  exact ⟨by simp,.inl ⟨D,_,rfl,run_takeDeferred h1,this⟩⟩
end
section
variable {X:Nat→Prop} {ρ0:Nat→Loc} {w0:World} {fx:List Nat} {N:Nat}
theorem fS {P:Program} {fn:Func} {R:Ending→World→Prop} {s:St} (hend:∀ (a:Act) (w:World),Good ρ0 X w0 fx N s a w→∃ v,(results fn a.tmps).run P w=.ok v w∧R (.returned v) w)
  (ds:List Deferred) (a:Act) (w:World) (hd:a.defers=ds) (hg:Good ρ0 X w0 fx N s a w):LeavesInM Fence.wide 0 P fn a.tmps R ds .returning w:=by
 subst hd
 obtain ⟨n,hn⟩:=hg.marked
 refine mL (fun a w hg h0=>?_) n a w hn hg
 rw [h0]
 exact hend a w hg
end
end Go.Fx
namespace Go.Fx
open Go.RowKit
def Et (P:Program):ResultVar→Option eT
 | .tmp t=>some (.tmp t)
 | .cell a t=>match P.info? t,P.underlying t with
  | some i,some d=>some (.cell a (if d.isRow then some i.size else none))
  | _,_=>none
def nP (P:Program):List ResultVar→Option (List eT)
 | []=>some []
 | r::rs=>match Et P r,nP P rs with
  | some x,some xs=>some (x::xs)
  | _,_=>none
def Ew (tmps:Array Value):ResultVar→Sem Value
 | .tmp t=>pure (tmps.getD t undef)
 | .cell a t=>do loadVar t (← asAddr (tmps.getD a undef))
def s9:List Value→Value
 | [u]=>u
 | us=>.tuple us.toArray
section
variable {P:Program} {ρ:Nat→Loc} {X:Nat→Prop} {w:World}
def Xd (P:Program) (w:World) (tmps:Array Value):List ResultVar→List Value→Prop
 | [],[]=>True
 | r::rs,u::us=>(Ew tmps r).run P w=.ok u w∧Xd P w tmps rs us
 | _,_=>False
theorem gH {fn:Func} {tmps:Array Value} {us:List Value} (hn:fn.results.toList.length≤4) (h:Xd P w tmps fn.results.toList us) :
  (results fn tmps).run P w=.ok (s9 us) w:=by
 have hr:fn.results=fn.results.toList.toArray:=by simp
 have hres:results fn tmps=(do
   let vs ← fn.results.toList.toArray.mapM (Ew tmps)
   pure (if h:vs.size=1 then vs[0] else .tuple vs)):=by
  unfold results
  rw [←hr]
  congr 1
 rw [hres]
 generalize fn.results.toList=l at h hn
 match l,us,h,hn with
 | [],[],_,_=>simp [s9]
 | [a],[u],⟨h1,_⟩,_=>simp [h1,s9]
 | [a,b],[u,v],⟨h1,h2,_⟩,_=>simp [h1,h2,s9]
 | [a,b,c],[u,v,x],⟨h1,h2,h3,_⟩,_=>simp [h1,h2,h3,s9]
 | [a,b,c,d],[u,v,x,y],⟨h1,h2,h3,h4,_⟩,_=>simp [h1,h2,h3,h4,s9]
 | _::_::_::_::_::_,_,_,hn=>simp at hn
 | [],_::_,h,_=>exact h.elim
 | [_],[],h,_=>exact h.elim
 | [_],_::_::_,h,_=>exact h.2.elim
 | [_,_],[],h,_=>exact h.elim
 | [_,_],[_],h,_=>exact h.2.elim
 | [_,_],_::_::_::_,h,_=>exact h.2.2.elim
 | [_,_,_],[],h,_=>exact h.elim
 | [_,_,_],[_],h,_=>exact h.2.elim
 | [_,_,_],[_,_],h,_=>exact h.2.2.elim
 | [_,_,_],_::_::_::_::_,h,_=>exact h.2.2.2.elim
 | [_,_,_,_],[],h,_=>exact h.elim
 | [_,_,_,_],[_],h,_=>exact h.2.elim
 | [_,_,_,_],[_,_],h,_=>exact h.2.2.elim
 | [_,_,_,_],[_,_,_],h,_=>exact h.2.2.2.elim
 | [_,_,_,_],_::_::_::_::_::_,h,_=>exact h.2.2.2.2.elim
theorem jQ {h:List Blk} {e:Env} {tmps:Array Value} (hr:Rep ρ X w h) (he:cD ρ X w e tmps) {K:List V→Prop} :
  ∀ (rs:List ResultVar) (ls:List eT) (acc:List V) (us:List Value),nP P rs=some ls→a7 ρ X w acc us→aU h e ls acc K →
   ∃ xs vs,K (acc.reverse++xs)∧a7 ρ X w xs vs∧Xd P w tmps rs vs
 | [],ls,acc,us,hm,ha,hk=>by
  simp only [nP,yaa] at hm
  subst hm
  exact ⟨[],[],by simpa [aU] using hk,trivial,trivial⟩
 | r::rs,ls,acc,us,hm,ha,hk=>by
  simp only [nP] at hm
  split at hm
  ·rename_i x xs hx hxs
   simp only [yaa] at hm
   subst hm
   cases r with
   | tmp t =>
    simp only [Et,yaa] at hx
    subst hx
    obtain ⟨ys,vs,h1,h2,h3⟩:=jQ hr he rs xs (get e t::acc) (tmps.getD t undef::us) hxs ⟨he t,ha⟩ hk
    exact ⟨get e t::ys,tmps.getD t undef::vs,by simpa using h1,⟨he t,h2⟩,rfl,h3⟩
   | cell a t =>
    simp only [Et] at hx
    split at hx
    ·rename_i inf d hi hu
     simp only [yaa] at hx
     subst hx
     simp only [aU] at hk
     obtain ⟨y,val,h1,h2,h3⟩:=Nd hr hi hu rfl (he a) hk
     obtain ⟨ys,vs,h4,h5,h6⟩:=jQ hr he rs xs (y::acc) (val::us) hxs ⟨h2,ha⟩ h1
     refine ⟨y::ys,val::vs,by simpa using h4,⟨h2,h5⟩,?_,h6⟩
     have h7:=h3 w (Ext.refl w)
     have hp:=he a
     have hptr:∃ ad,tmps.getD a undef=.pointer (some ad):=by
      revert hk
      unfold iI
      split
      ·rename_i k i f hv;intro _;rw [hv] at hp;exact ⟨_,hp.2⟩
      ·rename_i sz els i f hv;intro _;rw [hv] at hp;obtain ⟨b,off,h8,_⟩:=hp;exact ⟨_,h8⟩
      ·intro hk;exact hk.elim
     obtain ⟨ad,had⟩:=hptr
     rw [had] at h7
     simp only [Ew,had,asAddr,Sem.run_bind,Sem.run_pure,Result.andThen_ok]
     simpa [Instr.loadAt,Instr.sureAddr] using h7
    ·cases hx
  ·cases hm
theorem tJ {xs:List V} {us:List Value} (h:a7 ρ X w xs us):aK ρ X w (aY xs) (s9 us):=by
 match xs,us,h with
 | [],[],_=>exact ⟨#[],rfl,trivial⟩
 | [x],[u],h=>exact h.1
 | x::y::r,u::v::s,h=>exact ⟨(u::v::s).toArray,rfl,h⟩
 | [_],_::_::_,h=>exact h.2.elim
 | _::_::_,[_],h=>exact h.2.elim
 | [],_::_,h=>exact h.elim
 | _::_,[],h=>exact h.elim
theorem yL:∀ (i:Nat) (xs:List V) (j:Nat),get (aL i xs) j=if i≤j then (xs[j-i]?).getD .any else .any
 | i,[],j=>by simp [aL,get]
 | i,x::r,j=>by
  simp only [aL,get]
  by_cases h:j=i
  ·subst h;simp
  ·rw [if_neg h,yL (i+1) r j]
   by_cases h2:i+1≤j
   ·rw [if_pos h2,if_pos (by omega)]
    rw [show j-i=(j-(i+1))+1 by omega]
    simp
   ·rw [if_neg h2,if_neg (by omega)]
theorem fW {xs:List V} {vals:List Value} (h:a7 ρ X w xs vals) (n:Nat):cD ρ X w (aL 0 xs) (vals.toArray++yah n undef):=by
 intro i
 rw [yL]
 simp only [yas,if_true,Nat.sub_zero]
 cases hx:xs[i]? with
 | none=>trivial
 | some x =>
  obtain ⟨v,h1,h2⟩:=bX h hx
  have hi:i<vals.length:=(yae.1 h1).1
  have:(vals.toArray++yah n undef).getD i undef=v:=by
   rw [yav,Array.getElem?_append_left (by simpa using hi)]
   simp [h1]
  rw [this]
  exact h2
theorem abM (hP:P.follows .mixedOrders=true) {cx:Cx} (hcx:cx.ok P) {f:FuncId} {fn:Func} {c:Code} {l0 l:LCode} {rs:List eT} (hf:P.funcs[f]?=some fn) (hb:fn.body=some c)
  (hm:rlC P fn.ntmps c l0=some l) (hres:nP P fn.results.toList=some rs) (h4:fn.results.toList.length≤4) {args:List V} {h0:List Blk} {mv:List Nat} {R:V→List Blk→Prop}
  (hlen:args.length≤fn.ntmps) (hfx:aC cx.fx h0) (hmv:∀ k,k<h0.length→k∉mv→k∈cx.fx)
  (h:aw cx l (eJ cx.fx h0.length rs R) (fun _ _=>False) (eJ cx.fx h0.length rs R) ⟨aL 0 args,h0,0⟩) (hy:cx.y=fun _ _ _ _=>False:=by rfl) (hk:cx.rk=none:=by rfl):Fn P f args h0 mv R:=by
 intro ρ X w vals hr ha
 have hvl:=b7 ha
 refine (callsIn_wide (n:=0)).1 (callsIn_of_wp_marks hf hb trivial ?_)
 have hg:Good ρ X w cx.fx fn.ntmps ⟨aL 0 args,h0,0⟩ { tmps:=vals.toArray++yah (fn.ntmps-vals.toArray.size) undef,defers:=[] } w :=
  ⟨ρ,⟨⟨Fr.refl _ _,fun _ _=>rfl⟩,hfx⟩,⟨hr,fW ha _⟩,by simp;omega,Marks.nil⟩
 have hend:∀ s,eJ cx.fx h0.length rs R s→∀ a w',Good ρ X w cx.fx fn.ntmps s a w'→∃ v,(results fn a.tmps).run P w'=.ok v w'∧∃ val r h' ρ',Ending.returned v=.returned val∧(R r h'∧h0.length≤h'.length)∧Fr ρ w ρ' w'∧Rep ρ' X w' h'∧aK ρ' X w' r val ∧
   ∀ k,k<h0.length→k∉mv→ρ' k=ρ k:=by
  intro s hret a w' hgood
  obtain ⟨ρ',⟨⟨hf1,hfx1⟩,hk1⟩,⟨hr1,he1⟩,hN1,hd1⟩:=hgood
  obtain ⟨xs,vs,h5,h6,h7⟩:=jQ hr1 he1 fn.results.toList rs [] [] hres trivial hret
  obtain ⟨p,⟨h8,h9,h10,h11,h12⟩,h13⟩:=h5
  refine ⟨s9 vs,gH h4 h7,_,_,p,cO ρ' p,rfl,⟨h13,h10⟩,hf1.trans gE,lO hr1 h8 h12,?_,fun k hk hkm=>?_⟩
  ·exact eE _ _ h11 (tJ (by simpa using h6))
  ·have hkf:=hmv k hk hkm
   rw [bZ (aN h9 k hkf)]
   exact hfx1 k hkf
 refine mS (P:=P) (X:=X) (N:=fn.ntmps) hP c l0 l hm none cx ρ w hcx (.inl rfl) (by unfold ROk;rw [hk];trivial) (fun k=>by rw [hy];exact j8) _ (eJ cx.fx h0.length rs R) (fun _ _=>False) (eJ cx.fx h0.length rs R) ?_ ?_ (fun _ _ _ _ hx _=>hx.elim) ?_ _ _ _ h hg
 ·rintro ⟨a,w',val,_,_,_,hq,_⟩
  cases hq
 ·intro s a w' hret hgood
  exact fS (hend s hret) a.defers a w' rfl hgood
 ·intro s a w' hret hgood
  exact fS (hend s hret) a.defers a w' rfl hgood
theorem Sj (hP:P.follows .mixedOrders=true) {cx:Cx} (hcx:cx.ok P) {f:FuncId} {fn:Func} {c:Code} {l0 l:LCode} (hf:P.funcs[f]?=some fn) (hb:fn.body=some c)
  (hm:rlC P fn.ntmps c l0=some l) (hres:nP P fn.results.toList=some []) {args:List V} {h0:List Blk} {k:Nat} {Y:Yt} {K:List Blk→Prop}
  (hlen:args.length≤fn.ntmps) (h:aw cx l (fun s=>K s.h) (fun _ _=>False) (fun s=>K s.h) ⟨aL 0 args,h0,0⟩) (hy:cx.y=fun k' xs s Z=>k'=k∧Y xs s Z) (hk:cx.rk=none:=by rfl):Sk P f args cx.fx k Y h0 K:=by
 intro ρ X w vals hr ha hfx hY
 have hvl:=b7 ha
 have hnil:fn.results.toList=[]:=by
  cases hl:fn.results.toList with
  | nil=>rfl
  | cons r rs =>
   rw [hl] at hres
   simp only [nP] at hres
   split at hres<;>simp at hres
 refine (callsIn_wide (n:=0)).1 (callsIn_of_wp_marks hf hb trivial ?_)
 have hg:Good ρ X w cx.fx fn.ntmps ⟨aL 0 args,h0,0⟩ { tmps:=vals.toArray++yah (fn.ntmps-vals.toArray.size) undef,defers:=[] } w :=
  ⟨ρ,⟨⟨Fr.refl _ _,fun _ _=>rfl⟩,hfx⟩,⟨hr,fW ha _⟩,by simp;omega,Marks.nil⟩
 have hend:∀ s,K s.h→∀ a w',Good ρ X w cx.fx fn.ntmps s a w'→∃ v,(results fn a.tmps).run P w'=.ok v w'∧∃ val h' ρ',Ending.returned v=.returned val∧K h'∧(Fr ρ w ρ' w'∧Rep ρ' X w' h')∧(∀ j∈cx.fx,ρ' j=ρ j)∧aC cx.fx h':=by
  intro s hK a w' hgood
  obtain ⟨ρ',⟨⟨hf1,hfx1⟩,hk1⟩,⟨hr1,he1⟩,hN1,hd1⟩:=hgood
  exact ⟨s9 [],gH (us:=[]) (by rw [hnil];simp) (by rw [hnil];trivial),_,s.h,ρ',rfl,hK,⟨hf1,hr1⟩,hfx1,hk1⟩
 refine mS (P:=P) (X:=X) (N:=fn.ntmps) hP c l0 l hm none cx ρ w hcx (.inl rfl) (by unfold ROk;rw [hk];trivial) (fun k'=>?_) _ (fun s=>K s.h) (fun _ _=>False) (fun s=>K s.h) ?_ ?_ (fun _ _ _ _ hx _=>hx.elim) ?_ _ _ _ h hg
 ·rw [hy]
  intro ρ1 w1 s tmps xs vs Z h1 h2 h3 h5 h6 h7
  obtain ⟨rfl,h7⟩:=h7
  exact hY ρ1 w1 s tmps xs vs Z h1 h2 h3 h5 h6 h7
 ·rintro ⟨a,w',val,_,_,hq,_⟩
  cases hq
 ·intro s a w' hret hgood
  exact fS (hend s hret) a.defers a w' rfl hgood
 ·intro s a w' hret hgood
  exact fS (hend s hret) a.defers a w' rfl hgood
def rlF (P:Program) (f:FuncId) (l0:LCode):Option (LCode × List eT × Nat) :=
 match P.funcs[f]? with
 | some fn=>match fn.body,nP P fn.results.toList,decide (fn.results.toList.length≤4)&&!(fn.name == "runtime.NumGoroutine") with
  | some c,some rs,true=>(rlC P fn.ntmps c l0).map fun l=>(l,rs,fn.ntmps)
  | _,_,_=>none
 | none=>none
theorem gS {P:Program} {f:FuncId} {l0 l:LCode} {rs:List eT} {nt:Nat} (h:rlF P f l0=some (l,rs,nt)):c9 P f:=by
 unfold rlF at h
 split at h
 ·rename_i fn hf
  split at h
  ·rename_i c rs' hb hr ht
   simp only [yac,yao,decide_eq_true_eq] at ht
   exact ⟨fn,hf,ht.2,by simp [hb]⟩
  ·cases h
 ·cases h
theorem abL {P:Program} (hP:P.follows .mixedOrders=true) {cx:Cx} (hcx:cx.ok P) {f:FuncId} {l0 l:LCode} {rs:List eT} {nt:Nat} (hl:rlF P f l0=some (l,rs,nt))
  {args:List V} {h0:List Blk} {mv:List Nat} {R:V→List Blk→Prop} (hlen:args.length≤nt) (hfx:aC cx.fx h0) (hmv:∀ k,k<h0.length→k∉mv→k∈cx.fx)
  (h:aw cx l (eJ cx.fx h0.length rs R) (fun _ _=>False) (eJ cx.fx h0.length rs R) ⟨aL 0 args,h0,0⟩) (hy:cx.y=fun _ _ _ _=>False:=by rfl) (hk:cx.rk=none:=by rfl):Fn P f args h0 mv R:=by
 unfold rlF at hl
 split at hl
 ·rename_i fn hf
  split at hl
  ·rename_i c rs' hb hr ht
   simp only [yac,yao,decide_eq_true_eq] at ht
   cases hm:rlC P fn.ntmps c l0 with
   | none=>simp [hm] at hl
   | some l1 =>
    simp only [hm,yap,yaa,yaq] at hl
    obtain ⟨rfl,rfl,rfl⟩:=hl
    exact abM hP hcx hf hb hm hr ht.1 hlen hfx hmv h hy hk
  ·cases hl
 ·cases hl
theorem Si {P:Program} (hP:P.follows .mixedOrders=true) {cx:Cx} (hcx:cx.ok P) {f:FuncId} {l0 l:LCode} {nt:Nat} (hl:rlF P f l0=some (l,[],nt))
  {args:List V} {h0:List Blk} {k:Nat} {Y:Yt} {K:List Blk→Prop} (hlen:args.length≤nt)
  (h:aw cx l (fun s=>K s.h) (fun _ _=>False) (fun s=>K s.h) ⟨aL 0 args,h0,0⟩) (hy:cx.y=fun k' xs s Z=>k'=k∧Y xs s Z) (hk:cx.rk=none:=by rfl):Sk P f args cx.fx k Y h0 K:=by
 unfold rlF at hl
 split at hl
 ·rename_i fn hf
  split at hl
  ·rename_i c rs' hb hr ht
   cases hm:rlC P fn.ntmps c l0 with
   | none=>simp [hm] at hl
   | some l1 =>
    simp only [hm,yap,yaa,yaq] at hl
    obtain ⟨rfl,rfl,rfl⟩:=hl
    exact Sj hP hcx hf hb hm hr hlen h hy hk
  ·cases hl
 ·cases hl
end
end Go.Fx
namespace Go.Fx
open Go.RowKit Go.ChangeShapes Go.WideShapes
def WfV:T→V→Prop
 | .st fs,x=>∃ cs,Pi fs cs∧x=.agg cs
 | .int k,x=>WfT (.int k) [x]
 | .bool,x=>WfT .bool [x]
 | .str,x=>WfT .str [x]
 | .sl sz e,x=>WfT (.sl sz e) [x]
def WfA:List T→List V→Prop
 | [],xs=>xs=[]
 | t::ts,xs=>∃ x r,xs=x::r∧WfV t x∧WfA ts r
def It (P:Program):List TypeId→Option (List T)
 | []=>some []
 | t::ts=>match w5 P 20 t,It P ts with
  | some x,some r=>some (x::r)
  | _,_=>none
def Ev:Nat→Loc:=fun _=>⟨false,0,0,0,0,default⟩
theorem uH (b:Nat):¬Own Ev b:=fun ⟨_,h,_⟩=>by simp [Ev] at h
theorem Lu (w:World) (ht:(∀ b,Tb b→b<w.heap.size)∧Pj w):Rep Ev (fun _=>False) w [] :=
 ⟨fun j k _ h=>by simp [Ev] at h,fun _ _=>rfl,fun k b h=>by simp at h,fun _ h=>(uH _ h).elim,fun k h=>by simp [Ev] at h,⟨fun b hb=>hb.elim (fun h=>h.elim) (ht.1 b),ht.2⟩⟩
section
variable {P:Program} {w:World} {ρ:Nat→Loc} {X:Nat→Prop}
theorem v6:∀ {x:V} {u:Value},eM (Sta ρ X w) w x u→aK ρ X w x u
 | .v _,_,h=>h.1
 | .ro _ _,_,h=>h
 | .any,_,h|.bro _ _,_,h|.full _ _,_,h|.sl _ _ _,_,h|.ptr _ _ _,_,h|.rp _ _ _ _,_,h|.agg _,_,h|.tup _,_,h|.clo _ _,_,h|.mp _,_,h|.itr _,_,h=>h.elim
theorem Bl:∀ {xs:List V} {us:List Value},l6 (Sta ρ X w) w xs us→a7 ρ X w xs us
 | [],[],_=>trivial
 | _::_,_::_,h=>⟨v6 h.1,Bl h.2⟩
 | [],_::_,h=>h.elim
 | _::_,[],h=>h.elim
theorem cells_one {v u:Value} (h:v.cells.toList=[u]) (hn:∀ cs,v≠.agg cs):u=v:=by
 cases v<;>simp_all [Value.cells]
variable {H:Type} {enc:TypeId × Value→H} {base:Nat} {spare:Nat→Bool} {held:Bool}
theorem Sd {n:Nat} {t:TypeId} {ty:T} {v:Value} {r:Reach} {b:Nat} {d:DataW H} {p:List MemPlace} (hS:∀ b,b<w.heap.size→Sta ρ X w b) (ht:w5 P n t=some ty)
  (hok:Value.okWide P w r b t v) (h:DataW.Trod enc P w base spare held t v d p):∃ x,WfV ty x∧aK ρ X w x v:=by
 obtain ⟨fuel,h⟩:=h
 obtain ⟨xs,h1,h2⟩:=oT hS fuel n t ty _ _ ht h
 cases n with
 | zero=>simp [w5] at ht
 | succ n =>
  unfold Value.okWide at hok
  simp only [w5] at ht
  split at ht
  ·rename_i hu
   simp only [yaa] at ht
   subst ht
   obtain ⟨c,rfl⟩:=h1
   have hl:=iC h2
   obtain ⟨u,hu'⟩:∃ u,v.cells.toList=[u]:=yaw.1 hl.symm
   have hv:=cells_one hu' (fun cs hc=>by subst hc;simp [hu,Cell.okWide,Cell.ok] at hok)
   subst hv
   rw [hu'] at h2
   exact ⟨_,⟨c,rfl⟩,v6 h2.1⟩
  ·rename_i k hu
   simp only [yaa] at ht
   subst ht
   obtain ⟨c,rfl,hc⟩:=h1
   have hl:=iC h2
   obtain ⟨u,hu'⟩:∃ u,v.cells.toList=[u]:=yaw.1 hl.symm
   have hv:=cells_one hu' (fun cs hc=>by subst hc;simp [hu,Cell.okWide,Cell.ok] at hok)
   subst hv
   rw [hu'] at h2
   exact ⟨_,⟨c,rfl,hc⟩,v6 h2.1⟩
  ·rename_i hu
   simp only [yaa] at ht
   subst ht
   obtain ⟨c,rfl,hc⟩:=h1
   have hl:=iC h2
   obtain ⟨u,hu'⟩:∃ u,v.cells.toList=[u]:=yaw.1 hl.symm
   have hv:=cells_one hu' (fun cs hc=>by subst hc;simp [hu,Cell.okWide,Cell.ok] at hok)
   subst hv
   rw [hu'] at h2
   exact ⟨_,⟨c,rfl,hc⟩,v6 h2.1⟩
  ·rename_i e hu
   split at ht
   ·rename_i te _
    split at ht
    ·simp only [yaa] at ht
     subst ht
     obtain ⟨c,rfl,hc⟩:=h1
     have hl:=iC h2
     obtain ⟨u,hu'⟩:∃ u,v.cells.toList=[u]:=yaw.1 hl.symm
     have hv:=cells_one hu' (fun cs hc=>by subst hc;simp [hu,Cell.okWide,Cell.ok] at hok)
     subst hv
     rw [hu'] at h2
     exact ⟨_,⟨c,rfl,hc⟩,v6 h2.1⟩
    ·cases ht
   ·cases ht
  ·rename_i fs hu
   split at ht
   ·split at ht
    ·simp only [yaa] at ht
     subst ht
     simp only [hu] at hok
     obtain ⟨cs,rfl,_⟩:=hok
     exact ⟨.agg xs,⟨xs,h1,rfl⟩,cs,rfl,Bl (by simpa [Value.cells] using h2)⟩
    ·cases ht
   ·cases ht
  ·rename_i m e hu
   split at ht
   ·split at ht
    ·simp only [yaa] at ht
     subst ht
     simp only [hu] at hok
     obtain ⟨cs,rfl,_⟩:=hok
     exact ⟨.agg xs,⟨xs,h1,rfl⟩,cs,rfl,Bl (by simpa [Value.cells] using h2)⟩
    ·cases ht
   ·cases ht
  ·cases ht
theorem Dx (hS:∀ b,b<w.heap.size→Sta ρ X w b):∀ (ts:List TypeId) (tys:List T) (vs:List Value) (ds:List (DataW H)) (p:List MemPlace),It P ts=some tys →
  (∀ (j:Nat) t v,ts[j]?=some t→vs[j]?=some v→Value.okWide P w .any base t v)→DataW.TrodAll enc P w 0 spare held ts vs ds p→∃ xs,WfA tys xs∧a7 ρ X w xs vs∧ds.length=tys.length
 | [],tys,vs,ds,p,ht,hok,h=>by
  simp only [It,yaa] at ht
  subst ht
  obtain ⟨rfl,rfl,rfl⟩:=trodAll_nil h
  exact ⟨[],rfl,trivial,rfl⟩
 | t::ts,tys,vs,ds,p,ht,hok,h=>by
  simp only [It] at ht
  split at ht
  ·rename_i ty tr h1 h2
   simp only [yaa] at ht
   subst ht
   obtain ⟨v,vs1,d,ds1,a,b,rfl,rfl,rfl,h3,h4⟩:=trodAll_cons h
   obtain ⟨x,h5,h6⟩:=Sd hS h1 (hok 0 t v rfl rfl) h3
   obtain ⟨xs,h7,h8,h9⟩:=Dx hS ts tr vs1 ds1 b h2 (fun j t v h1 h2=>hok (j+1) t v (by simpa using h1) (by simpa using h2)) h4
   exact ⟨x::xs,⟨x,xs,rfl,h5,h7⟩,⟨h6,h8⟩,by simp [h9]⟩
  ·cases ht
theorem nM (hl:laidOutB P=true) {W W':World} (hb:Below W.heap.size W W'):∀ (ts:List TypeId) (vs:List Value) (ds:List (DataW H)) (p:List MemPlace),(∀ t∈ts,P.readableRec t=true∧t<P.types.size) →
  DataW.TrodAll enc P W 0 (fun _=>true) true ts vs ds p→(∀ x∈p,x.block<W.heap.size)→DataW.TrodAll enc P W' 0 (fun b=>decide (b<W.heap.size)) true ts vs ds p
 | [],vs,ds,p,_,h,_=>by
  obtain ⟨rfl,rfl,rfl⟩:=trodAll_nil h
  rfl
 | t::ts,vs,ds,p,hr,h,hlt=>by
  obtain ⟨v,vs1,d,ds1,a,b,rfl,rfl,rfl,h3,h4⟩:=trodAll_cons h
  exact trodAll_cons_mk (Below.trod hl (hr t yag).1 (hr t yag).2 h3 hb (fun x hx=>hlt x (yaG _ hx)))
   (nM hl hb ts vs1 ds1 b (fun t ht=>hr t (yaf _ ht)) h4 (fun x hx=>hlt x (yax _ hx)))
theorem oU (hl:laidOutB P=true) {W W':World} (hb:Below W.heap.size W W'):∀ (ts:List TypeId) (vs:List Value) (ds:List (DataW H)) (p:List MemPlace),(∀ t∈ts,P.readableRec t=true∧t<P.types.size) →
  DataW.TrodAll enc P W 0 (fun _=>true) true ts vs ds p→(∀ x∈p,x.block<W.heap.size)→DataW.TrodAll enc P W' 0 (fun _=>true) true ts vs ds p
 | [],vs,ds,p,_,h,_=>by
  obtain ⟨rfl,rfl,rfl⟩:=trodAll_nil h
  rfl
 | t::ts,vs,ds,p,hr,h,hlt=>by
  obtain ⟨v,vs1,d,ds1,a,b,rfl,rfl,rfl,h3,h4⟩:=trodAll_cons h
  exact trodAll_cons_mk (WideElems.Trod_stays hl (hr t yag).1 (hr t yag).2 h3 (fun x hx=>hb.same (hlt x (yaG _ hx))) (fun _ _=>rfl))
   (oU hl hb ts vs1 ds1 b (fun t ht=>hr t (yaf _ ht)) h4 (fun x hx=>hlt x (yax _ hx)))
theorem Ae {f:FuncId} {fn:Func} {s:ChangeSpec} {tys:List T} {tb:TypeId} {apart fresh handsOn again:Bool}
  (hl:laidOutB P=true) (ht:It P fn.params.toList=some tys) (hread:(fn.params.toList.all fun t=>P.readableRec t&&decide (t<P.types.size))=true)
  (hres:fn.resultTypes=#[tb]) (hb:P.underlying tb=some .bool) (hvars:s.vars=[])
  (hspec:∀ (H:Type) (ds:List (DataW H)),ds.length=tys.length→s.fn H ds={ results:=[.lit (.bool true)],args:=ds })
  (hfn:∀ zas,WfA tys zas→Fn P f zas [] [] (fun r _=>r=.b true))
  (W:World) (base:Nat) (args:Array Value) (ds gs:List (DataW H)) (before:List MemPlace)
  (hval:∀ (j:Nat) t v,fn.params[j]?=some t→args[j]?=some v→Value.okWide P W .any base t v)
  (hW:DataW.Whole enc P fn.params.toList s.vars apart W args.toList ds gs before) (Wh:(∀ b,Tb b→b<W.heap.size)∧Pj W) :
  Calls P f args W fun e W'=>∃ v,e=.returned v∧s.post enc P fn apart fresh handsOn again W args v W':=by
 have hW':=hW
 obtain ⟨p,q,hA,hV,rfl,hfz,hnd⟩:=hW
 have hpl:=hW'.lt
 have hV0:gs=[]∧q=[]:=by
  rw [hvars] at hV
  cases gs with
  | nil=>exact ⟨rfl,hV⟩
  | cons _ _=>exact hV.elim
 obtain ⟨rfl,rfl⟩:=hV0
 obtain ⟨xs,h1,h2,h3⟩:=Dx (ρ:=Ev) (X:=fun _=>False) (fun b hb=>⟨hb,uH b,fun h=>h⟩) fn.params.toList tys args.toList ds p ht (fun j t v h1 h2=>hval j t v (by simpa using h1) (by simpa using h2)) hA
 have hc:=hfn xs h1 Ev (fun _=>False) W args.toList (Lu W Wh) h2
 have harr:args.toList.toArray=args:=by simp
 rw [harr] at hc
 refine hc.mono fun e W' ⟨val,r,h',ρ',he,⟨hr,_⟩,hF,hR,hv,_⟩=>?_
 subst hr
 have hv:val=.bool true:=hv
 subst hv
 refine ⟨_,he,?_⟩
 have hbel:Below W.heap.size W W':=⟨hF.os,hF.tape,hF.output,hF.size,fun k hk=>(hF.keep k hk (uH k)).1⟩
 have hsz:fn.resultTypes.size=1:=by rw [hres];rfl
 have hrl:(Value.bool true).resultList fn.resultTypes.size=[.bool true]:=by rw [hsz];rfl
 have hsp:s.fn H (ds++[])={ results:=[.lit (.bool true)],args:=ds }:=by rw [yaH];exact hspec H ds h3
 have hrd:∀ t∈fn.params.toList,P.readableRec t=true∧t<P.types.size:=by
  intro t ht
  have:=yak.1 hread t ht
  simpa using this
 have hplt:∀ x∈p,x.block<W.heap.size:=fun x hx=>hpl x (by simpa using hx)
 have hok:∀ (j:Nat) (t:TypeId) (r:Value),fn.resultTypes[j]?=some t→((Value.bool true).resultList fn.resultTypes.size)[j]?=some r→Value.okWide P W' .any 0 t r:=by
  intro j t r h4 h5
  rw [hrl] at h5
  rw [hres] at h4
  cases j with
  | zero =>
   simp only [yaj,yaa] at h5
   simp only [List.getElem?_toArray,yaj,yaa] at h4
   subst h4 h5
   simp [Value.okWide,hb,Cell.okWide,Cell.ok]
  | succ j=>simp at h5
 have hrt:∀ (b:Nat) (sp:Nat→Bool) (hd:Bool),DataW.TrodAll enc P W' b sp hd fn.resultTypes.toList ((Value.bool true).resultList fn.resultTypes.size) [.lit (.bool true)] []:=by
  intro b sp hd
  rw [hrl,hres]
  exact ⟨[],[],⟨1,by simp [DataW.trod,Value.cells,hb]⟩,rfl,rfl⟩
 refine ⟨ds,[],p++[],[],p,[],hW',?_,?_,?_,hbel.frame _,fun _=>⟨hok,ds.cons (.lit (.bool true)),[],p++[],?_,fun x hx _=>hx⟩⟩
 ·rw [hsp];exact hrt _ _ _
 ·rw [hsp];exact nM hl hbel _ _ _ _ hrd hA hplt
 ·rw [hsp,hvars];rfl
 ·refine ⟨p,[],?_,by rw [hvars];rfl,rfl,?_,hnd⟩
  ·have h6:=oU hl hbel _ _ _ _ hrd hA hplt
   have h7:=trodAll_append h6 (hrt 0 (fun _=>true) true)
   simpa using h7
  ·intro b off hp
   have h8:=hfz b off hp
   rw [World.frozen?_of_block (w:=W) (hbel.block b (hpl _ hp))]
   exact h8
end
end Go.Fx
namespace Go.Fx
inductive Tr where
 | lf
 | nd (v:V) (l r:Tr)
 deriving Inhabited
def Tr.get:Tr→Nat→V
 | .lf,_=>.any
 | .nd v l r,i=>match i with
  | 0=>v
  | j+1=>if j%2=0 then l.get (j/2) else r.get (j/2)
def Tr.put:Nat→Tr→Nat→V→Tr
 | 0,t,_,_=>t
 | n+1,.lf,i,x=>match i with
  | 0=>.nd x .lf .lf
  | j+1=>if j%2=0 then .nd .any (Tr.put n .lf (j/2) x) .lf else .nd .any .lf (Tr.put n .lf (j/2) x)
 | n+1,.nd v l r,i,x=>match i with
  | 0=>.nd x l r
  | j+1=>if j%2=0 then .nd v (Tr.put n l (j/2) x) r else .nd v l (Tr.put n r (j/2) x)
def Tr.kill (M:List Nat):Tr→Tr
 | .lf=>.lf
 | .nd v l r=>.nd (Fx.kill M v) (l.kill M) (r.kill M)
theorem Tr.get_put:∀ (n:Nat) (t:Tr) (i:Nat) (x:V) (j:Nat),i<n→(Tr.put n t i x).get j=if j=i then x else t.get j
 | 0,_,_,_,_,h=>by omega
 | n+1,.lf,0,x,j,_=>by cases j<;>simp [Tr.put,Tr.get]
 | n+1,.nd v l r,0,x,j,_=>by cases j<;>simp [Tr.put,Tr.get]
 | n+1,.lf,i+1,x,j,h=>by
  simp only [Tr.put]
  split
  ·rename_i hi
   cases j with
   | zero=>simp [Tr.get]
   | succ j =>
    simp only [Tr.get]
    by_cases hj:j%2=0
    ·rw [if_pos hj,Tr.get_put n _ _ _ _ (by omega)]
     by_cases e:j=i
     ·subst e;simp
     ·rw [if_neg (by omega),if_neg (by omega)];simp [Tr.get]
    ·rw [if_neg hj,if_neg (by omega)]
  ·rename_i hi
   cases j with
   | zero=>simp [Tr.get]
   | succ j =>
    simp only [Tr.get]
    by_cases hj:j%2=0
    ·rw [if_pos hj,if_neg (by omega)]
    ·rw [if_neg hj,Tr.get_put n _ _ _ _ (by omega)]
     by_cases e:j=i
     ·subst e;simp
     ·rw [if_neg (by omega),if_neg (by omega)];simp [Tr.get]
 | n+1,.nd v l r,i+1,x,j,h=>by
  simp only [Tr.put]
  split
  ·rename_i hi
   cases j with
   | zero=>simp [Tr.get]
   | succ j =>
    simp only [Tr.get]
    by_cases hj:j%2=0
    ·rw [if_pos hj,Tr.get_put n _ _ _ _ (by omega),if_pos hj]
     by_cases e:j=i
     ·subst e;simp
     ·rw [if_neg (by omega),if_neg (by omega)]
    ·rw [if_neg hj,if_neg (by omega),if_neg hj]
  ·rename_i hi
   cases j with
   | zero=>simp [Tr.get]
   | succ j =>
    simp only [Tr.get]
    by_cases hj:j%2=0
    ·rw [if_pos hj,if_neg (by omega),if_pos hj]
    ·rw [if_neg hj,Tr.get_put n _ _ _ _ (by omega),if_neg hj]
     by_cases e:j=i
     ·subst e;simp
     ·rw [if_neg (by omega),if_neg (by omega)]
def Cz (h:List Blk) (k:Nat):Bool :=
 match h[k]? with
 | some .dead=>false
 | some _=>true
 | none=>false
mutual
def Xi (h:List Blk):V→Bool
 | .sl k _ _=>Cz h k
 | .ptr k _ _=>Cz h k
 | .mp k=>Cz h k
 | .itr k=>Cz h k
 | .agg cs=>Qd h cs
 | .tup cs=>Qd h cs
 | .clo _ cs=>Qd h cs
 | _=>true
def Qd (h:List Blk):List V→Bool
 | []=>true
 | x::r=>Xi h x&&Qd h r
end
instance (n:Nat) (l u m:Option Int):Decidable (cP n l u m):=by unfold cP;infer_instance
structure Res where
 x:V
 E:Tr
 h:List Blk
def one (E:Tr) (x:V) (h:List Blk):Option (List Res):=some [⟨x,E,h⟩]
def itD (h:List Blk) (x:V):Option (Nat × V × Nat × List Nat × Nat) :=
 match x with
 | .ptr k 0 0=>match blk h k with
  | .it m since seen last=>some (k,m,since,seen,last)
  | _=>none
 | _=>none
end Go.Fx
namespace Go.Fx
open Go.RowKit
section
end
section
end
end Go.Fx
namespace Go.Fx
open Go.RowKit
def gone (h:List Blk):List Nat→List Nat
 | []=>[]
 | k::r=>if Cz h k then gone h r else k::gone h r
def Tr.wf (h:List Blk):Tr→Bool
 | .lf=>true
 | .nd v l r=>Xi h v&&(l.wf h&&r.wf h)
mutual
def Yl (g:Nat→Option Nat):V→V
 | .sl k i n=>match g k with
  | some j=>.sl j i n
  | none=>.any
 | .ptr k i f=>match g k with
  | some j=>.ptr j i f
  | none=>.any
 | .mp k=>match g k with
  | some j=>.mp j
  | none=>.any
 | .itr k=>match g k with
  | some j=>.itr j
  | none=>.any
 | .agg cs=>.agg (Hi g cs)
 | .tup cs=>.tup (Hi g cs)
 | .clo f cs=>.clo f (Hi g cs)
 | x=>x
def Hi (g:Nat→Option Nat):List V→List V
 | []=>[]
 | x::r=>Yl g x::Hi g r
end
def Tr.ren (g:Nat→Option Nat):Tr→Tr
 | .lf=>.lf
 | .nd v l r=>.nd (Yl g v) (l.ren g) (r.ren g)
section
end
section
end
end Go.Fx
namespace Go.Fx
def rdK (x:V) (bn:List Nat):List Nat :=
 match x with
 | .ptr k _ _=>k::bn
 | _=>bn
def La (x:V) (K:List V→Prop):Prop :=
 match x with
 | .tup vs=>K vs
 | _=>False
def Ms (x:V) (K:V→Prop):Prop :=
 match x with
 | .ptr k i f=>K (.ptr k i f)
 | .clo f cs=>K (.clo f cs)
 | _=>False
def Oo (x:V) (K:FuncId→List V→Prop):Prop :=
 match x with
 | .clo g cs=>K g cs
 | _=>False
def Hy (h:List Blk) (kd:TypeDesc) (key:Value) (z:Value) (ok:Bool) (m:V) (K:V→Prop):Prop :=
 match m with
 | .v (.map none)=>eW (some none) z ok K
 | m=>mA h m fun _ es _=>eW (fO kd key es 0) z ok K
mutual
theorem u9:∀ x:V,kill [] x=x
 | .any=>rfl
 | .v _=>rfl
 | .ro _ _=>rfl
 | .bro _ _=>rfl
 | .full _ _=>rfl
 | .rp _ _ _ _=>rfl
 | .sl _ _ _=>by simp [kill]
 | .ptr _ _ _=>by simp [kill]
 | .mp _=>by simp [kill]
 | .itr _=>by simp [kill]
 | .agg cs=>by simp [kill,hJ cs]
 | .tup cs=>by simp [kill,hJ cs]
 | .clo _ cs=>by simp [kill,hJ cs]
theorem hJ:∀ xs:List V,a8 [] xs=xs
 | []=>rfl
 | x::r=>by simp [a8,u9 x,hJ r]
end
theorem nA:∀ e:Env,aP [] e=e
 | []=>rfl
 | (_,x)::r=>by simp [aP,u9 x,nA r]
theorem x5 (l:List Blk):l.map (aS [])=l:=by
 have:aS []=id:=by
  funext b
  cases b<;>simp [aS,hJ,u9,nA,funext hJ]
 simp [this]
section
variable {cx:Cx} {e:Env} {h:List Blk} {b:Nat} {K:V→St→Prop} {Ks:St→Prop} {N R:St→Prop} {X:Nat→St→Prop} {d:Option Nat} {op:LOp}
theorem zS {d:Nat} {x:V}:St.put ⟨e,h,b⟩ (some d) x=⟨(d,x)::e,h,b⟩:=rfl
theorem zT {x:V}:St.put ⟨e,h,b⟩ none x=⟨e,h,b⟩:=rfl
theorem qQ:d6 cx [] ⟨e,h,b⟩ Ks=Ks ⟨e,h,b⟩:=rfl
theorem qR {r:List aR}:d6 cx (⟨d,op,none⟩::r) ⟨e,h,b⟩ Ks=aOp cx op ⟨e,h,b⟩ fun x s'=>d6 cx r (s'.put d x) Ks:=rfl
theorem qS {g:Nat} {w:Bool} {r:List aR}:d6 cx (⟨d,op,some (g,w)⟩::r) ⟨e,h,b⟩ Ks=eR (get e g) w
   (aOp cx op ⟨(g,.b w)::e,h,b⟩ fun x s'=>d6 cx r (s'.put d x) Ks)
   (d6 cx r (St.put ⟨(g,.b !w)::e,h,b⟩ d (.v (.tuple #[]))) Ks)
   (d6 cx r (St.put ⟨e,h,b⟩ d (.v (.tuple #[]))) Ks):=rfl
theorem qa {x:Operand} {bn:List Nat}:rdB (.mov x) e bn=bn:=rfl
theorem qT {x:Operand}:aOp cx (.mov x) ⟨e,h,b⟩ K=K (ev e x) ⟨e,h,b⟩:=rfl
theorem qb {c x y:Operand} {bn:List Nat}:rdB (.pick c x y) e bn=bn:=rfl
theorem qU {c x y:Operand}:aOp cx (.pick c x y) ⟨e,h,b⟩ K=brV (ev e c) (K (ev e x) ⟨e,h,b⟩) (K (ev e y) ⟨e,h,b⟩):=rfl
theorem qV {j:Nat} {x:Operand}:aOp cx (.box j x) ⟨e,h,b⟩ K=cR (cells? (ev e x)) fun cs=>aD h (b+j)∧K (.ptr (b+j) 0 0) ⟨e,h.set (b+j) (.var cs),b⟩:=rfl
theorem qW {j:Nat} {z:Value}:aOp cx (.alloc j z) ⟨e,h,b⟩ K=cR (cells? (aA z)) fun cs=>aD h (b+j)∧K (.ptr (b+j) 0 0) ⟨e,h.set (b+j) (.var cs),b⟩:=rfl
theorem qX {n:Option Nat} {x:Operand}:aOp cx (.load n x) ⟨e,h,b⟩ K=iI h n (ev e x) fun y=>K y ⟨e,h,b⟩:=rfl
theorem qY {n:Nat} {x y:Operand}:aOp cx (.store n x y) ⟨e,h,b⟩ K=cR (cells? (ev e y)) fun cs=>rE cx.bn h n (ev e x) cs fun h=>K (.v (.tuple #[])) ⟨e,h,b⟩:=rfl
theorem qc {n:Nat} {x:Operand} {bn:List Nat}:rdB (.fld n x) e bn=bn:=rfl
theorem qZ {n:Nat} {x:Operand}:aOp cx (.fld n x) ⟨e,h,b⟩ K=w7 n (ev e x) fun y=>K y ⟨e,h,b⟩:=rfl
theorem qd {n:Nat} {x i:Operand} {bn:List Nat}:rdB (.idx n x i) e bn=bn:=rfl
theorem za {n:Nat} {x i:Operand}:aOp cx (.idx n x i) ⟨e,h,b⟩ K=cK (ev e i) fun _ m=>Al h n m (ev e x) fun y=>K y ⟨e,h,b⟩:=rfl
theorem qe {o:BinOp} {ex:Bool} {x y:Operand} {bn:List Nat}:rdB (.bin o ex x y) e bn=bn:=rfl
theorem zb {o:BinOp} {ex:Bool} {x y:Operand}:aOp cx (.bin o ex x y) ⟨e,h,b⟩ K=cK (ev e x) fun k a=>cK (ev e y) fun k' c=>k'=k∧b6 o ex k a c fun z=>K z ⟨e,h,b⟩:=rfl
theorem qf {x:Operand} {bn:List Nat}:rdB (.len x) e bn=bn:=rfl
theorem zc {x:Operand}:aOp cx (.len x) ⟨e,h,b⟩ K=Ac (ev e x) fun y=>K y ⟨e,h,b⟩:=rfl
theorem qg {x:Operand} {bn:List Nat}:rdB (.lens x) e bn=bn:=rfl
theorem zd {x:Operand}:aOp cx (.lens x) ⟨e,h,b⟩ K=xY (ev e x) fun y=>K y ⟨e,h,b⟩:=rfl
theorem qh {x:Operand} {bn:List Nat}:rdB (.not x) e bn=bn:=rfl
theorem ze {x:Operand}:aOp cx (.not x) ⟨e,h,b⟩ K=pV (ev e x) fun t=>K (.b (!t)) ⟨e,h,b⟩:=rfl
theorem zf {x:Operand}:aOp cx (.neg x) ⟨e,h,b⟩ K=cK (ev e x) fun k a=>K (.v (.int k (k.wrap (-a)))) ⟨e,h,b⟩:=rfl
theorem qi {ex:Bool} {k:IntKind} {x:Operand} {bn:List Nat}:rdB (.conv ex k x) e bn=bn:=rfl
theorem zg {ex:Bool} {k:IntKind} {x:Operand}:aOp cx (.conv ex k x) ⟨e,h,b⟩ K=cK (ev e x) fun _ a=>if ex then (lo k≤a∧a≤hi k)∧K (.v (.int k a)) ⟨e,h,b⟩ else K (.v (.int k (k.wrap a))) ⟨e,h,b⟩:=rfl
theorem qj {mx:Bool} {x y:Operand} {bn:List Nat}:rdB (.minmax mx x y) e bn=bn:=rfl
theorem zh {mx:Bool} {x y:Operand}:aOp cx (.minmax mx x y) ⟨e,h,b⟩ K=cK (ev e x) fun k a=>cK (ev e y) fun k' c=>k'=k∧K (.v (.int k (if mx then max a c else min a c))) ⟨e,h,b⟩:=rfl
theorem zi {f:FuncId} {cs:List Operand}:aOp cx (.fn f cs) ⟨e,h,b⟩ K=K (.clo f (cs.map (ev e))) ⟨e,h,b⟩:=rfl
theorem qk {z:Nat} {x:Operand} {l u m:Option Operand} {bn:List Nat}:rdB (.slice z x l u m) e bn=bn:=rfl
theorem zj {z:Nat} {x:Operand} {l u m:Option Operand}:aOp cx (.slice z x l u m) ⟨e,h,b⟩ K=rQ (l.map (ev e)) fun l=>rQ (u.map (ev e)) fun u=>rQ (m.map (ev e)) fun m=>rF h z (ev e x) l u m fun y=>K y ⟨e,h,b⟩:=rfl
theorem ql {z:List Value} {ps:List (Nat × Nat × Operand)} {bn:List Nat}:rdB (.build z ps) e bn=bn:=rfl
theorem zk {z:List Value} {ps:List (Nat × Nat × Operand)}:aOp cx (.build z ps) ⟨e,h,b⟩ K=bY e (z.map .v) ps fun y=>K y ⟨e,h,b⟩:=rfl
theorem zm {neg:Bool} {ks:List (Nat × TypeDesc)} {x y:Operand}:aOp cx (.eqf neg ks x y) ⟨e,h,b⟩ K=cR (j6 (ev e x)) fun xs=>cR (j6 (ev e y)) fun ys=>eS xs ys ks fun t=>K (.b (if neg then !t else t)) ⟨e,h,b⟩:=rfl
theorem qm {o:BinOp} {x y:Operand} {bn:List Nat}:rdB (.shift o x y) e bn=bn:=rfl
theorem zn {o:BinOp} {x y:Operand}:aOp cx (.shift o x y) ⟨e,h,b⟩ K=cK (ev e x) fun k a=>cK (ev e y) fun _ c=>cF o k a c fun z=>K z ⟨e,h,b⟩:=rfl
theorem zo {neg:Bool} {x:Operand} {v:Value}:aOp cx (.eqn neg x (.const v)) ⟨e,h,b⟩ K=match aA v with|.v _=>Fo (ev e x) fun t=>K (.b (if neg then !t else t)) ⟨e,h,b⟩|_=>False:=rfl
theorem zp {j sz n:Nat} {z:List Value} {ps:List (Nat × Operand)}:aOp cx (.lits j sz n z ps) ⟨e,h,b⟩ K=bU e sz (yab n (z.map .v)) ps fun els=>aD h (b+j)∧K (.sl (b+j) 0 n) ⟨e,h.set (b+j) (.arr sz els),b⟩:=rfl
theorem zq {j sz bytes:Nat} {x y:Operand}:aOp cx (.append j sz bytes x y) ⟨e,h,b⟩ K=i9 h (ev e y) fun sz' new=>(new=[]∨sz'=sz)∧xC cx.fx cx.bn (b+j) sz bytes ⟨e,h,b⟩ (ev e x) new K:=rfl
theorem zr {kd:TypeDesc} {m k x:Operand}:aOp cx (.mset kd m k x) ⟨e,h,b⟩ K=w6 kd (ev e k) fun key=>mA h (ev e m) fun c es t=>c∉cx.bn∧iV (fO kd key es 0) key (ev e x) es t fun B=>K (.v (.tuple #[])) ⟨e,h.set c B,b⟩:=rfl
theorem zt {j:Nat}:aOp cx (.mkmap j none) ⟨e,h,b⟩ K=(True∧aD h (b+j)∧K (.mp (b+j)) ⟨e,h.set (b+j) (.map [] 0),b⟩):=rfl
theorem zu {kd:TypeDesc} {z:Value} {ok:Bool} {m k:Operand}:aOp cx (.lookup kd z ok m k) ⟨e,h,b⟩ K=w6 kd (ev e k) fun key=>Hy h kd key z ok (ev e m) fun x=>K x ⟨e,h,b⟩:=rfl
theorem qn {n sz:Nat} {x i:Operand} {bn:List Nat}:rdB (.prim (.pidx n sz) [x,i]) e bn=bn:=rfl
theorem zv {n sz:Nat} {x i:Operand}:aOp cx (.prim (.pidx n sz) [x,i]) ⟨e,h,b⟩ K=cK (ev e i) fun _ j=>(0≤j∧j<n)∧w7 (j.toNat*sz) (ev e x) fun y=>K y ⟨e,h,b⟩:=rfl
theorem qo {n:Nat} {x:Operand} {bn:List Nat}:rdB (.prim (.pslc n false false false) [x]) e bn=bn:=rfl
theorem zw {n:Nat} {x:Operand}:aOp cx (.prim (.pslc n false false false) [x]) ⟨e,h,b⟩ K=iF h n (ev e x) none none none fun y=>K y ⟨e,h,b⟩:=rfl
theorem qp {n:Nat} {x l:Operand} {bn:List Nat}:rdB (.prim (.pslc n true false false) [x,l]) e bn=bn:=rfl
theorem zx {n:Nat} {x l:Operand}:aOp cx (.prim (.pslc n true false false) [x,l]) ⟨e,h,b⟩ K=cK (ev e l) fun _ l=>iF h n (ev e x) (some l) none none fun y=>K y ⟨e,h,b⟩:=rfl
theorem qq {n:Nat} {x u:Operand} {bn:List Nat}:rdB (.prim (.pslc n false true false) [x,u]) e bn=bn:=rfl
theorem zy {n:Nat} {x u:Operand}:aOp cx (.prim (.pslc n false true false) [x,u]) ⟨e,h,b⟩ K=cK (ev e u) fun _ u=>iF h n (ev e x) none (some u) none fun y=>K y ⟨e,h,b⟩:=rfl
theorem zA {n sz:Nat} {x i:Operand}:aOp cx (.prim (.aidx n sz false) [x,i]) ⟨e,h,b⟩ K=cK (ev e i) fun _ j=>(0≤j∧j<n)∧Eb (ev e x) fun cs=>cL none (j.toNat*sz) cs fun y=>K y ⟨e,h,b⟩:=rfl
theorem qr {neg:Bool} {ks:List (Nat × TypeDesc)} {x y:Operand} {bn:List Nat}:rdB (.prim (.aeq neg ks) [x,y]) e bn=bn:=rfl
theorem zB {neg:Bool} {ks:List (Nat × TypeDesc)} {x y:Operand}:aOp cx (.prim (.aeq neg ks) [x,y]) ⟨e,h,b⟩ K=cR (j6 (ev e x)) fun xs=>cR (j6 (ev e y)) fun ys=>eS xs ys ks fun t=>K (.b (if neg then !t else t)) ⟨e,h,b⟩:=rfl
theorem qs {x l:Operand} {bn:List Nat}:rdB (.prim (.sslc true false) [x,l]) e bn=bn:=rfl
theorem zC {x l:Operand}:aOp cx (.prim (.sslc true false) [x,l]) ⟨e,h,b⟩ K=iQ (ev e x) fun t=>cK (ev e l) fun _ l=>nO t (some l) none fun y=>K y ⟨e,h,b⟩:=rfl
theorem qt {x l u:Operand} {bn:List Nat}:rdB (.prim (.sslc true true) [x,l,u]) e bn=bn:=rfl
theorem zD {x l u:Operand}:aOp cx (.prim (.sslc true true) [x,l,u]) ⟨e,h,b⟩ K=iQ (ev e x) fun t=>cK (ev e l) fun _ l=>cK (ev e u) fun _ u=>nO t (some l) (some u) fun y=>K y ⟨e,h,b⟩:=rfl
theorem zE {o:BinOp} {x y:Operand}:aOp cx (.prim (.sbin o) [x,y]) ⟨e,h,b⟩ K=iQ (ev e x) fun t=>iQ (ev e y) fun u=>sJ o t u fun y=>K y ⟨e,h,b⟩:=rfl
theorem qu {g n:Nat} {i:Operand} {bn:List Nat}:rdB (.prim (.gidx g n) [i]) e bn=bn:=rfl
theorem zF {g n:Nat} {i:Operand}:aOp cx (.prim (.gidx g n) [i]) ⟨e,h,b⟩ K=cK (ev e i) fun _ j=>(0≤j∧j<n)∧cR (Bw g n) fun cs=>K (.rp 1 (cs.map fun v=>[.v v]) j.toNat 0) ⟨e,h,b⟩:=rfl
theorem qv {n:Nat} {x:Operand} {bn:List Nat}:rdB (.prim (.s2a n) [x]) e bn=bn:=rfl
theorem zG {n:Nat} {x:Operand}:aOp cx (.prim (.s2a n) [x]) ⟨e,h,b⟩ K=Es n (ev e x) fun y=>K y ⟨e,h,b⟩:=rfl
theorem qw {x:Operand} {bn:List Nat}:rdB (.prim .cpl [x]) e bn=bn:=rfl
theorem zH {x:Operand}:aOp cx (.prim .cpl [x]) ⟨e,h,b⟩ K=cK (ev e x) fun k j=>b6 .xor false k (if k.signed then -1 else k.max) j fun y=>K y ⟨e,h,b⟩:=rfl
theorem zI {j:Nat} {x:Operand}:aOp cx (.eff .b2s j [x]) ⟨e,h,b⟩ K=i9 h (ev e x) fun sz els=>(els=[]∨sz=1)∧cR (bytesOf els) fun l=>K (.v (.string ⟨l.toArray⟩)) ⟨e,h,b⟩:=rfl
theorem zJ {g n j:Nat}:aOp cx (.eff (.gload g n) j []) ⟨e,h,b⟩ K=cR (Bw g n) fun cs=>K (.agg (cs.map .v)) ⟨e,h,b⟩:=rfl
theorem zK {j:Nat} {x y:Operand}:aOp cx (.eff .cps j [x,y]) ⟨e,h,b⟩ K=iQ (ev e y) fun t=>pU cx.bn 1 ⟨e,h,b⟩ (ev e x) (d8 t) K:=rfl
theorem zL {bytes j:Nat} {x y:Operand}:aOp cx (.eff (.aps bytes) j [x,y]) ⟨e,h,b⟩ K=iQ (ev e y) fun t=>xC cx.fx cx.bn (b+j) 1 bytes ⟨e,h,b⟩ (ev e x) (d8 t) K:=rfl
theorem zN {f:FuncId} {xs:List Operand}:aOp cx (.call f xs) ⟨e,h,b⟩ K=eG cx f (xs.map (ev e)) ⟨e,h,b⟩ K:=rfl
theorem qx {x:Operand} {i:Nat} {bn:List Nat}:rdB (.ext x i) e bn=bn:=rfl
theorem qy {n:Option Nat} {x:Operand} {bn:List Nat}:rdB (.load n x) e bn=rdK (ev e x) bn:=by
 show (match ev e x with|.ptr k _ _=>k::bn|_=>bn)=_
 unfold rdK
 cases ev e x<;>rfl
theorem zO {x:Operand} {i:Nat}:aOp cx (.ext x i) ⟨e,h,b⟩ K=La (ev e x) fun vs=>cR vs[i]? fun y=>K y ⟨e,h,b⟩:=by
 simp only [aOp,La];split<;>simp_all
theorem zQ {x:Operand}:aOp cx (.nilc x) ⟨e,h,b⟩ K=Ms (ev e x) fun y=>K y ⟨e,h,b⟩:=by
 simp only [aOp,Ms];split<;>simp_all
theorem zR {f:Operand} {xs:List Operand}:aOp cx (.callv f xs) ⟨e,h,b⟩ K=Oo (ev e f) fun g cs=>eG cx g (xs.map (ev e)++cs) ⟨e,h,b⟩ K:=by
 simp only [aOp,Oo];split<;>simp_all
theorem qG:aw cx .skip N X R ⟨e,h,b⟩=N ⟨e,h,b⟩:=rfl
theorem qH {n:Nat} {l:List aR}:aw cx (.reg n l) N X R ⟨e,h,b⟩=d6 cx l ⟨e,h++yab n .dead,h.length⟩ N:=rfl
theorem qI {m n:Nat} {l:List aR}:aw cx (.tail m n l) N X R ⟨e,h,b⟩=d6 cx l ⟨e,h++yab n .dead,h.length⟩ N:=rfl
theorem qJ {n:Nat} {l:List aR}:aw cx (.qui n l) N X R ⟨e,h,b⟩=d6 cx l ⟨e,h++yab n .dead,h.length⟩ N:=rfl
theorem qz {n:Nat} {p:LPlan}:aw cx (.tree n p) N X R ⟨e,h,b⟩=awP cx p [] N ⟨e,h++yab n .dead,h.length⟩:=rfl
theorem qA {bn:List Nat}:awP cx .done bn Ks ⟨e,h,b⟩=Ks ⟨e,h,b⟩:=rfl
theorem qB {bn:List Nat}:awP cx .none bn Ks ⟨e,h,b⟩=True:=rfl
theorem qC {i:Nat} {D bn:List Nat} {p:LPlan}:awP cx (.take i D ⟨d,op,none⟩ p) bn Ks ⟨e,h,b⟩=aOp cx op ⟨e,h,b⟩ fun x s'=>awP cx p (rdB op e bn) Ks (s'.put d x):=rfl
theorem qD {i g:Nat} {w:Bool} {D bn:List Nat} {p:LPlan}:awP cx (.take i D ⟨d,op,some (g,w)⟩ p) bn Ks ⟨e,h,b⟩=eR (get e g) w
   (aOp cx op ⟨(g,.b w)::e,h,b⟩ fun x s'=>awP cx p (rdB op e bn) Ks (s'.put d x))
   (awP cx p (rdB op e bn) Ks (St.put ⟨(g,.b !w)::e,h,b⟩ d (.v (.tuple #[]))))
   (awP cx p (rdB op e bn) Ks (St.put ⟨e,h,b⟩ d (.v (.tuple #[])))):=rfl
theorem qE {i:Nat} {r:Bool} {bn:List Nat} {p q:LPlan}:awP cx (.alt i ⟨d,op,none⟩ r p q) bn Ks ⟨e,h,b⟩ =
   ((aOp ⟨cx.C,cx.fx,if r then bn else [],cx.it,cx.y,cx.rk⟩ op ⟨e,h,b⟩ fun x s'=>awP cx p (if r then bn else []) Ks (s'.put d x))∧awP cx q bn Ks ⟨e,h,b⟩):=rfl
theorem qF {i g:Nat} {w r:Bool} {bn:List Nat} {p q:LPlan}:awP cx (.alt i ⟨d,op,some (g,w)⟩ r p q) bn Ks ⟨e,h,b⟩ =
   ((eR (get e g) w
     (aOp ⟨cx.C,cx.fx,if r then bn else [],cx.it,cx.y,cx.rk⟩ op ⟨(g,.b w)::e,h,b⟩ fun x s'=>awP cx p (if r then bn else []) Ks (s'.put d x))
     (awP cx p (if r then bn else []) Ks (St.put ⟨(g,.b !w)::e,h,b⟩ d (.v (.tuple #[]))))
     (awP cx p (if r then bn else []) Ks (St.put ⟨e,h,b⟩ d (.v (.tuple #[])))))∧awP cx q bn Ks ⟨e,h,b⟩):=rfl
theorem qK {x y:LCode}:aw cx (.seq x y) N X R ⟨e,h,b⟩=aw cx x (fun s'=>aw cx y N X R s') X R ⟨e,h,b⟩:=rfl
theorem qL {c:Operand} {x y:LCode}:aw cx (.cond c x y) N X R ⟨e,h,b⟩=brV (ev e c) (aw cx x N X R ⟨e,h,b⟩) (aw cx y N X R ⟨e,h,b⟩):=rfl
theorem qM {i:Nat} {x:LCode}:aw cx (.block i x) N X R ⟨e,h,b⟩=aw cx x N (fun j s'=>if j=i then N s' else X j s') R ⟨e,h,b⟩:=rfl
theorem qN {x:LCode}:aw cx (.loop x) N X R ⟨e,h,b⟩=sQ cx.fx (fun N=>aw cx x N X R) ⟨e,h,b⟩:=rfl
theorem qO {i:Nat}:aw cx (.exit i) N X R ⟨e,h,b⟩=X i ⟨e,h,b⟩:=rfl
theorem qP:aw cx .ret N X R ⟨e,h,b⟩=R ⟨e,h,b⟩:=rfl
theorem ke {A B:Prop}:br true A B=A:=by simp [br]
theorem kf {A B:Prop}:br false A B=B:=by simp [br]
theorem kc {t:Bool} {A B:Prop}:brV (.v (.bool t)) A B=br t A B:=rfl
theorem kg {t:Bool} {w:Bool} {A B C:Prop}:eR (.v (.bool t)) w A B C=if w then br t A B else br t B A:=rfl
theorem kh {w:Bool} {A B C:Prop}:eR (.v (.tuple #[])) w A B C=C:=rfl
theorem zZ {k:IntKind} {a:Int} {K:IntKind→Int→Prop}:cK (.v (.int k a)) K=K k a:=rfl
theorem ka {a:Bool} {K:Bool→Prop}:pV (.v (.bool a)) K=K a:=rfl
theorem dT {fx:List Nat} {n:Nat} {rs:List eT} {R:V→List Blk→Prop}:eJ fx n rs R ⟨e,h,b⟩=aU h e rs [] fun xs=>∃ p,(leH h p∧aC fx p∧n≤p.length∧wfV p (aY xs)∧wfB p p)∧R (aY xs) p:=rfl
theorem kj {fx:List Nat} {p:Env} {q:List Blk} {b':Nat}:leS fx ⟨e,h,b⟩ ⟨p,q,b'⟩=(leE e p∧leH h q∧aC fx q∧wfE q p∧wfB q q):=rfl
end
section
variable {cx:Cx} {h:List Blk} {e:Env} {s:St} {fx bn:List Nat}
def Is (x:V):V→List Blk→Prop:=fun r h=>r=x∧h=[]
theorem ki {e:Env} {h:List Blk} {b:Nat} {rs:List eT} {x:V}:eJ [] 0 rs (Is x) ⟨e,h,b⟩=aU h e rs [] fun xs=>wfV [] (aY xs)∧aY xs=x:=by
 unfold eJ Is
 simp only
 congr 1
 funext xs
 apply propext
 constructor
 ·rintro ⟨p,⟨_,_,_,h4,_⟩,h5,rfl⟩
  exact ⟨h4,h5⟩
 ·rintro ⟨h4,h5⟩
  exact ⟨[],⟨by unfold leH;trivial,trivial,yad _,h4,trivial⟩,h5,rfl⟩
theorem zU {t:Nat}:ev e (.tmp t)=get e t:=rfl
theorem zV {c:Value}:ev e (.const c)=aA c:=rfl
theorem zW {f:FuncId}:ev e (.func f)=.clo f []:=rfl
theorem zX {j i:Nat} {x:V} {r:Env}:get ((j,x)::r) i=if i=j then x else get r i:=rfl
theorem zY {k:Nat}:blk h k=h.getD k .dead:=rfl
@[congr] theorem aeT {α:Type} {o o':Option α} {K:α→Prop} (q:o=o'):cR o K=cR o' K:=by rw [q]
@[congr] theorem afC {x x':V} {K:IntKind→Int→Prop} (q:x=x'):cK x K=cK x' K:=by rw [q]
@[congr] theorem acI {x x':V} {K:Bool→Prop} (q:x=x'):pV x K=pV x' K:=by rw [q]
@[congr] theorem afY {x x':V} {A B:Prop} (q:x=x'):brV x A B=brV x' A B:=by rw [q]
@[congr] theorem abA {x x':V} {w:Bool} {A B C:Prop} (q:x=x'):eR x w A B C=eR x' w A B C:=by rw [q]
@[congr] theorem abY {n:Option Nat} {p p':V} {K:V→Prop} (q:p=p'):iI h n p K=iI h n p' K:=by rw [q]
@[congr] theorem abZ {n:Option Nat} {i f:Nat} {b b':Blk} {K:V→Prop} (q:b=b'):pI n i f b K=pI n i f b' K:=by rw [q]
@[congr] theorem aaZ {n:Option Nat} {f:Nat} {cs cs':List V} {K:V→Prop} (q:cs=cs'):cL n f cs K=cL n f cs' K:=by rw [q]
@[congr] theorem aaW {n:Nat} {p p':V} {cs cs':List V} {K:List Blk→Prop} (q:p=p') (q2:cs=cs'):rE bn h n p cs K=rE bn h n p' cs' K:=by rw [q,q2]
@[congr] theorem aaX {n i f:Nat} {cs:List V} {b b':Blk} {K:Blk→Prop} (q:b=b'):mE n i f cs b K=mE n i f cs b' K:=by rw [q]
@[congr] theorem afH {n:Nat} {x x':V} {K:V→Prop} (q:x=x'):w7 n x K=w7 n x' K:=by rw [q]
@[congr] theorem afD {z:Nat} {n n':Int} {x x':V} {K:V→Prop} (q:x=x') (q2:n=n'):Al h z n x K=Al h z n' x' K:=by rw [q,q2]
@[congr] theorem aeY {x x':V} {K:V→Prop} (q:x=x'):Ac x K=Ac x' K:=by rw [q]
@[congr] theorem acB {x x':V} {K:V→Prop} (q:x=x'):xY x K=xY x' K:=by rw [q]
@[congr] theorem abO {x x':V} {K:Nat→List (List V)→Prop} (q:x=x'):i9 h x K=i9 h x' K:=by rw [q]
@[congr] theorem aeU {x x':Option V} {K:Option Int→Prop} (q:x=x'):rQ x K=rQ x' K:=by rw [q]
@[congr] theorem aeO {z:Nat} {x x':V} {l u m:Option Int} {K:V→Prop} (q:x=x'):rF h z x l u m K=rF h z x' l u m K:=by rw [q]
@[congr] theorem abB {acc acc':List V} {ps:List (Nat × Nat × Operand)} {K:V→Prop} (q:acc=acc'):bY e acc ps K=bY e acc' ps K:=by rw [q]
@[congr] theorem acA {sz:Nat} {acc acc':List (List V)} {ps:List (Nat × Operand)} {K:List (List V)→Prop} (q:acc=acc'):bU e sz acc ps K=bU e sz acc' ps K:=by rw [q]
@[congr] theorem afI {x x':V} {K:Bool→Prop} (q:x=x'):Fo x K=Fo x' K:=by rw [q]
@[congr] theorem afP {id sz bytes:Nat} {x x':V} {new new':List (List V)} {K:V→St→Prop} (q:x=x') (q2:new=new'):xC fx bn id sz bytes s x new K=xC fx bn id sz bytes s x' new' K:=by rw [q,q2]
@[congr] theorem afQ {k i n sz bytes:Nat} {new:List (List V)} {b b':Blk} {K:V→St→Prop} (q:b=b'):Gg fx bn k i n sz bytes s new b K=Gg fx bn k i n sz bytes s new b' K:=by rw [q]
@[congr] theorem abD {id sz bytes:Nat} {old old' new:List (List V)} {K:V→St→Prop} (q:old=old'):vW id sz bytes s old new K=vW id sz bytes s old' new K:=by rw [q]
@[congr] theorem acE {sz:Nat} {x x':V} {new:List (List V)} {K:V→St→Prop} (q:x=x'):pU bn sz s x new K=pU bn sz s x' new K:=by rw [q]
@[congr] theorem aeM {x x':V} {K:List V→Prop} (q:x=x'):La x K=La x' K:=by rw [q]
@[congr] theorem aeV {x x':V} {K:V→Prop} (q:x=x'):Ms x K=Ms x' K:=by rw [q]
@[congr] theorem afO {x x':V} {K:FuncId→List V→Prop} (q:x=x'):Oo x K=Oo x' K:=by rw [q]
@[congr] theorem afR {x x':V} {K:List V→Prop} (q:x=x'):Eb x K=Eb x' K:=by rw [q]
@[congr] theorem acH {f:FuncId} {xs xs':List V} {s s':St} {K:V→St→Prop} (q:xs=xs') (q2:s=s'):eG cx f xs s K=eG cx f xs' s' K:=by rw [q,q2]
@[congr] theorem abC {op:BinOp} {ex:Bool} {k:IntKind} {a a' b b':Int} {K:V→Prop} (q:a=a') (q2:b=b'):b6 op ex k a b K=b6 op ex k a' b' K:=by rw [q,q2]
@[congr] theorem afJ {xs xs' ys ys':List V} {ks:List (Nat × TypeDesc)} {K:Bool→Prop} (q:xs=xs') (q2:ys=ys'):eS xs ys ks K=eS xs' ys' ks K:=by rw [q,q2]
@[congr] theorem afX {kd:TypeDesc} {x x' y y':Option V} {K:Bool→Prop} (q:x=x') (q2:y=y'):eqC kd x y K=eqC kd x' y' K:=by rw [q,q2]
@[congr] theorem aeQ {ls:List eT} {acc acc':List V} {K:List V→Prop} (q:acc=acc'):aU h e ls acc K=aU h e ls acc' K:=by rw [q]
@[congr] theorem afZ {p:LPlan} {s s':St} {Ks:St→Prop} (q:s=s'):awP cx p bn Ks s=awP cx p bn Ks s':=by rw [q]
@[congr] theorem afS {l:List aR} {s s':St} {Ks:St→Prop} (q:s=s'):d6 cx l s Ks=d6 cx l s' Ks:=by rw [q]
@[congr] theorem agB {c:LCode} {s s':St} {N R:St→Prop} {X:Nat→St→Prop} (q:s=s'):aw cx c N X R s=aw cx c N X R s':=by rw [q]
@[congr] theorem agA {o:LOp} {s s':St} {K:V→St→Prop} (q:s=s'):aOp cx o s K=aOp cx o s' K:=by rw [q]
end
theorem aV {fx:List Nat} {f:(St→Prop)→St→Prop} {s:St} {G:Type} (pat:G→St) (I:G→Prop) (μ:G→Nat) (g:G) (h0:I g) (h1:leS fx s (pat g))
  (h:∀ g,I g→f (fun s'=>∃ g',(I g'∧μ g'<μ g)∧leS fx s' (pat g')) (pat g)):sQ fx f s :=
 ⟨G,pat,I,μ,leS fx,fun a _ h=>⟨a,.refl a,h⟩,⟨g,h0,_,.refl s,h1⟩,h⟩
theorem eV {fx:List Nat} {f:(St→Prop)→St→Prop} {s s0:St} {G:Type} (hg:dR fx s s0) (pat:G→St) (I:G→Prop) (μ:G→Nat) (g:G) (h0:I g) (h1:leS fx s0 (pat g))
  (h:∀ g,I g→f (fun s'=>∃ g',(I g'∧μ g'<μ g)∧leS fx s' (pat g')) (pat g)):sQ fx f s :=
 ⟨G,pat,I,μ,leS fx,fun a _ h=>⟨a,.refl a,h⟩,⟨g,h0,s0,hg,h1⟩,h⟩
theorem oK {cx:Cx} {f:FuncId} {args:List V} {e:Env} {h:List Blk} {b:Nat} {K:V→St→Prop} (zas:List V) (R:V→List Blk→Prop) (h1:aM h (fun _=>none) args∧wkL zas (aX h (fun _=>none) args)) (h2:cx.C f zas [] [] R)
  (h3:∀ r h',R r h'→aC cx.fx (h++h'.map (bJ (fun j=>some (h.length+j))))∧K (ren (fun j=>some (h.length+j)) r) ⟨e,h++h'.map (bJ (fun j=>some (h.length+j))),b⟩):eG cx f args ⟨e,h,b⟩ K:=by
 have hp:pos []=fun _=>none:=rfl
 have hb:back [] h.length=fun j=>some (h.length+j):=by funext j;simp [back]
 have hk:∀ l:List Blk,l.map (aS [])=l:=x5
 refine ⟨[],zas,[],R,⟨⟨List.nodup_nil,by simp⟩,by simp⟩,?_,?_,by simpa using h2,?_⟩
 ·rw [hp];exact h1.1
 ·rw [hp];exact h1.2
 ·intro r h' hR _
  have:=h3 r h' hR
  simp only [hb,bM,List.filterMap_nil,hk,nA]
  exact this
section
variable {h:List Blk} {e:Env} {s:St} {fx bn:List Nat} {b:Nat}
def Bq (b:Blk) (i n:Nat) (K:Nat→List (List V)→Prop):Prop :=
 match b with
 | .arr sz els=>i+n≤els.length∧K sz ((els.drop i).take n)
 | .var cs=>(i+n≤cs.length∧((cs.drop i).take n).all isD=true)∧K 1 (((cs.drop i).take n).map fun c=>[c])
 | _=>False
theorem wq {α:Type} {x:α} {K:α→Prop}:cR (some x) K=K x:=rfl
theorem wt {n:Option Nat} {k i f:Nat} {K:V→Prop}:iI h n (.ptr k i f) K=pI n i f (blk h k) K:=rfl
theorem wu {n:Option Nat} {z i f:Nat} {els:List (List V)} {K:V→Prop}:iI h n (.rp z els i f) K=∃ hi:i<els.length,cL n f (els[i]'hi) K:=rfl
theorem wv {n:Option Nat} {f:Nat} {cs:List V} {K:V→Prop}:pI n 0 f (.var cs) K=cL n f cs K:=by
 show cL n (0+f) cs K=_
 rw [yan]
theorem ww {n:Option Nat} {i:Nat} {cs:List V} {K:V→Prop}:pI n i 0 (.var cs) K=cL n i cs K:=rfl
theorem wx {n:Option Nat} {i f z:Nat} {els:List (List V)} {K:V→Prop}:pI n i f (.arr z els) K=∃ hi:i<els.length,cL n f (els[i]'hi) K:=rfl
theorem wy {f:Nat} {cs:List V} {K:V→Prop}:cL none f cs K=cR cs[f]? K:=rfl
theorem wz {m f:Nat} {cs:List V} {K:V→Prop}:cL (some m) f cs K=(f+m≤cs.length∧K (.agg ((cs.drop f).take m))):=rfl
theorem wB {n k i f:Nat} {cs:List V} {K:List Blk→Prop}:rE bn h n (.ptr k i f) cs K=((cs.length=n∧k∉bn)∧cs.all isC=true∧mE n i f cs (blk h k) fun b=>K (h.set k b)):=rfl
theorem wC {n f:Nat} {cs old:List V} {K:Blk→Prop}:mE n 0 f cs (.var old) K=((f+n≤old.length)∧K (.var (splice old f cs))):=by
 show ((0+f+n≤old.length)∧K (.var (splice old (0+f) cs)))=_
 rw [yan]
theorem wD {n i:Nat} {cs old:List V} {K:Blk→Prop}:mE n i 0 cs (.var old) K=((i+n≤old.length)∧K (.var (splice old i cs))):=rfl
theorem wE {n i f z:Nat} {cs:List V} {els:List (List V)} {K:Blk→Prop}:mE n i f cs (.arr z els) K=((f+n≤z∧cs.all isD=true)∧∃ hi:i<els.length,K (.arr z (els.set i (splice (els[i]'hi) f cs)))):=rfl
theorem wF {o k i f:Nat} {K:V→Prop}:w7 o (.ptr k i f) K=K (.ptr k i (f+o)):=rfl
theorem wG {o z i f:Nat} {els:List (List V)} {K:V→Prop}:w7 o (.rp z els i f) K=K (.rp z els i (f+o)):=rfl
theorem wH {z k i m:Nat} {n:Int} {K:V→Prop}:Al h z n (.sl k i m) K=(fK z (blk h k)∧(0≤n∧n<m)∧K (.ptr k (i+n.toNat) 0)):=rfl
theorem wI {z y:Nat} {els:List (List V)} {n:Int} {K:V→Prop}:Al h z n (.ro y els) K=(y=z∧(0≤n∧n<els.length)∧K (.rp y els n.toNat 0)):=rfl
theorem wJ {z y:Nat} {els:List (List V)} {n:Int} {K:V→Prop}:Al h z n (.bro y els) K=(y=z∧(0≤n∧n<els.length)∧K (.rp y els n.toNat 0)):=rfl
theorem wK {k i n:Nat} {K:V→Prop}:Ac (.sl k i n) K=(n≤maxLen→K (.i n)):=rfl
theorem wL {y:Nat} {els:List (List V)} {K:V→Prop}:Ac (.ro y els) K=(els.length≤maxLen→K (.i els.length)):=rfl
theorem wM {y:Nat} {els:List (List V)} {K:V→Prop}:Ac (.bro y els) K=(els.length≤maxLen→K (.i els.length)):=rfl
theorem wN {t:ByteArray} {K:V→Prop}:xY (.v (.string t)) K=K (.i t.size):=rfl
theorem wO {vs:List V} {K:List V→Prop}:La (.tup vs) K=K vs:=rfl
theorem wP {k i f:Nat} {K:V→Prop}:Ms (.ptr k i f) K=K (.ptr k i f):=rfl
theorem wQ {f:FuncId} {cs:List V} {K:FuncId→List V→Prop}:Oo (.clo f cs) K=K f cs:=rfl
theorem wR {cs:List V} {K:List V→Prop}:Eb (.agg cs) K=K cs:=rfl
theorem wS {k i n:Nat} {K:Nat→List (List V)→Prop}:i9 h (.sl k i n) K=Bq (blk h k) i n K:=rfl
theorem wT {i n z:Nat} {els:List (List V)} {K:Nat→List (List V)→Prop}:Bq (.arr z els) i n K=(i+n≤els.length∧K z ((els.drop i).take n)):=rfl
theorem wU {z:Nat} {els:List (List V)} {K:Nat→List (List V)→Prop}:i9 h (.ro z els) K=K z els:=rfl
theorem wV {z:Nat} {els:List (List V)} {K:Nat→List (List V)→Prop}:i9 h (.bro z els) K=K z els:=rfl
theorem wW {K:Option Int→Prop}:rQ none K=K none:=rfl
theorem wX {k:IntKind} {n:Int} {K:Option Int→Prop}:rQ (some (.v (.int k n))) K=K (some n):=rfl
theorem wY {z k i n:Nat} {l u m:Option Int} {K:V→Prop}:rF h z (.sl k i n) l u m K=(fK z (blk h k)∧cP n l u m∧K (.sl k (i+(l.getD 0).toNat) ((u.getD n).toNat-(l.getD 0).toNat))):=rfl
theorem wZ {z y:Nat} {els:List (List V)} {l u:Option Int} {K:V→Prop}:rF h z (.bro y els) l u none K=(y=z∧cP els.length l u none∧K (.bro y ((els.drop (l.getD 0).toNat).take ((u.getD els.length).toNat-(l.getD 0).toNat)))):=rfl
theorem ja {z:Nat} {els:List (List V)} {K:Bool→Prop}:Fo (.ro z els) K=((els≠[]→K false)∧(els=[]→K true∧K false)):=rfl
theorem jb {k i n sz bytes z:Nat} {new els:List (List V)} {K:V→St→Prop}:Gg fx bn k i n sz bytes ⟨e,h,b⟩ new (.arr z els) K=((z=sz∧i+n≤els.length∧(n+new.length)*bytes≤140737488355328)∧(k∉fx∧k∉bn)∧K (.sl k 0 (n+new.length)) ⟨aP [k] e,(h.map (aS [k])).set k (.arr sz ((els.drop i).take n++new)),b⟩):=rfl
theorem jc {k i n id sz bytes:Nat} {new:List (List V)} {K:V→St→Prop}:xC fx bn id sz bytes ⟨e,h,b⟩ (.sl k i n) new K=Gg fx bn k i n sz bytes ⟨e,h,b⟩ new (blk h k) K:=rfl
theorem jd {k i n sz:Nat} {new:List (List V)} {cs:List V} {K:V→St→Prop}:vN bn k i n sz ⟨e,h,b⟩ new (.var cs) K=((1=sz∧i+n≤cs.length∧k∉bn)∧K (.i (min new.length n:Nat)) ⟨e,h.set k (.var (splice cs i (new.take n).flatten)),b⟩):=rfl
theorem je {i n:Nat} {cs:List V} {K:Nat→List (List V)→Prop}:Bq (.var cs) i n K=((i+n≤cs.length∧((cs.drop i).take n).all isD=true)∧K 1 (((cs.drop i).take n).map fun c=>[c])):=rfl
theorem jf {n k i f:Nat} {l u m:Option Int} {K:V→Prop}:iF h n (.ptr k i f) l u m K=xJ n k (i+f) (blk h k) l u m K:=rfl
theorem jg {n k i:Nat} {cs:List V} {l u m:Option Int} {K:V→Prop}:xJ n k i (.var cs) l u m K=((i+n≤cs.length∧cP n l u m)∧K (.sl k (i+(l.getD 0).toNat) ((u.getD n).toNat-(l.getD 0).toNat))):=rfl
theorem jh {t:ByteArray} {K:ByteArray→Prop}:iQ (.v (.string t)) K=K t:=rfl
theorem ji {t:ByteArray} {l u:Option Int} {K:V→Prop}:nO t l u K=(cP t.size l u none∧K (.v (.string (t.extract (l.getD 0).toNat (u.getD t.size).toNat)))):=rfl
theorem jj {n k i m:Nat} {K:V→Prop}:Es n (.sl k i m) K=((0<n∧n≤m)∧K (.ptr k i 0)):=rfl
theorem jk {t u:ByteArray} {K:V→Prop}:sJ .eql t u K=K (.b (t.toList==u.toList)):=rfl
theorem jl {t u:ByteArray} {K:V→Prop}:sJ .neq t u K=K (.b (!(t.toList==u.toList))):=rfl
theorem jm {k i n sz:Nat} {new:List (List V)} {K:V→St→Prop}:pU bn sz ⟨e,h,b⟩ (.sl k i n) new K=vN bn k i n sz ⟨e,h,b⟩ new (blk h k) K:=rfl
theorem jn {kd:TypeDesc} {y:Value} {K:Value→Prop}:w6 kd (.v y) K=(isKey kd y=true∧K y):=rfl
theorem jo {k:Nat} {K:Nat→List (Value × V × Nat)→Nat→Prop}:mA h (.mp k) K=Fe (blk h k) (K k):=rfl
theorem jp {es:List (Value × V × Nat)} {c:Nat} {K:List (Value × V × Nat)→Nat→Prop}:Fe (.map es c) K=K es c:=rfl
theorem jq {kd:TypeDesc} {key z:Value} {ok:Bool} {k:Nat} {K:V→Prop}:Hy h kd key z ok (.mp k) K=Fe (blk h k) fun es _=>eW (fO kd key es 0) z ok K:=rfl
theorem jr {i:Nat} {x:V} {z:Value} {K:V→Prop}:eW (some (some (i,x))) z true K=K (.tup [x,.b true]):=rfl
theorem jt {z:Value} {K:V→Prop}:eW (some none) z true K=K (.tup [aA z,.b false]):=rfl
theorem ju {c:Nat} {x:V} {key:Value} {es:List (Value × V × Nat)} {K:Blk→Prop}:iV (some none) key x es c K=K (.map (es++[(key,x,c)]) (c+1)):=rfl
section
variable {k:IntKind} {a c:Int} {K:V→Prop}
theorem jv:b6 .add true k a c K=((lo k≤a+c∧a+c≤hi k)∧K (.v (.int k (a+c)))):=rfl
theorem jx:b6 .add false k a c K=K (.v (.int k (k.wrap (a+c)))):=rfl
theorem jy:b6 .sub true k a c K=((lo k≤a-c∧a-c≤hi k)∧K (.v (.int k (a-c)))):=rfl
theorem jz:b6 .sub false k a c K=K (.v (.int k (k.wrap (a-c)))):=rfl
theorem jA:b6 .mul true k a c K=((lo k≤a*c∧a*c≤hi k)∧K (.v (.int k (a*c)))):=rfl
theorem jB:b6 .mul false k a c K=K (.v (.int k (k.wrap (a*c)))):=rfl
theorem jC {x:Bool}:b6 .eql x k a c K=K (.b (a==c)):=rfl
theorem jD {x:Bool}:b6 .neq x k a c K=K (.b (a != c)):=rfl
theorem jE {x:Bool}:b6 .lss x k a c K=K (.b (decide (a<c))):=rfl
theorem jF {x:Bool}:b6 .leq x k a c K=K (.b (decide (a≤c))):=rfl
theorem jG {x:Bool}:b6 .gtr x k a c K=K (.b (decide (c<a))):=rfl
theorem jH {x:Bool}:b6 .geq x k a c K=K (.b (decide (c≤a))):=rfl
theorem jI:b6 .quo true k a c K=(c≠0∧(lo k≤a.tdiv c∧a.tdiv c≤hi k)∧K (.v (.int k (a.tdiv c)))):=rfl
theorem jJ:b6 .quo false k a c K=(c≠0∧K (.v (.int k (k.wrap (a.tdiv c))))):=rfl
theorem jK {x:Bool}:b6 .rem x k a c K=(c≠0∧K (.v (.int k (a.tmod c)))):=rfl
end
@[congr] theorem abR {n:Nat} {x x':V} {l u m:Option Int} {K:V→Prop} (q:x=x'):iF h n x l u m K=iF h n x' l u m K:=by rw [q]
@[congr] theorem abS {n k i i':Nat} {b b':Blk} {l u m:Option Int} {K:V→Prop} (q:b=b') (q2:i=i'):xJ n k i b l u m K=xJ n k i' b' l u m K:=by rw [q,q2]
@[congr] theorem aeS {x x' y y':V} {K:Bool→Prop} (q:x=x') (q2:y=y'):Ji x y K=Ji x' y' K:=by rw [q,q2]
@[congr] theorem aeN {x x':V} {K:ByteArray→Prop} (q:x=x'):iQ x K=iQ x' K:=by rw [q]
@[congr] theorem aeP {n:Nat} {x x':V} {K:V→Prop} (q:x=x'):Es n x K=Es n x' K:=by rw [q]
@[congr] theorem abQ {t t':ByteArray} {l u:Option Int} {K:V→Prop} (q:t=t'):nO t l u K=nO t' l u K:=by rw [q]
@[congr] theorem abT {o:BinOp} {t t' u u':ByteArray} {K:V→Prop} (q:t=t') (q2:u=u'):sJ o t u K=sJ o t' u' K:=by rw [q,q2]
@[congr] theorem afU {mx:Bool} {x x':V} {r r':List V} {K:V→Prop} (q:x=x') (q2:r=r'):mmP mx x r K=mmP mx x' r' K:=by rw [q,q2]
@[congr] theorem afM {sz:Nat} {z:List Value} {x x':V} {K:V→St→Prop} (q:x=x'):On bn sz z x s K=On bn sz z x' s K:=by rw [q]
@[congr] theorem afN {k i n sz:Nat} {z:List Value} {b b':Blk} {K:V→St→Prop} (q:b=b'):Rw bn k i n sz z s b K=Rw bn k i n sz z s b' K:=by rw [q]
@[congr] theorem afA {ks:List (Nat × TypeDesc)} {x x':V} {K:List Value→Prop} (q:x=x'):Ag ks x K=Ag ks x' K:=by rw [q]
@[congr] theorem aaY {ks:List (Nat × TypeDesc)} {us:List Value} {z:Value} {ok:Bool} {m m':V} {K:V→Prop} (q:m=m'):u4 h ks us z ok m K=u4 h ks us z ok m' K:=by rw [q]
@[congr] theorem acF {k i n sz:Nat} {new:List (List V)} {b b':Blk} {K:V→St→Prop} (q:b=b'):vN bn k i n sz s new b K=vN bn k i n sz s new b' K:=by rw [q]
@[congr] theorem aeZ {kd:TypeDesc} {x x':V} {K:Value→Prop} (q:x=x'):w6 kd x K=w6 kd x' K:=by rw [q]
@[congr] theorem aeW {x x':V} {K:Nat→List (Value × V × Nat)→Nat→Prop} (q:x=x'):mA h x K=mA h x' K:=by rw [q]
@[congr] theorem aeX {x x':Blk} {K:List (Value × V × Nat)→Nat→Prop} (q:x=x'):Fe x K=Fe x' K:=by rw [q]
@[congr] theorem abW {kd:TypeDesc} {key key' z:Value} {ok:Bool} {m m':V} {K:V→Prop} (q:m=m') (q2:key=key'):Hy h kd key z ok m K=Hy h kd key' z ok m' K:=by rw [q,q2]
@[congr] theorem abX {r r':Option (Option (Nat × V))} {z:Value} {ok:Bool} {K:V→Prop} (q:r=r'):eW r z ok K=eW r' z ok K:=by rw [q]
@[congr] theorem abV {r r':Option (Option (Nat × V))} {key key':Value} {x x':V} {es es':List (Value × V × Nat)} {c c':Nat} {K:Blk→Prop} (q:r=r') (q1:key=key') (q2:x=x') (q3:es=es') (q4:c=c'):iV r key x es c K=iV r' key' x' es' c' K:=by rw [q,q1,q2,q3,q4]
@[congr] theorem abU {es es':List (Value × V × Nat)} {si si' la la':Nat} {se se':List Nat} {D:Prop} {K:Value→V→Nat→Prop} (q:es=es') (q1:si=si') (q2:se=se') (q3:la=la'):Hm es si se la D K=Hm es' si' se' la' D K:=by rw [q,q1,q2,q3]
@[congr] theorem afK {r r':Option (Value × V × Nat)} {K:V→Prop} (q:r=r'):Rl r K=Rl r' K:=by rw [q]
@[congr] theorem afV {x x':V} {K:Nat→V→Nat→List Nat→Nat→Prop} (q:x=x'):itK h x K=itK h x' K:=by rw [q]
@[congr] theorem afW {x x':Blk} {K:V→Nat→List Nat→Nat→Prop} (q:x=x'):itB x K=itB x' K:=by rw [q]
@[congr] theorem abP {i n:Nat} {x x':Blk} {K:Nat→List (List V)→Prop} (q:x=x'):Bq x i n K=Bq x' i n K:=by rw [q]
end
section
variable {α:Type} {a:α} {l:List α} {x:α} {y:Nat}
theorem lg0:(a::l)[1]?=l[0]?:=rfl
theorem kk:(a::l).set 1 x=a::l.set 0 x:=rfl
theorem kn:(a::l).drop 1=l.drop 0:=rfl
theorem ko:(a::l).take 1=a::l.take 0:=rfl
theorem kq:yab 1 x=x::yab 0 x:=rfl
theorem lg1:(a::l)[2]?=l[1]?:=rfl
theorem kr:(a::l).set 2 x=a::l.set 1 x:=rfl
theorem kv:(a::l).drop 2=l.drop 1:=rfl
theorem kw:(a::l).take 2=a::l.take 1:=rfl
theorem kx:yab 2 x=x::yab 1 x:=rfl
theorem lg2:(a::l)[3]?=l[2]?:=rfl
theorem ky:(a::l).set 3 x=a::l.set 2 x:=rfl
theorem kz:(a::l).drop 3=l.drop 2:=rfl
theorem kB:(a::l).take 3=a::l.take 2:=rfl
theorem kC:yab 3 x=x::yab 2 x:=rfl
theorem lg3:(a::l)[4]?=l[3]?:=rfl
theorem kD:(a::l).set 4 x=a::l.set 3 x:=rfl
theorem kF:(a::l).drop 4=l.drop 3:=rfl
theorem kG:(a::l).take 4=a::l.take 3:=rfl
theorem kH:yab 4 x=x::yab 3 x:=rfl
theorem lg4:(a::l)[5]?=l[4]?:=rfl
theorem kI:(a::l).set 5 x=a::l.set 4 x:=rfl
theorem kJ:(a::l).drop 5=l.drop 4:=rfl
theorem kK:(a::l).take 5=a::l.take 4:=rfl
theorem kL:yab 5 x=x::yab 4 x:=rfl
theorem lg5:(a::l)[6]?=l[5]?:=rfl
theorem kM:(a::l).set 6 x=a::l.set 5 x:=rfl
theorem kN:(a::l).drop 6=l.drop 5:=rfl
theorem kO:(a::l).take 6=a::l.take 5:=rfl
theorem kP:yab 6 x=x::yab 5 x:=rfl
theorem lg6:(a::l)[7]?=l[6]?:=rfl
theorem kQ:(a::l).set 7 x=a::l.set 6 x:=rfl
theorem kR:(a::l).drop 7=l.drop 6:=rfl
theorem kS:(a::l).take 7=a::l.take 6:=rfl
theorem kT:yab 7 x=x::yab 6 x:=rfl
theorem lg7:(a::l)[8]?=l[7]?:=rfl
theorem kU:(a::l).set 8 x=a::l.set 7 x:=rfl
theorem kV:(a::l).drop 8=l.drop 7:=rfl
theorem kX:(a::l).take 8=a::l.take 7:=rfl
theorem kY:yab 8 x=x::yab 7 x:=rfl
theorem lg8:(a::l)[9]?=l[8]?:=rfl
theorem kZ:(a::l).set 9 x=a::l.set 8 x:=rfl
theorem wa:yab 9 x=x::yab 8 x:=rfl
theorem lg9:(a::l)[10]?=l[9]?:=rfl
theorem wb:(a::l).set 10 x=a::l.set 9 x:=rfl
theorem wc:yab 10 x=x::yab 9 x:=rfl
theorem wd:(a::l)[11]?=l[10]?:=rfl
theorem we:(a::l).set 11 x=a::l.set 10 x:=rfl
theorem wg:yab 11 x=x::yab 10 x:=rfl
theorem wh:yab 12 x=x::yab 11 x:=rfl
theorem wi:yab 13 x=x::yab 12 x:=rfl
theorem wj:yab 14 x=x::yab 13 x:=rfl
theorem wl:yab 15 x=x::yab 14 x:=rfl
theorem wm:yab 16 x=x::yab 15 x:=rfl
theorem wo:yab 0 x=[]:=rfl
end
end Go.Fx
namespace Go.Fx
open Go.RowKit
theorem Ci {ρ:Nat→Loc} {X:Nat→Prop} {w:World} {h:List Blk} (hr:Rep ρ X w h):Rep (dF ρ fun _=>true) X w [] :=
 ⟨fun j k _ h1=>by simp [dF] at h1,fun k _=>by simp [dF],fun k b hb=>by simp at hb,fun b ho=>hr.disj b (Fm ho),fun k h1=>by simp [dF] at h1,hr.xlt⟩
theorem Iq {P:Program} {f:FuncId} {args:List V} {mv:List Nat} {R:V→List Blk→Prop} {y:V} (h:Fn P f args [] mv R) (hy:∀ r hs,R r hs→wk y (gvV (fun _=>true) hs r)):Fn P f args [] mv (Is y):=by
 intro ρ X w vals h1 h2
 refine Calls.mono (h ρ X w vals h1 h2) ?_
 rintro e w' ⟨val,r,h',ρ',q1,q2,q3,q4,q5,q6⟩
 exact ⟨val,y,[],_,q1,⟨⟨rfl,rfl⟩,yad _⟩,q3.trans sT,Ci q4,Km _ _ _ (hy r h' q2.1) (rT q4 _ _ q5),fun k hk=>by simp at hk⟩
theorem Pn {P:Program} {f:FuncId} {args:List V} {mv:List Nat} {R R':V→List Blk→Prop} (h:Fn P f args [] mv R) (hR:∀ r hs,R r hs→∃ r' hs',R' r' hs'∧leG [] ⟨[(0,r)],hs,0⟩ ⟨[(0,r')],hs',0⟩):Fn P f args [] mv R':=by
 intro ρ X w vals h1 h2
 refine Calls.mono (h ρ X w vals h1 h2) ?_
 rintro e w' ⟨val,r,h',ρ',q1,q2,q3,q4,q5,q6⟩
 obtain ⟨r',hs',g1,g2⟩:=hR r h' q2.1
 have hg:Good ρ X w [] 1 ⟨[(0,r)],h',0⟩ ⟨#[val],[]⟩ w':=by
  refine ⟨ρ',⟨⟨q3,fun k hk=>by simp at hk⟩,trivial⟩,⟨q4,fun i=>?_⟩,rfl,Marks.nil⟩
  by_cases hi:i=0
  ·subst hi;exact q5
  ·have:get [(0,r)] i=.any:=by simp [get,hi]
   rw [this];trivial
 obtain ⟨ρ2,⟨⟨p1,_⟩,_⟩,⟨p2,p3⟩,_⟩:=hg.leG g2
 exact ⟨val,r',hs',ρ2,q1,⟨g1,yas _⟩,p1,p2,p3 0,fun k hk=>by simp at hk⟩
end Go.Fx
namespace Go.Fx
open Go.RowKit
section
variable (P:Program)
def C0:Ctr:=fun f xs h0 mv R=>c9 P f∧Fn P f xs h0 mv R
def I0:Itr:=fun f zas fx k Y h K=>c9 P f∧Sk P f zas fx k Y h K
def Y0:Nat→Yt:=fun _ _ _ _=>False
def cxN (fx:List Nat):Cx:=⟨C0 P,fx,[],I0 P,Y0,none⟩
theorem Aw (fx:List Nat):(cxN P fx).ok P:=⟨fun _ _ _ _ _ h=>h,fun _ _ _ _ _ _ _ h=>h⟩
def OkN (f:FuncId) (xs:List V) (h0:List Blk) (mv:List Nat) (R:V→List Blk→Prop):Prop:=C0 P f xs h0 mv R
variable {P}
theorem fR (hP:P.follows .mixedOrders=true) {f:FuncId} {l0 l:LCode} {rs:List eT} {nt:Nat} (fx:List Nat) (hl:rlF P f l0=some (l,rs,nt)) {args:List V} {h0:List Blk} {mv:List Nat} {R:V→List Blk→Prop} (hlen:args.length≤nt) (hb:aC fx h0)
  (hfx:∀ k,k<h0.length→k∉mv→k∈fx) (h:aw (cxN P fx) l (eJ fx h0.length rs R) (fun _ _=>False) (eJ fx h0.length rs R) ⟨aL 0 args,h0,0⟩):OkN P f args h0 mv R :=
 ⟨gS hl,abL hP (Aw P fx) hl hlen hb hfx h⟩
theorem Fk (hP:P.follows .mixedOrders=true) {f:FuncId} {l0 l:LCode} {nt:Nat} (fx:List Nat) (hl:rlF P f l0=some (l,[],nt)) {args:List V} {h0:List Blk} {k:Nat} {Y:Yt} {K:List Blk→Prop} (hlen:args.length≤nt)
  (h:aw ⟨C0 P,fx,[],I0 P,fun k' xs s Z=>k'=k∧Y xs s Z,none⟩ l (fun s=>K s.h) (fun _ _=>False) (fun s=>K s.h) ⟨aL 0 args,h0,0⟩):I0 P f args fx k Y h0 K :=
 ⟨gS hl,Si (cx:=⟨C0 P,fx,[],I0 P,fun k' xs s Z=>k'=k∧Y xs s Z,none⟩) hP ⟨fun _ _ _ _ _ h=>h,fun _ _ _ _ _ _ _ h=>h⟩ hl hlen h rfl rfl⟩
theorem pE {f:FuncId} {xs:List V} {h0:List Blk} {mv:List Nat} {R R':V→List Blk→Prop} (h:OkN P f xs h0 mv R) (hR:∀ r h',R r h'→R' r h'):OkN P f xs h0 mv R':=by
 refine ⟨h.1,?_⟩
 intro ρ X w vals h1 h2
 refine Calls.mono (h.2 ρ X w vals h1 h2) ?_
 rintro e w' ⟨val,r,h',ρ',q1,q2,q3,q4,q5,q6⟩
 exact ⟨val,r,h',ρ',q1,⟨hR r h' q2.1,q2.2⟩,q3,q4,q5,q6⟩
theorem jW {f:FuncId} {xs:List V} {y:V} {R:V→List Blk→Prop} (h:OkN P f xs [] [] R) (hy:∀ r hs,R r hs→wk y (gvV (fun _=>true) hs r)):OkN P f xs [] [] (Is y):=⟨h.1,Iq h.2 hy⟩
theorem Jk {f:FuncId} {xs:List V} {R R':V→List Blk→Prop} (h:OkN P f xs [] [] R) (hR:∀ r hs,R r hs→∃ r' hs',R' r' hs'∧leG [] ⟨[(0,r)],hs,0⟩ ⟨[(0,r')],hs',0⟩):OkN P f xs [] [] R':=⟨h.1,Pn h.2 hR⟩
end
def IsA (x:V) (h0:List Blk):V→List Blk→Prop:=fun r h=>r=x∧h=h0
theorem bT {fx:List Nat} {n:Nat} {e:Env} {h:List Blk} {b:Nat} {rs:List eT} {x:V} {h0:List Blk}:eJ fx n rs (IsA x h0) ⟨e,h,b⟩=aU h e rs [] fun xs=>(leH h h0∧aC fx h0∧n≤h0.length∧wfV h0 (aY xs)∧wfB h0 h0)∧aY xs=x:=by
 rw [dT]
 congr 1
 funext xs
 apply propext
 constructor
 ·rintro ⟨p,h1,h2,rfl⟩
  exact ⟨h1,h2⟩
 ·rintro ⟨h1,h2⟩
  exact ⟨h0,h1,h2,rfl⟩
def IsQ {G:Type} (Q:G→Prop) (x:G→V) (h0:G→List Blk):V→List Blk→Prop:=fun r h=>∃ g,Q g∧r=x g∧h=h0 g
theorem uI {G:Type} {Q:G→Prop} {fx:List Nat} {n:Nat} {e:Env} {h:List Blk} {b:Nat} {rs:List eT} {x:G→V} {h0:G→List Blk} (g:G) (hq:Q g)
  (hr:aU h e rs [] fun xs=>(leH h (h0 g)∧aC fx (h0 g)∧n≤(h0 g).length∧wfV (h0 g) (aY xs)∧wfB (h0 g) (h0 g))∧aY xs=x g):eJ fx n rs (IsQ Q x h0) ⟨e,h,b⟩:=by
 have hm:∀ {h:List Blk} {e:Env} (rs:List eT) (acc:List V) {K K':List V→Prop},(∀ xs,K xs→K' xs)→aU h e rs acc K→aU h e rs acc K':=by
  intro h e rs
  induction rs with
  | nil=>intro acc K K' hk h;exact hk _ h
  | cons r rs ih =>
   intro acc K K' hk hh
   cases r with
   | tmp t=>exact ih _ hk hh
   | cell a n =>
    simp only [aU] at hh ⊢
    have hcs:∀ (n:Option Nat) (f:Nat) (cs:List V) {A B:V→Prop},(∀ x,A x→B x)→cL n f cs A→cL n f cs B:=by
     intro n f cs A B hab hl
     unfold cL at hl ⊢
     split at hl
     ·unfold cR at hl ⊢
      split at hl
      ·exact hab _ hl
      ·exact hl.elim
     ·exact ⟨hl.1,hab _ hl.2⟩
    unfold iI at hh ⊢
    split at hh
    ·unfold pI at hh ⊢
     split at hh
     ·exact hcs _ _ _ (fun x=>ih _ hk) hh
     ·obtain ⟨hi,hh⟩:=hh;exact ⟨hi,hcs _ _ _ (fun x=>ih _ hk) hh⟩
     ·obtain ⟨hi,hh⟩:=hh;exact ⟨hi,hcs _ _ _ (fun x=>ih _ hk) hh⟩
     ·exact hh.elim
    ·obtain ⟨hi,hh⟩:=hh;exact ⟨hi,hcs _ _ _ (fun x=>ih _ hk) hh⟩
    ·exact hh.elim
 rw [dT]
 refine hm rs [] ?_ hr
 rintro xs ⟨h1,h2⟩
 exact ⟨h0 g,h1,g,hq,h2,rfl⟩
section
variable {cx:Cx} {f:FuncId} {args:List V} {e:Env} {h:List Blk} {b:Nat} {K:V→St→Prop}
theorem aE {xs:List V} {x:V} (hC:cx.C f xs [] [] (Is x)) (h1:aM h (fun _=>none) args∧wkL xs (aX h (fun _=>none) args)) (hx:ren (fun j=>some (h.length+j)) x=x) (keep:aC cx.fx h) (h3:K x ⟨e,h,b⟩):eG cx f args ⟨e,h,b⟩ K:=by
 refine oK xs (Is x) h1 hC ?_
 rintro r h' ⟨rfl,rfl⟩
 simp only [List.map_nil,yaH]
 exact ⟨keep,by rw [hx];exact h3⟩
theorem dM (xs:List V) (x x':V) (h0 h0':List Blk) (hC:cx.C f xs [] [] (IsA x h0)) (h1:aM h (fun _=>none) args∧wkL xs (aX h (fun _=>none) args))
  (hx:ren (fun j=>some (h.length+j)) x=x') (hh:h0.map (bJ (fun j=>some (h.length+j)))=h0') (keep:aC cx.fx (h++h0')) (h3:K x' ⟨e,h++h0',b⟩):eG cx f args ⟨e,h,b⟩ K:=by
 refine oK xs (IsA x h0) h1 hC ?_
 rintro r h' ⟨rfl,rfl⟩
 rw [hx,hh]
 exact ⟨keep,h3⟩
theorem eF (ι:List Nat) (xs:List V) (x x':V) (h0 h1 h':List Blk) (hC:cx.C f xs h0 [] (IsA x h1))
  (hι:ι.Nodup∧∀ k∈ι,k<h.length∧k∉cx.bn) (r0:ι.map (fun k=>bJ (pos ι) (blk h k))=h0) (ha:aM h (pos ι) args∧wkL xs (aX h (pos ι) args)) (hlen:ι.length≤h1.length)
  (hh:bM ι (h1.map (bJ (back ι h.length))) h=h') (hx:ren (back ι h.length) x=x') (keep:aC cx.fx h') (h3:K x' ⟨e,h',b⟩):eG cx f args ⟨e,h,b⟩ K:=by
 have hkb:∀ l:List Blk,l.map (aS [])=l:=x5
 refine ⟨ι,xs,[],IsA x h1,⟨hι,by simp⟩,ha.1,ha.2,by rw [r0];exact hC,?_⟩
 rintro r h2 ⟨rfl,rfl⟩ _
 simp only [List.filterMap_nil,hkb,nA,hh,hx]
 exact ⟨keep,h3⟩
theorem vR {G:Type} (Q:G→Prop) (ι mv M:List Nat) (xs:List V) (x:G→V) (h0:List Blk) (h1:G→List Blk) (hC:cx.C f xs h0 mv (IsQ Q x h1))
  (hι:ι.Nodup∧∀ k∈ι,k<h.length∧k∉cx.bn) (hM:mv.filterMap (ι[·]?)=M∧∀ j∈mv,∀ k,ι[j]?=some k→k∉cx.fx) (r0:ι.map (fun k=>bJ (pos ι) (blk h k))=h0) (ha:aM h (pos ι) args∧wkL xs (aX h (pos ι) args))
  (h3:∀ g,Q g→aC cx.fx (bM ι ((h1 g).map (bJ (back ι h.length))) (h.map (aS M)))∧K (ren (back ι h.length) (x g)) ⟨aP M e,bM ι ((h1 g).map (bJ (back ι h.length))) (h.map (aS M)),b⟩):eG cx f args ⟨e,h,b⟩ K:=by
 refine ⟨ι,xs,mv,IsQ Q x h1,⟨hι,hM.2⟩,ha.1,ha.2,by rw [r0];exact hC,?_⟩
 rintro r h2 ⟨g,hq,rfl,rfl⟩ _
 rw [hM.1]
 exact h3 g hq
end
end Go.Fx
namespace Go.Fx
open Go.RowKit
def y5 (b:Option Blk) (K:RS→Env→Prop):Prop :=
 match b with
 | some (.rcd t e)=>K t e
 | _=>False
theorem Vc {t:RS} {e:Env} {K:RS→Env→Prop}:y5 (some (.rcd t e)) K=K t e:=rfl
@[congr] theorem aeR {b b':Option Blk} {K:RS→Env→Prop} (q:b=b'):y5 b K=y5 b' K:=by rw [q]
theorem Ey {h:List Blk} {k:Nat} {K:RS→Env→Prop}:pA h k K=y5 h[k]? K:=by
 unfold pA y5;rfl
def Nh (x:V) (K:Nat→Prop):Prop :=
 match x with
 | .itr k=>K k
 | _=>False
theorem Wf {k:Nat} {K:Nat→Prop}:Nh (.itr k) K=K k:=rfl
@[congr] theorem afB {x x':V} {K:Nat→Prop} (q:x=x'):Nh x K=Nh x' K:=by rw [q]
def Im (Y:Nat→Yt) (k:Nat) (xs:List V) (s:St) (K:V→St→Prop):Prop:=Y k xs s K
@[congr] theorem acG {Y:Nat→Yt} {k:Nat} {xs xs':List V} {s s':St} {K:V→St→Prop} (q:xs=xs') (q2:s=s'):Im Y k xs s K=Im Y k xs' s' K:=by rw [q,q2]
def Rm (t:RS) (A:Prop) (B:Nat→Prop) (C:Prop):Prop :=
 match t with
 | .ready=>A
 | .out none=>C
 | .out (some j)=>B j
 | _=>False
theorem Wq {A C:Prop} {B:Nat→Prop}:Rm .ready A B C=A:=rfl
@[congr] theorem afL {t t':RS} {A C:Prop} {B:Nat→Prop} (q:t=t'):Rm t A B C=Rm t' A B C:=by rw [q]
section
variable {cx:Cx} {e:Env} {h:List Blk} {b:Nat} {K:V→St→Prop} {Ks:St→Prop} {N R:St→Prop} {X:Nat→St→Prop} {d:Option Nat} {op:LOp}
@[congr] theorem acK {l:List aR} {s s':St} {Ks:St→Prop} (q:s=s'):bC cx l s Ks=bC cx l s' Ks:=by rw [q]
theorem Sc {m n:Nat} {l:List aR}:aw cx (.yreg m n l) N X R ⟨e,h,b⟩=bC cx l ⟨e,h++yab n .dead,h.length⟩ N:=rfl
theorem Jx:bC cx [] ⟨e,h,b⟩ Ks=Ks ⟨e,h,b⟩:=rfl
theorem Ei {f:Operand} {xs:List Operand} {r:List aR}:bC cx (⟨d,.yld f xs,none⟩::r) ⟨e,h,b⟩ Ks=Nh (ev e f) fun k=>Im cx.y k (xs.map (ev e)) ⟨e,h,b⟩ fun x s'=>bC cx r (s'.put d x) Ks:=by
 show p8 cx f xs ⟨e,h,b⟩ _=_
 unfold p8 Nh Im;rfl
theorem Tn {x:Operand} {r:List aR}:bC cx (⟨d,(.mov x),none⟩::r) ⟨e,h,b⟩ Ks=aOp cx (.mov x) ⟨e,h,b⟩ fun x s'=>bC cx r (s'.put d x) Ks:=rfl
theorem Tq {x:Operand} {g:Nat} {w:Bool} {r:List aR}:bC cx (⟨d,(.mov x),some (g,w)⟩::r) ⟨e,h,b⟩ Ks=eR (get e g) w
   (aOp cx (.mov x) ⟨(g,.b w)::e,h,b⟩ fun x s'=>bC cx r (s'.put d x) Ks)
   (bC cx r (St.put ⟨(g,.b !w)::e,h,b⟩ d (.v (.tuple #[]))) Ks)
   (bC cx r (St.put ⟨e,h,b⟩ d (.v (.tuple #[]))) Ks):=rfl
theorem Pt {c x y:Operand} {r:List aR}:bC cx (⟨d,(.pick c x y),none⟩::r) ⟨e,h,b⟩ Ks=aOp cx (.pick c x y) ⟨e,h,b⟩ fun x s'=>bC cx r (s'.put d x) Ks:=rfl
theorem Pu {n:Option Nat} {x:Operand} {r:List aR}:bC cx (⟨d,(.load n x),none⟩::r) ⟨e,h,b⟩ Ks=aOp cx (.load n x) ⟨e,h,b⟩ fun x s'=>bC cx r (s'.put d x) Ks:=rfl
theorem Pw {n:Option Nat} {x:Operand} {g:Nat} {w:Bool} {r:List aR}:bC cx (⟨d,(.load n x),some (g,w)⟩::r) ⟨e,h,b⟩ Ks=eR (get e g) w
   (aOp cx (.load n x) ⟨(g,.b w)::e,h,b⟩ fun x s'=>bC cx r (s'.put d x) Ks)
   (bC cx r (St.put ⟨(g,.b !w)::e,h,b⟩ d (.v (.tuple #[]))) Ks)
   (bC cx r (St.put ⟨e,h,b⟩ d (.v (.tuple #[]))) Ks):=rfl
theorem Tt {n:Nat} {x:Operand} {g:Nat} {w:Bool} {r:List aR}:bC cx (⟨d,(.fld n x),some (g,w)⟩::r) ⟨e,h,b⟩ Ks=eR (get e g) w
   (aOp cx (.fld n x) ⟨(g,.b w)::e,h,b⟩ fun x s'=>bC cx r (s'.put d x) Ks)
   (bC cx r (St.put ⟨(g,.b !w)::e,h,b⟩ d (.v (.tuple #[]))) Ks)
   (bC cx r (St.put ⟨e,h,b⟩ d (.v (.tuple #[]))) Ks):=rfl
theorem Ts {n:Nat} {x i:Operand} {g:Nat} {w:Bool} {r:List aR}:bC cx (⟨d,(.idx n x i),some (g,w)⟩::r) ⟨e,h,b⟩ Ks=eR (get e g) w
   (aOp cx (.idx n x i) ⟨(g,.b w)::e,h,b⟩ fun x s'=>bC cx r (s'.put d x) Ks)
   (bC cx r (St.put ⟨(g,.b !w)::e,h,b⟩ d (.v (.tuple #[]))) Ks)
   (bC cx r (St.put ⟨e,h,b⟩ d (.v (.tuple #[]))) Ks):=rfl
theorem Tp {o:BinOp} {ex:Bool} {x y:Operand} {r:List aR}:bC cx (⟨d,(.bin o ex x y),none⟩::r) ⟨e,h,b⟩ Ks=aOp cx (.bin o ex x y) ⟨e,h,b⟩ fun x s'=>bC cx r (s'.put d x) Ks:=rfl
theorem Tu {o:BinOp} {ex:Bool} {x y:Operand} {g:Nat} {w:Bool} {r:List aR}:bC cx (⟨d,(.bin o ex x y),some (g,w)⟩::r) ⟨e,h,b⟩ Ks=eR (get e g) w
   (aOp cx (.bin o ex x y) ⟨(g,.b w)::e,h,b⟩ fun x s'=>bC cx r (s'.put d x) Ks)
   (bC cx r (St.put ⟨(g,.b !w)::e,h,b⟩ d (.v (.tuple #[]))) Ks)
   (bC cx r (St.put ⟨e,h,b⟩ d (.v (.tuple #[]))) Ks):=rfl
theorem To {x:Operand} {r:List aR}:bC cx (⟨d,(.len x),none⟩::r) ⟨e,h,b⟩ Ks=aOp cx (.len x) ⟨e,h,b⟩ fun x s'=>bC cx r (s'.put d x) Ks:=rfl
theorem Pv {x:Operand} {r:List aR}:bC cx (⟨d,(.lens x),none⟩::r) ⟨e,h,b⟩ Ks=aOp cx (.lens x) ⟨e,h,b⟩ fun x s'=>bC cx r (s'.put d x) Ks:=rfl
theorem p6 {x:Operand} {r:List aR}:bC cx (⟨d,(.not x),none⟩::r) ⟨e,h,b⟩ Ks=aOp cx (.not x) ⟨e,h,b⟩ fun x s'=>bC cx r (s'.put d x) Ks:=rfl
theorem Ir {mx:Bool} {x y:Operand} {r:List aR}:bC cx (⟨d,(.minmax mx x y),none⟩::r) ⟨e,h,b⟩ Ks=aOp cx (.minmax mx x y) ⟨e,h,b⟩ fun x s'=>bC cx r (s'.put d x) Ks:=rfl
theorem Kf {z:List Value} {ps:List (Nat × Nat × Operand)} {r:List aR}:bC cx (⟨d,(.build z ps),none⟩::r) ⟨e,h,b⟩ Ks=aOp cx (.build z ps) ⟨e,h,b⟩ fun x s'=>bC cx r (s'.put d x) Ks:=rfl
theorem Ps {x l u:Operand} {r:List aR}:bC cx (⟨d,(.prim (.sslc true true) [x,l,u]),none⟩::r) ⟨e,h,b⟩ Ks=aOp cx (.prim (.sslc true true) [x,l,u]) ⟨e,h,b⟩ fun x s'=>bC cx r (s'.put d x) Ks:=rfl
theorem Sa {k:Nat}:sW k Ks ⟨e,h,b⟩=y5 h[k]? fun t e'=>t=.ready∧Ks ⟨e,h.set k (.rcd .busy e'),b⟩:=Ey
theorem Rn {k kE bI:Nat} {t:RS} {y:Bool}:eX k kE bI K y t ⟨e,h,b⟩=y5 h[k]? fun t2 e2=>t2=.busy∧y5 h[kE]? fun t3 eI=>t3=.ghost∧K (.b y) ⟨eI,(h.set k (.rcd t e2)).set kE .dead,bI⟩:=by
 unfold eX
 simp only [Ey]
theorem Ro {k:Nat}:vK k N X R h=y5 h[k]? fun t e=>(wfE (h.set k .dead) e∧wfB (h.set k .dead) (h.set k .dead))∧Rm t (N ⟨e,h.set k .dead,0⟩) (fun j=>X j ⟨e,h.set k .dead,0⟩) (R ⟨e,h.set k .dead,0⟩):=by
 unfold vK
 simp only [Ey]
 rfl
@[congr] theorem acJ {k:Nat} {s s':St} (q:s=s'):sW k Ks s=sW k Ks s':=by rw [q]
@[congr] theorem acC {k kE bI:Nat} {t:RS} {y:Bool} {s s':St} (q:s=s'):eX k kE bI K y t s=eX k kE bI K y t s':=by rw [q]
@[congr] theorem acD {k:Nat} {h h':List Blk} (q:h=h'):vK k N X R h=vK k N X R h':=by rw [q]
def yR (cx:Cx) (ps:List Nat) (asg body:LCode) (k:Nat):Yt:=fun xs sI K=>pA sI.h k fun t e=>t=.ready∧xs.length=ps.length ∧
 aw { cx with fx:=sI.h.length::k::cx.fx,y:=fun _ _ _ _=>False,rk:=some k } asg
  (sW k fun s1=>aw { cx with fx:=sI.h.length::k::cx.fx,y:=fun _ _ _ _=>False,rk:=some k } body
   (eX k sI.h.length sI.b K true .ready) (fun j=>eX k sI.h.length sI.b K false (.out (some j))) (eX k sI.h.length sI.b K false (.out none)) s1)
  (fun _ _=>False) (fun _=>False) ⟨fC ps xs e,sI.h++[.rcd .ghost sI.e],sI.b⟩
theorem rJ {g:Operand} {ps:List Nat} {asg body:LCode} {gf:FuncId} {caps:List V} (n:Nat) (hn:h.length=n) (hg:ev e g=.clo gf caps) (hrk:Nm cx.rk h)
  (hit:cx.it gf (.itr n::caps) (n::cx.fx) n (yR cx ps asg body n) (h++[.rcd .ready e]) (vK n N X R)):aw cx (.rfn g ps asg body) N X R ⟨e,h,b⟩:=by
 subst hn
 simp only [aw,hg]
 exact ⟨hrk,hit⟩
theorem xE {ps:List Nat} {asg body:LCode} {k:Nat} {xs:List V} {e0:Env} (n:Nat) (hn:h.length=n) (hk:h[k]?=some (.rcd .ready e0)) (hl:xs.length=ps.length)
  (hgo:aw ⟨cx.C,n::k::cx.fx,cx.bn,cx.it,Y0,some k⟩ asg (sW k fun s1=>aw ⟨cx.C,n::k::cx.fx,cx.bn,cx.it,Y0,some k⟩ body
   (eX k n b K true .ready) (fun j=>eX k n b K false (.out (some j))) (eX k n b K false (.out none)) s1) (fun _ _=>False) (fun _=>False) ⟨fC ps xs e0,h++[.rcd .ghost e],b⟩) :
  yR cx ps asg body k xs ⟨e,h,b⟩ K:=by
 subst hn
 unfold yR pA
 rw [show (⟨e,h,b⟩:St).h[k]?=some (.rcd .ready e0) from hk]
 exact ⟨rfl,hl,hgo⟩
end
end Go.Fx
namespace Go.Fx
open Go.RowKit
theorem Hj {P:Program} (hP:P.follows .mixedOrders=true) {f:FuncId} {l0 l:LCode} {rs:List eT} {nt:Nat} (fx:List Nat) (hl:rlF P f l0=some (l,rs,nt)) {args:List V} {h0:List Blk} {mv:List Nat} {R:V→List Blk→Prop} (hlen:args.length≤nt) (hb:aC fx h0)
  (hfx:∀ k,k<h0.length→k∉mv→k∈fx) {s0:St} (hg:leG fx ⟨aL 0 args,h0,0⟩ s0) (h:aw (cxN P fx) l (eJ fx h0.length rs R) (fun _ _=>False) (eJ fx h0.length rs R) s0):OkN P f args h0 mv R:=by
 refine ⟨gS hl,?_⟩
 unfold rlF at hl
 split at hl
 ·rename_i fn hf
  split at hl
  ·rename_i c rs' hb' hr ht
   simp only [yac,yao,decide_eq_true_eq] at ht
   cases hm:rlC P fn.ntmps c l0 with
   | none=>simp [hm] at hl
   | some l1 =>
    simp only [hm,yap,yaa,yaq] at hl
    obtain ⟨rfl,rfl,rfl⟩:=hl
    intro ρ X w vals hr0 ha
    have hvl:=b7 ha
    refine (callsIn_wide (n:=0)).1 (callsIn_of_wp_marks hf hb' trivial ?_)
    have hgd:Good ρ X w fx fn.ntmps ⟨aL 0 args,h0,0⟩ { tmps:=vals.toArray++yah (fn.ntmps-vals.toArray.size) undef,defers:=[] } w :=
     ⟨ρ,⟨⟨Fr.refl _ _,fun _ _=>rfl⟩,hb⟩,⟨hr0,fW ha _⟩,by simp;omega,Marks.nil⟩
    have hend:∀ s,eJ fx h0.length rs' R s→∀ a w',Good ρ X w fx fn.ntmps s a w'→∃ v,(results fn a.tmps).run P w'=.ok v w'∧∃ val r h' ρ',Ending.returned v=.returned val∧(R r h'∧h0.length≤h'.length)∧Fr ρ w ρ' w'∧Rep ρ' X w' h'∧aK ρ' X w' r val ∧
      ∀ k,k<h0.length→k∉mv→ρ' k=ρ k:=by
     intro s hret a w' hgood
     obtain ⟨ρ',⟨⟨hf1,hfx1⟩,hk1⟩,⟨hr1,he1⟩,hN1,hd1⟩:=hgood
     obtain ⟨xs,vs,h5,h6,h7⟩:=jQ hr1 he1 fn.results.toList rs' [] [] hr trivial hret
     obtain ⟨p,⟨h8,h9,h10,h11,h12⟩,h13⟩:=h5
     refine ⟨s9 vs,gH ht.1 h7,_,_,p,cO ρ' p,rfl,⟨h13,h10⟩,hf1.trans gE,lO hr1 h8 h12,?_,fun k hk hkm=>?_⟩
     ·exact eE _ _ h11 (tJ (by simpa using h6))
     ·have hkf:=hfx k hk hkm
      rw [bZ (aN h9 k hkf)]
      exact hfx1 k hkf
    refine mS (P:=P) (X:=X) (N:=fn.ntmps) hP c l0 l1 hm none (cxN P fx) ρ w (Aw P fx) (.inl rfl) trivial (fun k=>j8) _ (eJ fx h0.length rs' R) (fun _ _=>False) (eJ fx h0.length rs' R) ?_ ?_ (fun _ _ _ _ hx _=>hx.elim) ?_ _ _ _ h (hgd.leG hg)
    ·rintro ⟨a,w',val,_,_,_,hq,_⟩
     cases hq
    ·intro s a w' hret hgood
     exact fS (hend s hret) a.defers a w' rfl hgood
    ·intro s a w' hret hgood
     exact fS (hend s hret) a.defers a w' rfl hgood
  ·cases hl
 ·cases hl
end Go.Fx
namespace Go.Fx
open Go.RowKit
theorem abK {P:Program} {f:FuncId} {zas:List V} {fx:List Nat} {k:Nat} {Y:Yt} {h h':List Blk} {K:List Blk→Prop} (hle:leH h h') (hk:aC fx h') (hw:wfB h' h') (ha:wfL h' zas) (hi:I0 P f zas fx k Y h' K):I0 P f zas fx k Y h K:=by
 refine ⟨hi.1,?_⟩
 intro ρ X w vals hr hv hkp hY
 have:=hi.2 (cO ρ h') X w vals (lO hr hle hw) (fV _ _ ha hv) hk (by
  intro ρ1 w1 s tmps xs vs Z ⟨hf,hfx⟩ g1 g2 g3 g4 g5
  exact hY ρ1 w1 s tmps xs vs Z ⟨gE.trans hf,fun j hj=>(hfx j hj).trans (bZ (aN hk j hj))⟩ g1 g2 g3 g4 g5)
 refine this.mono ?_
 rintro e w' ⟨val,h1,ρ',rfl,hK,⟨hf,hr'⟩,hfx,hkp'⟩
 exact ⟨val,h1,ρ',rfl,hK,⟨gE.trans hf,hr'⟩,fun j hj=>(hfx j hj).trans (bZ (aN hk j hj)),hkp'⟩
end Go.Fx
namespace Go.Fx
open Go.RowKit
theorem y7 {P:Program} {f:FuncId} {xs ys:List V} {h0:List Blk} {y:V} (h:OkN P f ys [] [] (Is y)) (hy:wkL ys (gvL (fun _=>true) h0 xs)) :
  OkN P f xs h0 (List.range h0.length) (IsA y (yab h0.length .dead)):=by
 refine ⟨h.1,?_⟩
 intro ρ X w vals h1 h2
 refine Calls.mono (h.2 (dF ρ fun _=>true) X w vals (Ci h1) (lD _ _ _ hy (lN h1 _ _ h2))) ?_
 rintro e w' ⟨val,r,h',ρ',q1,⟨⟨rfl,rfl⟩,_⟩,q3,q4,q5,_⟩
 refine ⟨val,r,_,ρ',q1,⟨⟨rfl,rfl⟩,by simp⟩,sT.trans q3,⟨q4.inj,fun k _=>q4.out k (yas _),fun k b hb=>?_,q4.disj,q4.lt,q4.xlt⟩,q5,fun k hk hkm=>absurd (List.mem_range.2 hk) hkm⟩
 rw [yaJ] at hb
 split at hb
 ·cases hb
  exact q4.out k (yas _)
 ·cases hb
theorem i7:∀ (zas:List V) (n i:Nat),get (aL n zas) (n+i)=if h:i<zas.length then zas[i] else .any
 | [],n,i=>by simp [aL,get]
 | x::r,n,0=>by simp [aL,get]
 | x::r,n,i+1=>by
  have:=i7 r (n+1) i
  simp only [aL,get]
  rw [if_neg (by omega),show n+(i+1)=n+1+i by omega,this]
  simp
theorem y4:∀ {ρ:Nat→Loc} {X:Nat→Prop} {w:World} {zas:List V} {vals:List Value},zas.length=vals.length→(∀ i (h:i<zas.length) (h2:i<vals.length),aK ρ X w zas[i] vals[i])→a7 ρ X w zas vals
 | _,_,_,[],[],_,_=>trivial
 | _,_,_,x::r,v::vs,hl,h=>⟨h 0 (by simp) (by simp),y4 (by simpa using hl) fun i h1 h2=>h (i+1) (by simpa using h1) (by simpa using h2)⟩
 | _,_,_,[],_::_,hl,_=>by simp at hl
 | _,_,_,_::_,[],hl,_=>by simp at hl
theorem mW {P:Program} {f:FuncId} {zas as':List V} {fx:List Nat} {k:Nat} {Y:Yt} {h h':List Blk} {K:List Blk→Prop} (hlen:as'.length=zas.length) (hg:leG fx ⟨aL 0 zas,h,0⟩ ⟨aL 0 as',h',0⟩) (hi:I0 P f as' fx k Y h' K):I0 P f zas fx k Y h K:=by
 refine ⟨hi.1,?_⟩
 intro ρ X w vals hr hv hkp hY
 have hvl:=b7 hv
 have hgd:Good ρ X w fx vals.length ⟨aL 0 zas,h,0⟩ { tmps:=vals.toArray,defers:=[] } w:=by
  refine ⟨ρ,⟨⟨Fr.refl _ _,fun _ _=>rfl⟩,hkp⟩,⟨hr,?_⟩,by simp,Marks.nil⟩
  have:=fW hv 0
  simpa using this
 obtain ⟨ρ2,⟨⟨p1,p2⟩,p3⟩,⟨p4,p5⟩,_⟩:=hgd.leG hg
 have hv':a7 ρ2 X w as' vals:=by
  refine y4 (by omega) fun i h1 h2=>?_
  have:=p5 i
  have hget:=i7 as' 0 i
  rw [yan,dif_pos h1] at hget
  rw [hget] at this
  simpa [h2] using this
 have:=hi.2 ρ2 X w vals p4 hv' p3 (by
  intro ρ1 w1 s tmps xs vs Z ⟨hf,hfx⟩ g1 g2 g3 g4 g5
  exact hY ρ1 w1 s tmps xs vs Z ⟨p1.trans hf,fun j hj=>(hfx j hj).trans (p2 j hj)⟩ g1 g2 g3 g4 g5)
 refine this.mono ?_
 rintro e w' ⟨val,h1,ρ',rfl,hK,⟨hf,hr'⟩,hfx,hkp'⟩
 exact ⟨val,h1,ρ',rfl,hK,⟨p1.trans hf,hr'⟩,fun j hj=>(hfx j hj).trans (p2 j hj),hkp'⟩
end Go.Fx
namespace Go.Fx
open Go.RowKit
end Go.Fx
namespace Go.Fx
open Go.RowKit
def FnD (P:Program) (f:FuncId) (args:List V) (h0:List Blk) (mv:List Nat) (R:V→List Blk→Prop):Prop :=
 ∀ (ρ:Nat→Loc) (X:Nat→Prop) (w:World) (vals:List Value),Rep ρ X w h0→a7 ρ X w args vals →
  CallsDIn Fence.wide 0 P f vals.toArray .returning w fun e u w'=>u=.returning∧∃ val r h' ρ',e=.returned val∧(R r h'∧h0.length≤h'.length)∧Fr ρ w ρ' w'∧Rep ρ' X w' h'∧aK ρ' X w' r val ∧
   ∀ k,k<h0.length→k∉mv→ρ' k=ρ k
section
variable {ρ:Nat→Loc} {X:Nat→Prop} {w:World} {P:Program}
theorem Du {cx:Cx} (hcx:∀ f zas h0 mv R,cx.C f zas h0 mv R→c9 P f∧FnD P f zas h0 mv R) {f:FuncId} {args:List V} {vals:List Value} {s:St} {t:Array Value} {K:V→St→Prop} (hr:Rep ρ X w s.h) (he:cD ρ X w s.e t) (hfx:aC cx.fx s.h)
  (ha:a7 ρ X w args vals) (h:eG cx f args s K):c9 P f∧CallsDIn Fence.wide 0 P f vals.toArray .returning w fun e u w'=>u=.returning∧∃ val,e=.returned val∧j9 cx.fx cx.bn ρ X w t K val w':=by
 obtain ⟨ι,zas,mv,R,⟨⟨hn,hlt0⟩,hmv⟩,hok,hwk,hC,hK⟩:=h
 have hlt:∀ k∈ι,k<s.h.length:=fun k hk=>(hlt0 k hk).1
 obtain ⟨hcall,hFn⟩:=hcx _ _ _ _ _ hC
 refine ⟨hcall,?_⟩
 have hargs:=lD _ _ _ hwk (gZ hr (ι:=ι) _ _ hok ha)
 refine (hFn _ _ w vals (vP hr hn hlt) hargs).mono ?_
 rintro e u w' ⟨rfl,val,r,h',ρc,rfl,⟨hR,hl⟩,hf,hrep,hval,hstay⟩
 have hl':ι.length≤h'.length:=by simpa using hl
 obtain ⟨hkeep,hK'⟩:=hK r h' hR hl'
 have hat:∀ j k,ι[j]?=some k→j∉mv→ρc j=ρ k:=fun j k hj hm=>by
  rw [hstay j (by simpa using (yae.1 hj).1) hm,eZ hj]
 have hag:∀ k,k∉mv.filterMap (ι[·]?)→(ρ k).real=true→a6 ρ ρc ι s.h.length k=ρ k:=by
  intro k hk hreal
  cases hp:pos ι k with
  | some j =>
   simp only [a6,hp]
   exact hat j k (cA hp) (fun hm=>hk (List.mem_filterMap.2 ⟨j,hm,cA hp⟩))
  | none =>
   simp only [a6,hp]
   by_cases hk':k<s.h.length
   ·rw [if_pos hk']
   ·rw [hr.out k (by omega)] at hreal
    cases hreal
 have hfr:=vX hr hf
 refine ⟨rfl,val,rfl,_,_,a6 ρ ρc ι s.h.length,hK',⟨hkeep,fun k hk=>?_,fun k hk hreal=>?_⟩,hfr,yM hr hn hlt hl' hf hrep hag,nI hfr _ hag he,mZ (nH hr) (fun a c hb _=>j5 hn hlt hb) _ _ hval⟩
 cases hp:pos ι k with
 | some j =>
  simp only [a6,hp]
  exact hat j k (cA hp) (fun hm=>hmv j hm k (cA hp) hk)
 | none =>
  simp only [a6,hp]
  have:=aN hfx k hk
  have hkl:k<s.h.length:=by
   unfold aB at this
   split at this
   ·exact this.elim
   ·rename_i hb
    exact (yae.1 hb).1
   ·exact this.elim
  rw [if_pos hkl]
 ·have hnot:k∉ι:=fun hi=>(hlt0 k hi).2 hk
  refine ⟨hag k (fun hm=>?_) hreal,(hf.keep _ (hr.lt k hreal) (cQ hr hnot hreal)).1⟩
  obtain ⟨j,_,hj⟩:=List.mem_filterMap.1 hm
  exact hnot (yar hj)
end
inductive LDf where
 | seq (l:LCode) (d:LDf)
 | dfr (n:Nat) (ls:List aR) (g:FuncId) (xs:List Operand) (l:LCode)
def Oi (o:Oper):Option (FuncId × List Operand) :=
 match o.op,o.guard with
 | .defer c,none=>match c.callee with
  | .value (.func g)=>some (g,c.args.toList)
  | _=>none
 | _,_=>none
def y3 (P:Program) (N:Nat):Code→LDf→Option LDf
 | .seq a b,.seq x d=>match rlC P N a x,y3 P N b d with
  | some x',some d'=>some (.seq x' d')
  | _,_=>none
 | .seq (.region _ ops draw) b,.dfr n ls _ _ y=>match draw,ops.toList.getLast?,d4 P ops N ops.toList.dropLast ls,rlC P N b y with
  | false,some od,some ls',some y'=>match Oi od,od.dst with
   | some (g,xs),none=>some (.dfr n ls' g xs y')
   | _,_=>none
  | _,_,_,_=>none
 | _,_=>none
def Oz (cx:Cx) (C:Ctr) (E:St→Prop):LDf→St→Prop
 | .seq l d,s=>aw cx l (Oz cx C E d) (fun _ _=>False) E s
 | .dfr n ls g xs l,s=>d6 cx ls { s with b:=s.h.length,h:=s.h++yab n .dead } fun s1=>∃ (ks:List Nat) (ps:List V),(ps=ks.map (fun k=>V.ptr k 0 0)∧xs.map (ev s1.e)=ps)∧aC (ks++cx.fx) s1.h ∧
   aw { cx with fx:=ks++cx.fx } l (fun s'=>eG { cx with C:=C } g ps s' fun _ s''=>E s'') (fun _ _=>False) (fun s'=>eG { cx with C:=C } g ps s' fun _ s''=>E s'') s1
section
variable {P:Program} {X:Nat→Prop} {N:Nat}
theorem sF [DBase] {ρ0:Nat→Loc} {w0:World} {fx:List Nat} {cx:Cx} (hcx:cx.ok P) (hfxe:cx.fx=fx) {ops:Array Oper} {Q:Exit→Act→World→Prop} {K:St→Prop} {tl:List Oper} (hQ:∀ s a w,K s→Good ρ0 X w0 fx N s a w→wpList P ops Q tl a w) :
  ∀ (os:List Oper) (ls0 ls:List aR) (s:St) (a:Act) (w:World),d4 P ops N os ls0=some ls→Good ρ0 X w0 fx N s a w→d6 cx ls s K→wpList P ops Q (os++tl) a w
 | os,ls0,[],s,a,w,hm,hg,h=>by
  have:=jP hm
  subst this
  exact hQ s a w h hg
 | [],ls0,l::ls,s,a,w,hm,hg,h=>by
  cases ls0<;>simp [d4] at hm
 | o::os,ls0,l::ls,s,a,w,hm,hg,h=>by
  obtain ⟨l0,r0,op,g,rfl,h1,h2,hd,rfl,h4⟩:=gX hm
  obtain ⟨ρ,hpre,⟨hr,he⟩,hN,hdf⟩:=hg
  simp only [d6] at h
  rw [yaB]
  unfold wpList
  rcases eD hN h2 he h with ⟨hw,e',_,he',h'⟩|⟨hw,e',_,he',h'⟩
  ·rw [if_pos hw]
   left
   refine Oper.wp_mono ?_ (j7 hcx h1 (s:={ s with e:=e' }) hr he' (by rw [hfxe];exact hpre.2) h')
   rintro a' w' ⟨val,rfl,hs⟩
   rw [hfxe] at hs
   obtain ⟨x,s',hK,hgood⟩:=Good.sound (s:=s) hpre ⟨hN,hdf⟩ hd hs
   exact sF hcx hfxe hQ os r0 ls _ _ _ h4 hgood hK
  ·rw [if_neg (by rw [hw];exact yaA)]
   have hh:(St.put { s with e:=e' } o.dst (.v (.tuple #[]))).h=s.h:=by cases o.dst<;>rfl
   refine sF hcx hfxe hQ os r0 ls _ _ _ h4 ⟨ρ,⟨hpre.1,by rw [hh];exact hpre.2⟩,⟨by rw [hh];exact hr,?_⟩,by rw [size_put];exact hN,by cases o.dst<;>exact hdf⟩ h'
   exact dQ (e:=e') (x:=.v (.tuple #[])) (val:=undef) he' rfl (fun n hn=>by rw [hN];exact hd n hn) _ rfl
theorem Cn {ρ ρ':Nat→Loc} {w w':World}:∀ (ks:List Nat) (vals:List Value),(∀ k∈ks,ρ' k=ρ k)→a7 ρ X w (ks.map fun k=>V.ptr k 0 0) vals→a7 ρ' X w' (ks.map fun k=>V.ptr k 0 0) vals
 | [],[],_,_=>trivial
 | k::ks,v::vals,hk,h=>⟨by
   have:=h.1
   simp only [aK] at this ⊢
   rw [hk k (by simp)]
   exact this,Cn ks vals (fun j hj=>hk j (yaf _ hj)) h.2⟩
 | [],_::_,_,h=>h.elim
 | _::_,[],_,h=>h.elim
theorem Js {o:Oper} {g:FuncId} {xs:List Operand} (h:Oi o=some (g,xs)):∃ c,o.op=.defer c∧o.guard=none∧c.callee=.value (.func g)∧c.args.toList=xs:=by
 unfold Oi at h
 split at h
 ·rename_i c h1 h2
  split at h
  ·rename_i g' h3
   simp only [yaa,yaq] at h
   obtain ⟨rfl,rfl⟩:=h
   exact ⟨c,h1,h2,h3,rfl⟩
  ·cases h
 ·cases h
theorem Gc [B0:DBase] (hP:P.follows .mixedOrders=true) {fn:Func} {R:Ending→World→Prop} (hRo:∀ w,¬R .outgrown w) {cx:Cx} (hcx:cx.ok P) {C:Ctr} (hC:∀ f zas h0 mv R,C f zas h0 mv R→c9 P f∧FnD P f zas h0 mv R) (hbn:cx.bn=[]) (hy:cx.y=fun _ _ _ _=>False) (hrk:cx.rk=none) {E:St→Prop} {ρ0:Nat→Loc} {w0:World}
  (hE:∀ s a w,E s→Good ρ0 X w0 cx.fx N s a w→LeavesInM Fence.wide 0 P fn a.tmps R a.defers .returning w) {c2:Code} {y y':LCode} (hy':rlC P N c2 y=some y') {ks:List Nat} {ps:List V} {g:FuncId} {s1:St} {a1:Act} {w1:World} {ρ:Nat→Loc} {vals:List Value} (hpk:ps=ks.map fun k=>V.ptr k 0 0)
  (hkp:aC (ks++cx.fx) s1.h) (hrun:aw { cx with fx:=ks++cx.fx } y' (fun s'=>eG { cx with C:=C } g ps s' fun _ s''=>E s'') (fun _ _=>False) (fun s'=>eG { cx with C:=C } g ps s' fun _ s''=>E s'') s1)
  (hf:Fr ρ0 w0 ρ w1) (hfx:∀ k∈cx.fx,ρ k=ρ0 k) (hkp1:aC cx.fx s1.h) (hr:Rep ρ X w1 s1.h) (he:cD ρ X w1 s1.e a1.tmps) (hN:a1.tmps.size=N) (hM:Marks ρ w0 w1 a1.defers) (hvals:a7 ρ X w1 (ks.map fun k=>V.ptr k 0 0) vals) :
  c2.wpIn (FR none) 0 P (bodyPostM Fence.wide 0 P fn R) { a1 with defers:={ target:=.fn (.func g) #[],args:=vals.toArray }::a1.defers } w1:=by
 have hno:¬LetsOut (bodyPostM Fence.wide 0 P fn R):=fun ⟨_,w',hq⟩=>hRo w' hq
 let B:DBase:=⟨{ target:=.fn (.func g) #[],args:=vals.toArray }::a1.defers⟩
 have hgd:@Good ρ X w1 (ks++cx.fx) N B s1 { a1 with defers:={ target:=.fn (.func g) #[],args:=vals.toArray }::a1.defers } w1 :=
  ⟨ρ,⟨⟨Fr.refl _ _,fun _ _=>rfl⟩,hkp⟩,⟨hr,he⟩,hN,@Marks.nil B _ _ _⟩
 have hend:∀ s' a' w',eG { cx with C:=C } g ps s' (fun _ s''=>E s'')→@Good ρ X w1 (ks++cx.fx) N B s' a' w'→LeavesInM Fence.wide 0 P fn a'.tmps R a'.defers .returning w':=by
  intro s' a' w' hcp hg'
  obtain ⟨n,hn⟩:=@Good.marked X B _ _ _ _ _ _ _ hg'
  refine @mL X B _ _ _ _ P fn R s' (fun a2 w2 hg2 hb=>?_) n a' w' hn hg'
  rw [hb]
  obtain ⟨ρ2,⟨⟨hf2,hfx2⟩,hkp2⟩,⟨hr2,he2⟩,hN2,_⟩:=hg2
  have hkp3:aC cx.fx s'.h:=c8 fun k hk=>aN hkp2 k (yax _ hk)
  have hv2:a7 ρ2 X w2 ps vals:=by
   rw [hpk]
   exact Cn ks vals (fun k hk=>hfx2 k (yaG _ hk)) hvals
  obtain ⟨hcall,hcd⟩:=Du (cx:={ cx with C:=C }) hC hr2 he2 hkp3 hv2 hcp
  refine ⟨by simp,.inr ⟨fun h=>(by cases h),.func g,#[],g,vals.toArray,rfl,?_,fun _ _=>trivial,?_⟩⟩
  ·simp [invoke,gU hcall]
  ·refine hcd.mono ?_
   rintro e u w3 ⟨rfl,val,rfl,x,s'',ρ3,hK,⟨hkp4,hfx3,_⟩,hf3,hr3,he3,hv3⟩
   show LeavesInM Fence.wide 0 P fn a2.tmps R a1.defers (settle .returning) w3
   have:=hE s'' { a2 with defers:=a1.defers } w3 hK ⟨ρ3,⟨⟨hf.trans (hf2.trans hf3),fun k hk=>(hfx3 k hk).trans ((hfx2 k (yax _ hk)).trans (hfx k hk))⟩,hkp4⟩,⟨hr3,he3⟩,hN2,@Marks.fr B0 _ _ _ _ _ _ hf3 (@Marks.fr B0 _ _ _ _ _ _ hf2 hM)⟩
   exact this
 exact @mS P X N hP c2 y y' hy' B none { cx with fx:=ks++cx.fx } ρ w1 ⟨hcx.1,hcx.2⟩ (.inl rfl) (by unfold ROk;simp only [hrk]) (fun k=>by simp only [hy];exact j8) _ _ (fun _ _=>False) _ hno
  (fun s' a' w' h1 h2=>hend s' a' w' h1 h2) (fun _ _ _ _ hx _=>hx.elim) (fun s' a' w' h1 h2=>hend s' a' w' h1 h2) s1 _ w1 hrun hgd
theorem Ge (hP:P.follows .mixedOrders=true) {fn:Func} {R:Ending→World→Prop} (hRo:∀ w,¬R .outgrown w) {cx:Cx} (hcx:cx.ok P) {C:Ctr} (hC:∀ f zas h0 mv R,C f zas h0 mv R→c9 P f∧FnD P f zas h0 mv R) (hbn:cx.bn=[]) (hy:cx.y=fun _ _ _ _=>False) (hrk:cx.rk=none) {E:St→Prop} {ρ0:Nat→Loc} {w0:World}
  (hE:∀ s a w,E s→Good ρ0 X w0 cx.fx N s a w→LeavesInM Fence.wide 0 P fn a.tmps R a.defers .returning w) :
  ∀ (d0:LDf) (c:Code) (d:LDf),y3 P N c d0=some d→∀ s a w,Oz cx C E d s→Good ρ0 X w0 cx.fx N s a w→c.wpIn (FR none) 0 P (bodyPostM Fence.wide 0 P fn R) a w:=by
 have hno:¬LetsOut (bodyPostM Fence.wide 0 P fn R):=fun ⟨_,w',hq⟩=>hRo w' hq
 intro d0
 induction d0 with
 | seq x d0 ih =>
  intro c d hm s a w h hg
  cases c with
  | seq c1 c2 =>
   simp only [y3] at hm
   split at hm
   ·rename_i x' d' hx hd
    simp only [yaa] at hm
    subst hm
    refine wpIn_seq (mS (P:=P) (X:=X) (N:=N) hP c1 _ _ hx none cx ρ0 w0 hcx (.inl rfl) (by unfold ROk;rw [hrk];trivial) (fun k=>by rw [hy];exact j8) _ (Oz cx C E d') (fun _ _=>False) E (fL hno) ?_ (fun _ _ _ _ hx _=>hx.elim) ?_ s a w h hg)
    ·intro s' a' w' h' hg'
     exact ih _ _ hd s' a' w' h' hg'
    ·intro s' a' w' h' hg'
     exact hE s' a' w' h' hg'
   ·cases hm
  | _=>simp [y3] at hm
 | dfr n ls g xs y =>
  intro c d hm s a w h hg
  cases c with
  | seq c1 c2 =>
   cases c1 with
   | region id ops draw =>
    simp only [y3] at hm
    split at hm
    ·rename_i od ls' y' hl hls hy'
     split at hm
     ·rename_i g' xs' hod hdst
      simp only [yaa] at hm
      subst hm
      have hops:ops.toList=ops.toList.dropLast++[od]:=by
       obtain ⟨h1,h2⟩:=List.getLast?_eq_some_iff.1 hl
       rw [h2];simp
      refine wpIn_seq (wpIn_region_list (u7 (fL hno) _ (.inl rfl) _ _ ?_))
      rw [hops]
      refine sF (cx:=cx) (N:=N) hcx rfl ?_ _ _ _ _ a w hls (hg.reserve _ _) h
      intro s1 a1 w1 h1 hg1
      obtain ⟨ks,ps,⟨hpk,hps⟩,hkp,hrun⟩:=h1
      obtain ⟨ρ,⟨⟨hf,hfx⟩,hkp1⟩,⟨hr,he⟩,hN,hM⟩:=hg1
      obtain ⟨c,hop,hgd,hcal,hargs⟩:=Js hod
      have hw:Region.wanted od (yielded ops a1.tmps)=true:=by simp [Region.wanted,hgd]
      have hvals:=iH he xs'
      rw [hps,hpk] at hvals
      unfold wpList
      rw [if_pos hw]
      left
      unfold Oper.wp execOp
      have ha:(c.args.map a1.eval)=(xs'.map a1.eval).toArray:=by apply Array.ext';simp [hargs]
      simp only [hop,resolve,hcal,ha,Act.eval,Deferred.ofValue,Sem.run_bind,Sem.run_pure,Result.andThen_ok,Array.empty_append,Oper.upon_defer,hdst,Act.put]
      unfold wpList
      simp only [Exit.then]
      refine Gc hP hRo hcx hC hbn hy hrk hE hy' (hpk:=hpk) hkp hrun hf hfx hkp1 hr he hN hM hvals
     ·cases hm
    ·cases hm
   | _=>simp [y3] at hm
  | _=>simp [y3] at hm
end
def Va (P:Program) (f:FuncId) (d0:LDf):Option (LDf × List eT × Nat) :=
 match P.funcs[f]? with
 | some fn=>match fn.body,nP P fn.results.toList,decide (fn.results.toList.length≤4)&&!(fn.name == "runtime.NumGoroutine") with
  | some c,some rs,true=>(y3 P fn.ntmps c d0).map fun l=>(l,rs,fn.ntmps)
  | _,_,_=>none
 | none=>none
def CD0 (P:Program):Ctr:=fun f xs h0 mv R=>c9 P f∧FnD P f xs h0 mv R
theorem Qt {P:Program} (hP:P.follows .mixedOrders=true) {f:FuncId} {d0 d:LDf} {rs:List eT} {nt:Nat} (fx:List Nat) (hl:Va P f d0=some (d,rs,nt)) {args:List V} {h0:List Blk} {mv:List Nat} {R:V→List Blk→Prop} (hlen:args.length≤nt) (hb:aC fx h0)
  (hfx:∀ k,k<h0.length→k∉mv→k∈fx) (h:Oz (cxN P fx) (CD0 P) (eJ fx h0.length rs R) d ⟨aL 0 args,h0,0⟩):OkN P f args h0 mv R:=by
 unfold Va at hl
 split at hl
 ·rename_i fn hf
  split at hl
  ·rename_i c rs' hb' hr ht
   simp only [yac,yao,decide_eq_true_eq] at ht
   cases hm:y3 P fn.ntmps c d0 with
   | none=>simp [hm] at hl
   | some l1 =>
    simp only [hm,yap,yaa,yaq] at hl
    obtain ⟨rfl,rfl,rfl⟩:=hl
    refine ⟨⟨fn,hf,ht.2,by simp [hb']⟩,?_⟩
    intro ρ X w vals hr0 ha
    have hvl:=b7 ha
    refine (callsIn_wide (n:=0)).1 (callsIn_of_wp_marks hf hb' trivial ?_)
    have hgd:Good ρ X w fx fn.ntmps ⟨aL 0 args,h0,0⟩ { tmps:=vals.toArray++yah (fn.ntmps-vals.toArray.size) undef,defers:=[] } w :=
     ⟨ρ,⟨⟨Fr.refl _ _,fun _ _=>rfl⟩,hb⟩,⟨hr0,fW ha _⟩,by simp;omega,Marks.nil⟩
    have hend:∀ s,eJ fx h0.length rs' R s→∀ a w',Good ρ X w fx fn.ntmps s a w'→∃ v,(results fn a.tmps).run P w'=.ok v w'∧∃ val r h' ρ',Ending.returned v=.returned val∧(R r h'∧h0.length≤h'.length)∧Fr ρ w ρ' w'∧Rep ρ' X w' h'∧aK ρ' X w' r val ∧
      ∀ k,k<h0.length→k∉mv→ρ' k=ρ k:=by
     intro s hret a w' hgood
     obtain ⟨ρ',⟨⟨hf1,hfx1⟩,hk1⟩,⟨hr1,he1⟩,hN1,hd1⟩:=hgood
     obtain ⟨xs,vs,h5,h6,h7⟩:=jQ hr1 he1 fn.results.toList rs' [] [] hr trivial hret
     obtain ⟨p,⟨h8,h9,h10,h11,h12⟩,h13⟩:=h5
     refine ⟨s9 vs,gH ht.1 h7,_,_,p,cO ρ' p,rfl,⟨h13,h10⟩,hf1.trans gE,lO hr1 h8 h12,?_,fun k hk hkm=>?_⟩
     ·exact eE _ _ h11 (tJ (by simpa using h6))
     ·have hkf:=hfx k hk hkm
      rw [bZ (aN h9 k hkf)]
      exact hfx1 k hkf
    refine Ge (P:=P) (X:=X) (N:=fn.ntmps) hP ?_ (Aw P fx) (fun _ _ _ _ _ h=>h) rfl rfl rfl ?_ d0 c l1 hm _ _ _ h hgd
    ·rintro w' ⟨val,_,_,_,hq,_⟩
     cases hq
    ·intro s a w' hret hgood
     exact fS (hend s hret) a.defers a w' rfl hgood
  ·cases hl
 ·cases hl
section
variable {P:Program} {X:Nat→Prop} {N:Nat}
theorem oP [DBase] {ρ0:Nat→Loc} {w0:World} {fx:List Nat} {cx:Cx} (hcx:cx.ok P) (hfxe:cx.fx=fx) {D:List Deferred} {ops:Array Oper} {Q:Exit→Act→World→Prop} {K:St→Prop} (hQ:∀ s a w,K s→Good ρ0 X w0 fx N s a w→a.defers=D→Q .normal a w) :
  ∀ (os:List Oper) (ls0 ls:List aR) (s:St) (a:Act) (w:World),d4 P ops N os ls0=some ls→Good ρ0 X w0 fx N s a w→a.defers=D→d6 cx ls s K→wpList P ops Q os a w
 | os,ls0,[],s,a,w,hm,hg,hD,h=>by
  have:=jP hm
  subst this
  exact hQ s a w h hg hD
 | [],ls0,l::ls,s,a,w,hm,hg,hD,h=>by
  cases ls0<;>simp [d4] at hm
 | o::os,ls0,l::ls,s,a,w,hm,hg,hD,h=>by
  obtain ⟨l0,r0,op,g,rfl,h1,h2,hd,rfl,h4⟩:=gX hm
  obtain ⟨ρ,hpre,⟨hr,he⟩,hN,hdf⟩:=hg
  simp only [d6] at h
  unfold wpList
  rcases eD hN h2 he h with ⟨hw,e',_,he',h'⟩|⟨hw,e',_,he',h'⟩
  ·rw [if_pos hw]
   left
   refine Oper.wp_mono ?_ (j7 hcx h1 (s:={ s with e:=e' }) hr he' (by rw [hfxe];exact hpre.2) h')
   rintro a' w' ⟨val,rfl,hs⟩
   rw [hfxe] at hs
   obtain ⟨x,s',hK,hgood⟩:=Good.sound (s:=s) hpre ⟨hN,hdf⟩ hd hs
   exact oP hcx hfxe hQ os r0 ls _ _ _ h4 hgood (by rw [iM];exact hD) hK
  ·rw [if_neg (by rw [hw];exact yaA)]
   have hh:(St.put { s with e:=e' } o.dst (.v (.tuple #[]))).h=s.h:=by cases o.dst<;>rfl
   refine oP hcx hfxe hQ os r0 ls _ _ _ h4 ⟨ρ,⟨hpre.1,by rw [hh];exact hpre.2⟩,⟨by rw [hh];exact hr,?_⟩,by rw [size_put];exact hN,by cases o.dst<;>exact hdf⟩ (by rw [iM];exact hD) h'
   exact dQ (e:=e') (x:=.v (.tuple #[])) (val:=undef) he' rfl (fun n hn=>by rw [hN];exact hd n hn) _ rfl
end
def Uz (P:Program) (f:FuncId) (l0:List aR):Option (List aR × List eT × Nat) :=
 match P.funcs[f]? with
 | some fn=>match fn.body,nP P fn.results.toList,decide (fn.results.toList.length≤4)&&!(fn.name == "runtime.NumGoroutine") with
  | some (.region _ ops false),some rs,true=>(d4 P ops fn.ntmps ops.toList l0).map fun l=>(l,rs,fn.ntmps)
  | _,_,_=>none
 | none=>none
theorem Wv {P:Program} {f:FuncId} {l0 l:List aR} {rs:List eT} {nt:Nat} (fx:List Nat) (hl:Uz P f l0=some (l,rs,nt)) {args:List V} {h0:List Blk} {mv:List Nat} {R:V→List Blk→Prop} (hlen:args.length≤nt) (hb:aC fx h0)
  (hfx:∀ k,k<h0.length→k∉mv→k∈fx) (h:d6 (cxN P fx) l ⟨aL 0 args,h0,0⟩ (eJ fx h0.length rs R)):CD0 P f args h0 mv R:=by
 unfold Uz at hl
 split at hl
 ·rename_i fn hf
  split at hl
  ·rename_i id ops rs' hb' hr ht
   simp only [yac,yao,decide_eq_true_eq] at ht
   cases hm:d4 P ops fn.ntmps ops.toList l0 with
   | none=>simp [hm] at hl
   | some l1 =>
    simp only [hm,yap,yaa,yaq] at hl
    obtain ⟨rfl,rfl,rfl⟩:=hl
    refine ⟨⟨fn,hf,ht.2,by simp [hb']⟩,?_⟩
    intro ρ X w vals hr0 ha
    have hvl:=b7 ha
    refine (callsDIn_of_wp (R:=fun e w'=>∃ val r h' ρ',e=.returned val∧(R r h'∧h0.length≤h'.length)∧Fr ρ w ρ' w'∧Rep ρ' X w' h'∧aK ρ' X w' r val∧∀ k,k<h0.length→k∉mv→ρ' k=ρ k) hf hb' trivial ?_).mono ?_
    ·have hgd:Good ρ X w fx fn.ntmps ⟨aL 0 args,h0,0⟩ { tmps:=vals.toArray++yah (fn.ntmps-vals.toArray.size) undef,defers:=[] } w :=
      ⟨ρ,⟨⟨Fr.refl _ _,fun _ _=>rfl⟩,hb⟩,⟨hr0,fW ha _⟩,by simp;omega,Marks.nil⟩
     have hno:¬LetsOut (bodyPost P fn fun e w'=>∃ val r h' ρ',e=.returned val∧(R r h'∧h0.length≤h'.length)∧Fr ρ w ρ' w'∧Rep ρ' X w' h'∧aK ρ' X w' r val∧∀ k,k<h0.length→k∉mv→ρ' k=ρ k):=by
      rintro ⟨a,w',val,_,_,_,hq,_⟩
      cases hq
     refine wpIn_region_list (u7 (r:=none) hno _ (.inl rfl) _ _ ?_)
     refine oP (P:=P) (X:=X) (N:=fn.ntmps) (Aw P fx) rfl (D:=[]) ?_ _ _ _ _ _ _ hm hgd rfl h
     intro s a w' hret hgood hdf
     obtain ⟨ρ',⟨⟨hf1,hfx1⟩,hk1⟩,⟨hr1,he1⟩,hN1,hd1⟩:=hgood
     obtain ⟨xs,vs,h5,h6,h7⟩:=jQ hr1 he1 fn.results.toList rs' [] [] hr trivial hret
     obtain ⟨p,⟨h8,h9,h10,h11,h12⟩,h13⟩:=h5
     refine ⟨hdf,s9 vs,gH ht.1 h7,_,_,p,cO ρ' p,rfl,⟨h13,h10⟩,hf1.trans gE,lO hr1 h8 h12,?_,fun k hk hkm=>?_⟩
     ·exact eE _ _ h11 (tJ (by simpa using h6))
     ·have hkf:=hfx k hk hkm
      rw [bZ (aN h9 k hkf)]
      exact hfx1 k hkf
    ·rintro e u w' ⟨rfl,hR⟩
     exact ⟨rfl,hR⟩
  ·cases hl
 ·cases hl
end Go.Fx
namespace Go.Fx
open Go
open And renaming intro → aI
set_option linter.defProp false
def rX:=aI (aI (aI (aI (aI (aI (aI (@Bool.and_self) (aI (@Bool.and_true) (@Bool.false_eq_true))) (aI (@Bool.not_false) (aI (@yaF) (@List.all_cons.{0})))) (aI (aI (@List.all_nil.{0}) (aI (@yaH.{0}) (@yaB.{0}))) (aI (@List.drop_nil.{0}) (aI (@List.drop_zero.{0}) (@yaL.{0}))))) (aI (aI (aI (@yaj.{0}) (aI (@List.length_append.{0}) (@List.length_cons.{0}))) (aI (@List.length_map.{0,0}) (aI (@List.length_nil.{0}) (@List.map_cons.{0,0})))) (aI (aI (@List.map_nil.{0,0}) (aI (@yal.{0}) (@List.nil_append.{0}))) (aI (@List.not_mem_nil.{0}) (aI (@List.reverse_cons.{0}) (@List.reverse_nil.{0})))))) (aI (aI (aI (aI (@List.set_cons_zero.{0}) (aI (@List.take_nil.{0}) (@List.take_zero.{0}))) (aI (@Nat.add_zero) (aI (@yad) (@yan)))) (aI (aI (@Option.getD_none.{0}) (aI (@Option.getD_some.{0}) (@Option.map_none.{0,0}))) (aI (@yap.{0,0}) (aI (@V.v.injEq) (@Value.bool.injEq))))) (aI (aI (aI (@Value.int.injEq) (aI (@qQ) (@qR))) (aI (@qS) (aI (@and_self) (@and_true)))) (aI (aI (@qE) (aI (@qF) (@qA))) (aI (@qB) (aI (@qC) (@qD))))))) (aI (aI (aI (aI (aI (@qM) (aI (@qL) (@qO))) (aI (@qN) (aI (@qJ) (@qH)))) (aI (aI (@qP) (aI (@qK) (@qG))) (aI (@qI) (aI (@qz) (@zY))))) (aI (aI (aI (@ka) (aI (@kc) (@zV))) (aI (@zW) (aI (@zU) (@false_or)))) (aI (aI (@zX) (aI (@kg) (@kh))) (aI (@zZ) (aI (@kn) (@kv)))))) (aI (aI (aI (aI (@kz) (aI (@kF) (@kJ))) (aI (@kN) (aI (@kR) (@kV)))) (aI (aI (@kj) (aI (@lg0) (@lg1))) (aI (@wd) (aI (@lg2) (@lg3))))) (aI (aI (aI (@lg4) (aI (@lg5) (@lg6))) (aI (@lg7) (aI (@lg8) (@lg9)))) (aI (aI (@kq) (aI (@kx) (@wg))) (aI (aI (@wh) (@wi)) (aI (@wj) (@wl)))))))) (aI (aI (aI (aI (aI (aI (@wm) (aI (@kC) (@kH))) (aI (@kL) (aI (@kP) (@kT)))) (aI (aI (@kY) (aI (@wa) (@wc))) (aI (@wo) (aI (@kk) (@kr))))) (aI (aI (aI (@we) (aI (@ky) (@kD))) (aI (@kI) (aI (@kM) (@kQ)))) (aI (aI (@kU) (aI (@kZ) (@wb))) (aI (@ko) (aI (@kw) (@kB)))))) (aI (aI (aI (aI (@kG) (aI (@kK) (@kO))) (aI (@kS) (aI (@kX) (@not_false_eq_true)))) (aI (aI (@zB) (aI (@zA) (@qW))) (aI (@zq) (aI (@zL) (@zI))))) (aI (aI (aI (@zb) (aI (@qV) (@zk))) (aI (@zN) (aI (@zR) (@zg)))) (aI (aI (@zH) (aI (@zK) (@zm))) (aI (aI (@zo) (@zO)) (aI (@qZ) (@zi))))))) (aI (aI (aI (aI (aI (@zF) (aI (@zJ) (@za))) (aI (@zc) (aI (@zd) (@zp)))) (aI (aI (@qX) (aI (@zh) (@zt))) (aI (@qT) (aI (@zf) (@zQ))))) (aI (aI (aI (@ze) (aI (@qU) (@zv))) (aI (@zw) (aI (@zx) (@zy)))) (aI (aI (@zG) (aI (@zE) (@zn))) (aI (@zj) (aI (@zC) (@qY)))))) (aI (aI (aI (aI (@or_false) (aI (@zT) (@zS))) (aI (@qr) (aI (@qe) (@ql)))) (aI (aI (@qi) (aI (@qw) (@qx))) (aI (@qc) (aI (@qu) (@qd))))) (aI (aI (aI (@qf) (aI (@qy) (@qa))) (aI (@qh) (aI (@qb) (@qn)))) (aI (aI (@qp) (aI (@qq) (@qv))) (aI (aI (@qm) (@qk)) (aI (@ki) (@true_and))))))))
def rY:=aI (aI (aI (aI (aI (@wR) (aI (@jb) (@jc))) (aI (aI (@jx) (@jv)) (aI (@jC) (@jH)))) (aI (aI (aI (@jG) (@jF)) (aI (@jE) (@jB))) (aI (aI (@jA) (@jD)) (aI (@jJ) (@jI))))) (aI (aI (aI (aI (@jK) (@jz)) (aI (@jy) (@kf))) (aI (aI (@ke) (@wQ)) (aI (@jd) (@jm)))) (aI (aI (aI (@ja) (@wF)) (aI (@wG) (@wJ))) (aI (aI (@wI) (@wH)) (aI (@wM) (@wL)))))) (aI (aI (aI (aI (aI (@wK) (@wN)) (aI (@wx) (@wv))) (aI (aI (@ww) (@wy)) (aI (@wz) (@wt)))) (aI (aI (aI (@wu) (@jp)) (aI (@jo) (@wP))) (aI (aI (@wW) (@wX)) (aI (@wq) (@jj))))) (aI (aI (aI (aI (@jl) (@jg)) (aI (@jf) (@wZ))) (aI (aI (@wY) (@ji)) (aI (@wE) (@wC)))) (aI (aI (aI (@wD) (@wB)) (aI (@jh) (@wO))) (aI (aI (@wT) (@wV)) (aI (@wU) (@wS))))))
def rZ:=aI (aI (aI (@Jx) (aI (@Sc) (@Sa))) (aI (@Ro) (aI (@Rn) (@Tt)))) (aI (aI (@Ts) (aI (@Pw) (@Tq))) (aI (aI (@Tp) (@Pu)) (aI (@Tn) (@Pt))))
def rW:=aI (@Wq) (aI (@Wf) (@Vc))
end Go.Fx
namespace Go.Fx.H
open Go Go.Fx
def nJ:Array Value:=#[.int .u32 0,.int .u32 0,.int .u32 0,.int .u32 0,.int .u32 0,.int .u32 0,.int .u32 0,.int .u32 0,.int .u8 0,.int .u8 0,.int .u8 0,.int .u8 0,.int .u8 0,.int .u8 0,.int .u8 0,.int .u8 0,.int .u8 0,.int .u8 0,.int .u8 0,.int .u8 0,.int .u8 0,.int .u8 0,.int .u8 0,.int .u8 0,.int .u8 0,.int .u8 0,.int .u8 0,.int .u8 0,.int .u8 0,.int .u8 0,.int .u8 0,.int .u8 0,.int .u8 0,.int .u8 0,.int .u8 0,.int .u8 0,.int .u8 0,.int .u8 0,.int .u8 0,.int .u8 0,.int .u8 0,.int .u8 0,.int .u8 0,.int .u8 0,.int .u8 0,.int .u8 0,.int .u8 0,.int .u8 0,.int .u8 0,.int .u8 0,.int .u8 0,.int .u8 0,.int .u8 0,.int .u8 0,.int .u8 0,.int .u8 0,.int .u8 0,.int .u8 0,.int .u8 0,.int .u8 0,.int .u8 0,.int .u8 0,.int .u8 0,.int .u8 0,.int .u8 0,.int .u8 0,.int .u8 0,.int .u8 0,.int .u8 0,.int .u8 0,.int .u8 0,.int .u8 0,.int .u64 0]
end Go.Fx.H
namespace Go.Fx.H
open Go Go.Fx
abbrev MA (n x:Nat):aR:=⟨some n,.mov (.tmp x),none⟩
abbrev LA (n x:Nat):aR:=⟨some n,.load none (.tmp x),none⟩
abbrev FA (n k x:Nat):aR:=⟨some n,.fld k (.tmp x),none⟩
abbrev SA (n k x:Nat):aR:=⟨some n,.load (some k) (.tmp x),none⟩
abbrev XA (n k x y:Nat):aR:=⟨some n,.idx k (.tmp x) (.tmp y),none⟩
abbrev CA (n:Nat) (x:Int):aR:=⟨some n,.mov (.const (.int .i64 x)),none⟩
abbrev WA (k x y:Nat):aR:=⟨none,.store k (.tmp x) (.tmp y),none⟩
abbrev UA (n:Nat) (x:LOp):aR:=⟨some n,x,none⟩
abbrev GA (n:Nat) (x:LOp) (a:Nat) (b:Bool):aR:=⟨some n,x,some (a,b)⟩
open Go.Operand renaming tmp → t, const → k
open Go.Value renaming int → i, bool → y
open Go.IntKind renaming i64 → j
open Option renaming some → s, none → o
open Go.Fx.LOp renaming mov → m, load → l, fld → f, bin → b, idx → x, store → w, pick → p, len → n, box → u
open Go.Fx.LCode renaming seq → q, reg → r, cond → c, block → z
open Go.Fx.LPlan renaming take → v, alt → h
open Bool renaming false → g, true → d
def c69l0:LCode:=q (r 0 [UA 12 (b .lss g (t 11) (t 10))]) (q (c (t 12) .skip (.exit 0)) (q (z 1 (q (r 0 [XA 13 1 9 11,LA 14 13,MA 5 14]) (q (r 0 [MA 15 3,
 (MA 16 5),UA 17 (n (t 16)),UA 18 (b .add d (t 15) (t 17)),MA 3 18]) (q (r 0 [MA 19 3,UA 20 (b .lss g (t 19) (k (i j 0)))]) (c (t 20) .bad .skip))))) (r 0 [UA 22 (b .add d (t 11) (k (i j 1))),
 (MA 11 22)])))
def c69l1:LCode:=q (r 0 [UA 28 (b .lss g (t 27) (t 26))]) (q (c (t 28) .skip (.exit 2)) (q (z 3 (q (r 0 [XA 29 1 25 27,LA 30 29,MA 8 30]) (r 1 [MA 31 6,
 (MA 32 8),UA 33 (.append 0 2 16 (t 31) (t 32)),MA 6 33]))) (r 0 [UA 34 (b .add d (t 27) (k (i j 1))),MA 27 34])))
def c69:LCode:=(q (r 0 [UA 2 (m (k (.slice o 0 0)))]) (q (r 0 [CA 3 0]) (q (q (r 0 [MA 9 0,UA 10 (n (t 9)),CA 11 0]) (z 0 (.loop c69l0))) (q (r 0 [MA 23 3,
 (UA 24 (.call 120 [(k (.slice o 0 0)),(t 23)])),MA 6 24]) (q (q (r 0 [MA 25 0,UA 26 (n (t 25)),CA 27 0]) (z 2 (.loop c69l1))) (q (r 0 [MA 35 6,MA 2 35])
 .ret))))))
def c84l0:LCode:=q (r 0 [UA 18 (b .lss g (t 17) (t 16))]) (q (c (t 18) .skip (.exit 0)) (q (z 1 (q (r 0 [XA 19 1 15 17,LA 20 19,MA 7 20]) (.tree 0 (v 0 [4,5] (SA 21 73 5)
 (v 1 [2,3,4,5] (MA 22 7) (h 2 (UA 23 (.call 130 [(t 22)])) d (h 3 (UA 24 (.eff .b2s 0 [(t 23)])) d (h 4 (UA 25 (.call 129 [(t 21),(t 24)])) g (h 5 (WA 73 5 25) g .done .none) .none) .none)
 .none)))))) (r 0 [UA 26 (b .add d (t 17) (k (i j 1))),MA 17 26])))
def c84:LCode:=(q (r 1 [UA 4 (.alloc 0 (.agg (yah 16 (.int .u8 0))))]) (q (.tree 2 (v 1 [2,3,4,5,7] (MA 10 0) (v 2 [3,4,5,7] (UA 11 (.conv g .u8 (t 10))) (h 0 (UA 9 (.call 128 [])) g
 (h 3 (UA 12 (.lits 0 1 1 [.int .u8 0] [(0,(t 11))])) g (h 4 (UA 13 (.eff .b2s 0 [(t 12)])) g (h 5 (UA 14 (.call 129 [(t 9),(t 13)])) g (h 6 (UA 5 (.alloc 1 (.agg nJ))) g (h 7 (WA 73 5 14) g .done
 .none) .none) (h 6 (UA 5 (.alloc 1 (.agg nJ))) g (h 5 (UA 14 (.call 129 [(t 9),(t 13)])) g (h 7 (WA 73 5 14) g .done .none) .none) .none)) (h 6 (UA 5 (.alloc 1 (.agg nJ))) g (h 4 (UA 13 (.eff .b2s 0 [(t 12)])) g
 (h 5 (UA 14 (.call 129 [(t 9),(t 13)])) g (h 7 (WA 73 5 14) g .done .none) .none) .none) .none)) (h 6 (UA 5 (.alloc 1 (.agg nJ))) g (h 3 (UA 12 (.lits 0 1 1 [.int .u8 0] [(0,(t 11))])) g (h 4 (UA 13 (.eff .b2s 0 [(t 12)])) g
 (h 5 (UA 14 (.call 129 [(t 9),(t 13)])) g (h 7 (WA 73 5 14) g .done .none) .none) .none) .none) .none)) (h 3 (UA 12 (.lits 0 1 1 [.int .u8 0] [(0,(t 11))])) g (h 0 (UA 9 (.call 128 [])) g (h 4 (UA 13 (.eff .b2s 0 [(t 12)])) g
 (h 5 (UA 14 (.call 129 [(t 9),(t 13)])) g (h 6 (UA 5 (.alloc 1 (.agg nJ))) g (h 7 (WA 73 5 14) g .done .none) .none) (h 6 (UA 5 (.alloc 1 (.agg nJ))) g (h 5 (UA 14 (.call 129 [(t 9),(t 13)])) g
 (h 7 (WA 73 5 14) g .done .none) .none) .none)) (h 6 (UA 5 (.alloc 1 (.agg nJ))) g (h 4 (UA 13 (.eff .b2s 0 [(t 12)])) g (h 5 (UA 14 (.call 129 [(t 9),(t 13)])) g (h 7 (WA 73 5 14) g
 .done .none) .none) .none) .none)) (h 4 (UA 13 (.eff .b2s 0 [(t 12)])) g (h 0 (UA 9 (.call 128 [])) g (h 5 (UA 14 (.call 129 [(t 9),(t 13)])) g (h 6 (UA 5 (.alloc 1 (.agg nJ))) g (h 7 (WA 73 5 14) g
 .done .none) .none) (h 6 (UA 5 (.alloc 1 (.agg nJ))) g (h 5 (UA 14 (.call 129 [(t 9),(t 13)])) g (h 7 (WA 73 5 14) g .done .none) .none) .none)) (h 6 (UA 5 (.alloc 1 (.agg nJ))) g (h 0 (UA 9 (.call 128 [])) g
 (h 5 (UA 14 (.call 129 [(t 9),(t 13)])) g (h 7 (WA 73 5 14) g .done .none) .none) .none) .none)) (h 6 (UA 5 (.alloc 1 (.agg nJ))) g (h 0 (UA 9 (.call 128 [])) g (h 4 (UA 13 (.eff .b2s 0 [(t 12)])) g
 (h 5 (UA 14 (.call 129 [(t 9),(t 13)])) g (h 7 (WA 73 5 14) g .done .none) .none) .none) (h 4 (UA 13 (.eff .b2s 0 [(t 12)])) g (h 0 (UA 9 (.call 128 [])) g (h 5 (UA 14 (.call 129 [(t 9),(t 13)])) g
 (h 7 (WA 73 5 14) g .done .none) .none) .none) .none)) .none))) (h 6 (UA 5 (.alloc 1 (.agg nJ))) g (h 0 (UA 9 (.call 128 [])) g (h 3 (UA 12 (.lits 0 1 1 [.int .u8 0] [(0,(t 11))])) g (h 4 (UA 13 (.eff .b2s 0 [(t 12)])) g
 (h 5 (UA 14 (.call 129 [(t 9),(t 13)])) g (h 7 (WA 73 5 14) g .done .none) .none) .none) .none) (h 3 (UA 12 (.lits 0 1 1 [.int .u8 0] [(0,(t 11))])) g (h 0 (UA 9 (.call 128 [])) g (h 4 (UA 13 (.eff .b2s 0 [(t 12)])) g
 (h 5 (UA 14 (.call 129 [(t 9),(t 13)])) g (h 7 (WA 73 5 14) g .done .none) .none) .none) (h 4 (UA 13 (.eff .b2s 0 [(t 12)])) g (h 0 (UA 9 (.call 128 [])) g (h 5 (UA 14 (.call 129 [(t 9),(t 13)])) g
 (h 7 (WA 73 5 14) g .done .none) .none) .none) .none)) .none)) .none)))))) (q (q (r 0 [MA 15 1,UA 16 (n (t 15)),CA 17 0]) (z 0 (.loop c84l0))) (q (r 1 [SA 27 73 5,
 (UA 28 (.call 131 [(t 27)])),UA 8 (.alloc 0 (.agg (yah 32 (.int .u8 0)))),WA 32 8 28]) (q (r 0 [UA 29 (.prim (.pslc 32 g d g) [(t 8),(k (i j 16))]),UA 30 (.prim (.s2a 16) [(t 29)]),
 (SA 31 16 30),WA 16 4 31]) .ret)))))
def c90:LCode:=(q (r 0 [UA 2 (m (k (.slice o 0 0)))]) (q (q (r 0 [MA 3 0,UA 4 (.eqn g (t 3) (k (.slice o 0 0)))]) (c (t 4) (q (r 0 [UA 2 (m (k (.slice o 0 0)))]) .ret) .skip)) (q (r 2 [
 (UA 5 (.lits 0 2 0 [i j 0,i j 0] [])),MA 6 0,UA 7 (.append 1 2 16 (t 5) (t 6)),MA 2 7]) .ret)))
open Go Go.Fx Go.Proofs
theorem pol:Tryz.prog.follows .mixedOrders=true:=by kernel_rfl
theorem lw69:rlF Tryz.prog 69 c69=some (c69,[.tmp 2],36):=by kernel_rfl
theorem lw84:rlF Tryz.prog 84 c84=some (c84,[.cell 4 (some 16)],32):=by kernel_rfl
theorem lw90:rlF Tryz.prog 90 c90=some (c90,[.tmp 2],8):=by kernel_rfl
end Go.Fx.H
