import Derived.Test.YtgajgdgaghmgjaaGreatDoorFxTree
import Derived.OrdersIn
import Derived.TacticsIn
import Derived.Sort.LoopGhostIn
import Derived.Test.YtgajgdgaghmgjaaGreatDoorFxFrz
import Derived.OpenShut
import Derived.ChangeOld
import Derived.Below
import Derived.ProofKit
import Derived.JoinedCond
set_option linter.unusedVariables false
set_option linter.unusedSimpArgs false
set_option linter.unusedSectionVars false
open Option.some renaming injEq → yaa
open List renaming replicate → yab, mem_cons_of_mem → yae, getElem?_eq_some_iff → yaf, mem_cons_self → yag, getElem?_set_ne → yah, all_eq_true → yai, getElem?_cons_zero → yaj, getElem?_append_left → yal, mem_cons → yam, mem_of_getElem? → yan, getElem?_set_self → yao, length_eq_one_iff → yas, nodup_cons → yav, getElem?_eq_none → yaw, contains_iff_mem → yay, getElem?_append_right → yaA, getElem?_eq_getElem → yaB, mem_append_left → yaD, mem_append_right → yaE
open Bool renaming and_eq_true → yac, not_eq_true' → yaz
open Nat renaming le_refl → yad, zero_add → yap, lt_or_ge → yaq, zero_le → yat, lt_of_lt_of_le → yau
open Array renaming replicate → yak, getD_eq_getD_getElem? → yar, getElem?_eq_some_iff → yax, getElem?_eq_none → yaC
namespace Go.Fx
open Go.RowKit
def rlY (P:Program) (op:Op) (l0:LOp):Option LOp :=
 match l0 with
 | .yld _ _=>match op with
  | .call c=>match c.callee with
   | .value f=>some (.yld f c.args.toList)
   | _=>none
  | _=>none
 | l0=>match rl P op l0 with
  | some (.yld _ _)=>none
  | r=>r
def eP (P:Program) (ops:Array Oper) (N:Nat):List Oper→List aH→Option (List aH)
 | [],[]=>some []
 | o::os,l::ls=>match rlY P o.op l.op,gOk ops N o.guard,dOk N o.dst,eP P ops N os ls with
  | some op,some g,true,some r=>some (⟨o.dst,op,g⟩::r)
  | _,_,_,_=>none
 | _,_=>none
def e7 (o:Oper):Bool:=match o.op with
 | .defer _=>false
 | _=>true
def dK:Code→Bool
 | .region _ ops _=>ops.toList.all e7
 | .seq a b=>dK a&&dK b
 | .cond _ a b=>dK a&&dK b
 | .block _ a=>dK a
 | .loop a=>dK a
 | .rangeFunc _ _ a b=>dK a&&dK b
 | .skip|.label _|.ret|.exit _=>true
 | _=>false
def gF:LCode→Bool
 | .skip|.reg _ _|.tree _ _|.exit _|.ret|.bad=>true
 | .tail _ _ _|.qui _ _|.yreg _ _ _|.ytree _ _ _ _=>false
 | .seq a b=>gF a&&gF b
 | .cond _ a b=>gF a&&gF b
 | .block _ a=>gF a
 | .loop a=>gF a
 | .frz _ a=>gF a
 | .rfn _ _ a b=>gF a&&gF b
def vH (P:Program) (N:Nat) (ops:Array Oper) (rs:Nat→Bool) (m:Nat):LPlan→Array Bool→Nat→Option (List Nat)→Option LPlan
 | .done,listed,fuel,none=>if fuel=0∧m<ops.size∧Region.seqB .any ops (ops.size-m) m listed=true then some .done else none
 | .take i D l p,listed,fuel+1,none=>match ops[i]? with
  | some o=>match rl P o.op l.op,gOk ops N o.guard,dOk N o.dst,vH P N ops rs m p (listed.setIfInBounds i true) fuel none with
   | some op,some g,true,some p'=>if y8 ops rs listed i D op&&D.contains m then some (.take i D ⟨o.dst,op,g⟩ p') else none
   | _,_,_,_=>none
  | none=>none
 | .alt i l r p q,listed,fuel+1,rem=>match rem.getD (Region.ready .any ops listed),ops[i]? with
  | j::js,some o=>match rl P o.op l.op,gOk ops N o.guard,dOk N o.dst,vH P N ops rs m p (listed.setIfInBounds i true) fuel none,vH P N ops rs m q listed (fuel+1) (some js) with
   | some op,some g,true,some p',some q'=>if j=i∧r=rs i then some (.alt i ⟨o.dst,op,g⟩ r p' q') else none
   | _,_,_,_,_=>none
  | _,_=>none
 | .none,_,_,some []=>some .none
 | _,_,_,_=>none
def afM (P:Program) (N:Nat) (ops:Array Oper) (p:LPlan) (m:Nat):Option LPlan :=
 if Region.noSelect ops then vH P N ops (fun j=>!(Sx p).contains j) m p (yak ops.size false) m none else none
def rlC (P:Program) (N:Nat):Code→LCode→Option LCode
 | .skip,_=>some .skip
 | .label _,_=>some .skip
 | .scope c,l=>rlC P N c l
 | .ret,_=>some .ret
 | .exit i,_=>some (.exit i)
 | .region _ ops draw,l=>match l with
  | .reg n ls=>match draw,eU P ops N ops.toList ls with
   | false,some r=>some (.reg n r)
   | _,_=>none
  | .qui n ls=>match draw,eU P ops N ops.toList ls with
   | true,some r=>if (r.all fun l=>bH l.op)&&Region.lexB .any ops then some (.qui n r) else none
   | _,_=>none
  | .tail m n ls=>match draw,eU P ops N ops.toList ls with
   | true,some r=>if ((r.take m).all fun l=>bH l.op)&&Region.lexTailB .any ops m then some (.tail m n r) else none
   | _,_=>none
  | .tree n p=>match draw,rlT P N ops p with
   | true,some r=>some (.tree n r)
   | _,_=>none
  | .yreg m n ls=>match eP P ops N ops.toList ls with
   | some r=>if !draw||((r.take m).all fun l=>bH l.op)&&Region.lexTailB .any ops m then some (.yreg (if draw then m else 0) n r) else none
   | _=>none
  | .ytree n p m ls=>match draw,afM P N ops p m,eP P ops N (ops.toList.drop m) ls with
   | true,some p',some r=>if m<ops.size then some (.ytree n p' m r) else none
   | _,_,_=>none
  | .bad=>some .bad
  | _=>none
 | .seq a b,l=>match l with
  | .seq x y=>match rlC P N a x,rlC P N b y with
   | some x',some y'=>some (.seq x' y')
   | _,_=>none
  | .frz xs (.seq x y)=>match rlC P N a x,rlC P N b y with
   | some x',some y'=>some (.frz xs (.seq x' y'))
   | _,_=>none
  | .bad=>some .bad
  | _=>none
 | .cond c a b,l=>match l with
  | .cond _ x y=>match rlC P N a x,rlC P N b y with
   | some x',some y'=>some (.cond c x' y')
   | _,_=>none
  | _=>none
 | .block i a,l=>match l with
  | .block _ x=>match rlC P N a x with
   | some x'=>some (.block i x')
   | none=>none
  | _=>none
 | .loop a,l=>match l with
  | .loop x=>match rlC P N a x with
   | some x'=>some (.loop x')
   | none=>none
  | _=>none
 | .rangeFunc g ps asg body,l=>match l with
  | .rfn _ _ x y=>match rlC P N asg x,rlC P N body y with
   | some x',some y'=>if (ps.toList.all fun p=>decide (p<N))&&(dK asg&&dK body)&&(gF x'&&gF y') then some (.rfn g ps.toList x' y') else none
   | _,_=>none
  | _=>none
 | _,_=>none
section
variable [DBase] {P:Program} {ρ0:Nat→Loc} {X:Nat→Prop} {w0:World} {fx:List Nat} {N:Nat}
theorem Pc:∀ {p:Env} {e:Env},leE e p→∀ i,get p i=.any∨get p i=get e i
 | [],_,_,_=>.inl rfl
 | (j,x)::r,e,h,i=>by
  simp only [get]
  split
  ·rename_i hi
   subst hi
   exact .inr h.1.symm
  ·exact Pc h.2 i
theorem Ri:∀ {h p:List Blk},leH h p→∀ (k:Nat) (B:Blk),p[k]?=some B→∃ A,h[k]?=some A∧leB A B
 | _,[],_,k,B,hB=>by simp at hB
 | a::h,c::p,hl,0,B,hB=>by
  simp only [yaj,yaa] at hB
  subst hB
  exact ⟨a,rfl,hl.1⟩
 | a::h,c::p,hl,k+1,B,hB=>by
  obtain ⟨A,h1,h2⟩:=Ri (h:=h) (p:=p) hl.2 k B (by simpa using hB)
  exact ⟨A,by simpa using h1,h2⟩
 | [],_::_,hl,_,_,_=>hl.elim
theorem My {ρ:Nat→Loc} {w:World}:∀ {xs ys:List V} {vs:List Value},cI xs ys→bL ρ X w xs vs→bL ρ X w ys vs
 | [],[],_,_,h=>h
 | x::xs,y::ys,u::us,hl,h=>by
  refine ⟨?_,My hl.2 h.2⟩
  have h1:=hl.1
  unfold leV at h1
  split at h1
  ·trivial
  ·subst h1;exact h.1
 | _::_,_::_,[],_,h=>h.elim
 | [],_::_,_,hl,_=>hl.elim
 | _::_,[],_,hl,_=>hl.elim
def dJ (ρ:Nat→Loc) (p:List Blk) (k:Nat):Loc :=
 match p[k]? with
 | some .dead=>{ ρ k with real:=false }
 | some _=>ρ k
 | none=>{ ρ k with real:=false }
theorem mE {ρ:Nat→Loc} {p:List Blk} {b:Nat} (h:Own (dJ ρ p) b):Own ρ b:=by
 obtain ⟨k,h1,h2⟩:=h
 unfold dJ at h1 h2
 split at h1
 ·cases h1
 ·exact ⟨k,h1,by simp_all⟩
 ·cases h1
theorem cY {ρ:Nat→Loc} {p:List Blk} {k:Nat} (h:aC p k):dJ ρ p k=ρ k:=by
 unfold aC at h
 unfold dJ
 cases hb:p[k]? with
 | none=>rw [hb] at h;exact h.elim
 | some B=>rw [hb] at h;cases B<;>first|rfl|exact h.elim
theorem rI {ρ:Nat→Loc} {w:World} {p:List Blk}:∀ b,Sta ρ X w b→Sta (dJ ρ p) X w b∧w.heap[b]?=w.heap[b]? :=
 fun _ h=>⟨⟨h.1,fun ho=>h.2.1 (mE ho),h.2.2⟩,rfl⟩
theorem Gd {ρ:Nat→Loc} {w:World} {p:List Blk} {b:Nat} (h:Len ρ w b):Len (dJ ρ p) w b:=⟨h.1,fun ho=>h.2 (mE ho)⟩
mutual
theorem fN {ρ:Nat→Loc} {w:World} {p:List Blk}:∀ (x:V) (val:Value),wfV p x→aX ρ X w x val→aX (dJ ρ p) X w x val
 | .any,_,_,_=>trivial
 | .v _,_,_,hx=>hx
 | .ro sz els,val,_,hx=>dN rI (.ro sz els) val hx
 | .bro sz els,val,_,hx=>by
  obtain ⟨a,len,cap,h1,h2,h3,h4,h5⟩:=hx
  refine ⟨a,len,cap,h1,h2,h3,h4,h5.imp id ?_⟩
  rintro ⟨b,off,h6,h7,h8⟩
  exact ⟨b,off,h6,Gd h7,aW rI sz b rfl off els h8⟩
 | .full sz els,val,_,hx=>by
  obtain ⟨a,len,h1,h2,h4,h5⟩:=hx
  refine ⟨a,len,h1,h2,h4,h5.imp id ?_⟩
  rintro ⟨b,off,h6,h7,h8⟩
  exact ⟨b,off,h6,Gd h7,aW rI sz b rfl off els h8⟩
 | .rp sz els i f,val,_,hx=>by
  obtain ⟨b,off,h6,h7,h8⟩:=hx
  exact ⟨b,off,h6,Gd h7,aW rI sz b rfl off els h8⟩
 | .sl k i n,val,hw,hx=>by
  obtain ⟨cap,h1,h2,h3⟩:=hx
  refine ⟨cap,h1,h2,?_⟩
  rw [cY hw]
  exact h3
 | .ptr k i f,val,hw,hx=>by
  simp only [aX]
  rw [cY hw]
  exact hx
 | .agg cs,val,hw,hx=>by
  obtain ⟨arr,h1,h2⟩:=hx
  exact ⟨arr,h1,i5 cs _ hw h2⟩
 | .tup cs,val,hw,hx=>by
  obtain ⟨arr,h1,h2⟩:=hx
  exact ⟨arr,h1,i5 cs _ hw h2⟩
 | .clo f cs,val,hw,hx=>by
  obtain ⟨arr,h1,h2⟩:=hx
  exact ⟨arr,h1,i5 cs _ hw h2⟩
 | .mp k,val,hw,hx=>by
  simp only [aX]
  rw [cY hw]
  exact hx
 | .itr k,val,hw,hx=>by
  simp only [aX]
  rw [cY hw]
  exact hx
theorem i5 {ρ:Nat→Loc} {w:World} {p:List Blk}:∀ (xs:List V) (vs:List Value),wfL p xs→bL ρ X w xs vs→bL (dJ ρ p) X w xs vs
 | [],[],_,_=>trivial
 | x::r,u::us,hw,hx=>⟨fN x u hw.1 hx.1,i5 r us hw.2 hx.2⟩
 | [],_::_,_,hx=>hx.elim
 | _::_,[],_,hx=>hx.elim
end
theorem Cp {h:List Blk}:∀ {e:Env},wfE h e→∀ i,wfV h (get e i)
 | [],_,_=>trivial
 | (j,x)::r,hw,i=>by
  simp only [get]
  split
  ·exact hw.1
  ·exact Cp hw.2 i
theorem Qf {h:List Blk}:∀ {l:List Blk},wfB h l→∀ (k:Nat) (cs:List V),l[k]?=some (Blk.var cs)→wfL h cs
 | b::r,hw,0,cs,hk=>by
  simp only [yaj,yaa] at hk
  subst hk
  exact hw.1
 | b::r,hw,k+1,cs,hk=>by
  have:wfB h r:=by cases b<;>first|exact hw|exact hw.2
  exact Qf this k cs (by simpa using hk)
 | [],_,_,_,hk=>by simp at hk
theorem Qc {h:List Blk}:∀ {xs:List V},wfL h xs→∀ {x:V},x∈xs→wfV h x
 | y::r,hw,x,hx=>by
  rcases yam.1 hx with rfl|hx
  ·exact hw.1
  ·exact Qc hw.2 hx
 | [],_,_,hx=>by simp at hx
theorem vB {h:List Blk} {b:Blk} {r:List Blk} (hw:wfB h (b::r)):wfB h r:=by cases b<;>first|exact hw|exact hw.2
theorem Qg {h:List Blk}:∀ {l:List Blk},wfB h l→∀ (k:Nat) (sz:Nat) (els:List (List V)),l[k]?=some (Blk.arv sz els)→wfL h els.flatten
 | b::r,hw,0,sz,els,hk=>by
  simp only [yaj,yaa] at hk
  subst hk
  exact hw.1
 | b::r,hw,k+1,sz,els,hk=>Qg (vB hw) k sz els (by simpa using hk)
 | [],_,_,_,_,hk=>by simp at hk
theorem Qe {h:List Blk}:∀ {l:List Blk},wfB h l→∀ (k:Nat) (es:List (Value × V × Nat)) (c:Nat),l[k]?=some (Blk.map es c)→wfL h (es.map (·.2.1))
 | b::r,hw,0,sz,els,hk=>by
  simp only [yaj,yaa] at hk
  subst hk
  exact hw.1
 | b::r,hw,k+1,sz,els,hk=>Qe (vB hw) k sz els (by simpa using hk)
 | [],_,_,_,_,hk=>by simp at hk
theorem Un {h:List Blk}:∀ {l:List Blk},wfB h l→∀ (k:Nat) (m:V) (s:Nat) (sn:List Nat) (c:Nat),l[k]?=some (Blk.it m s sn c)→wfV h m
 | b::r,hw,0,m,s,sn,c,hk=>by
  simp only [yaj,yaa] at hk
  subst hk
  exact hw.1
 | b::r,hw,k+1,m,s,sn,c,hk=>Un (vB hw) k m s sn c (by simpa using hk)
 | [],_,_,_,_,_,_,hk=>by simp at hk
theorem Qd {h:List Blk}:∀ {l:List Blk},wfB h l→∀ (k:Nat) (t:RS) (e:Env),l[k]?=some (Blk.rcd t e)→wfE h e
 | b::r,hw,0,t,e,hk=>by
  simp only [yaj,yaa] at hk
  subst hk
  exact hw.1
 | b::r,hw,k+1,t,e,hk=>Qd (vB hw) k t e (by simpa using hk)
 | [],_,_,_,_,hk=>by simp at hk
theorem pG {ρ:Nat→Loc} {w:World} {p:List Blk}:Fr ρ w (dJ ρ p) w:=⟨rfl,rfl,rfl,yad _,fun _ _ ho=>⟨rfl,fun h=>ho (mE h)⟩⟩
theorem xD {ρ:Nat→Loc} {w:World} {h p:List Blk} (hr:Rep ρ X w h) (hl:leH h p) (hw:wfB p p):Rep (dJ ρ p) X w p:=by
 have hreal:∀ k,(dJ ρ p k).real=true→aC p k:=by
  intro k hk
  unfold dJ at hk
  unfold aC
  cases hb:p[k]? with
  | none=>rw [hb] at hk;cases hk
  | some B=>rw [hb] at hk;cases B<;>first|trivial|cases hk
 refine ⟨?_,?_,?_,?_,?_,hr.xlt⟩
 ·intro i j hij hi hj
  have h1:=hreal i hi
  have h2:=hreal j hj
  rw [cY h1] at hi ⊢
  rw [cY h2] at hj ⊢
  exact hr.inj i j hij hi hj
 ·intro k hk
  have:p[k]?=none:=by simpa using hk
  simp [dJ,this]
 ·intro k B hB
  obtain ⟨A,hA,hAB⟩:=Ri hl k B hB
  have hrA:=hr.blk k A hA
  cases B with
  | dead=>simp [bE,dJ,hB]
  | arr sz els =>
   have hAB':A=.arr sz els:=hAB
   subst hAB'
   have hlive:aC p k:=by simp [aC,hB]
   simp only [bE] at hrA ⊢
   rw [cY hlive]
   refine ⟨hrA.1,hrA.2.imp id ?_⟩
   rintro ⟨h1,c,T,h2,h3,h4,h5⟩
   exact ⟨h1,c,T,h2,h3,h4,aW rI sz _ rfl _ _ h5⟩
  | var ys =>
   cases A with
   | var xs =>
    have hlive:aC p k:=by simp [aC,hB]
    simp only [bE] at hrA ⊢
    rw [cY hlive]
    obtain ⟨h1,c,T,h2,h3⟩:=hrA
    exact ⟨h1,c,T,h2,i5 _ _ (Qf hw k ys hB) (My hAB h3.1),h3.2⟩
   | _=>exact hAB.elim
  | arv sz els =>
   have hAB':A=.arv sz els:=hAB
   subst hAB'
   have hlive:aC p k:=by simp [aC,hB]
   simp only [bE] at hrA ⊢
   rw [cY hlive]
   obtain ⟨h0,h1,c,T,h2,h3,h4,h5⟩:=hrA
   refine ⟨h0,h1,c,T,h2,h3,h4,fun i e he=>⟨(h5 i e he).1,fun f x hx=>?_⟩⟩
   obtain ⟨u,h6,h7⟩:=(h5 i e he).2 f x hx
   exact ⟨u,h6,fN _ _ (Qc (Qg hw k sz els hB) (List.mem_flatten.2 ⟨e,yan he,yan hx⟩)) h7⟩
  | map es cl =>
   have hAB':A=.map es cl:=hAB
   subst hAB'
   have hlive:aC p k:=by simp [aC,hB]
   simp only [bE] at hrA ⊢
   rw [cY hlive]
   obtain ⟨h1,arr,h2,h3,h4⟩:=hrA
   exact ⟨h1,arr,h2,h3,i5 _ _ (Qe hw k es cl hB) h4⟩
  | it m s sn l =>
   have hAB':A=.it m s sn l:=hAB
   subst hAB'
   have hlive:aC p k:=by simp [aC,hB]
   simp only [bE] at hrA ⊢
   rw [cY hlive]
   obtain ⟨h1,x,h2,h3⟩:=hrA
   exact ⟨h1,x,h2,fN _ _ (Un hw k m s sn l hB) h3⟩
  | rcd t p' =>
   cases A with
   | rcd t' e =>
    obtain ⟨rfl,hle⟩:t'=t∧(e=p'∨leE e p'):=hAB
    have hlive:aC p k:=by simp [aC,hB]
    simp only [bE] at hrA ⊢
    rw [cY hlive]
    refine ⟨hrA.1,fun i=>?_⟩
    have hwf:=Cp (Qd hw k t' p' hB) i
    rcases hle with rfl|hle
    ·exact fN _ _ hwf (hrA.2 i)
    rcases Pc hle i with hg|hg
    ·rw [hg];trivial
    ·exact fN _ _ hwf (by rw [hg];exact hrA.2 i)
   | _=>exact hAB.elim
 ·rintro b ho hx
  exact hr.disj b (mE ho) hx
 ·intro k hk
  have hl':=hreal k hk
  rw [cY hl'] at hk ⊢
  exact hr.lt k hk
theorem Good.le {s p:St} {a:Act} {w:World} (h:Good ρ0 X w0 fx N s a w) (hl:leS fx s p):Good ρ0 X w0 fx N p a w:=by
 obtain ⟨ρ,⟨⟨hf,h1⟩,hk⟩,⟨hr,he⟩,h5,h5m⟩:=h
 obtain ⟨l1,l2,l3,l4,l5⟩:=hl
 refine ⟨dJ ρ p.h,⟨⟨hf.trans pG,fun k hk'=>by rw [cY (bB l3 k hk')];exact h1 k hk'⟩,l3⟩,⟨xD hr l2 l5,fun i=>?_⟩,h5,h5m.fr pG⟩
 have hwf:=Cp l4 i
 rcases Pc l1 i with hg|hg
 ·rw [hg];trivial
 ·exact fN _ _ hwf (by rw [hg];exact he i)
theorem iZ:∀ xs:List V,cI xs xs
 | []=>trivial
 | x::xs=>⟨by unfold leV;split<;>trivial,iZ xs⟩
theorem aS (b:Blk):leB b b:=by
 cases b with
 | dead=>trivial
 | var xs=>exact iZ xs
 | rcd t e=>exact ⟨rfl,.inl rfl⟩
 | _=>rfl
theorem aU:∀ h:List Blk,leH h h
 | []=>trivial
 | b::h=>⟨aS b,aU h⟩
theorem Mz:∀ (h:List Blk) (n:Nat) (B:Blk),leH (h.set n B) (h.set n .dead)
 | [],_,_=>trivial
 | b::h,0,B=>⟨trivial,aU h⟩
 | b::h,n+1,B=>⟨aS b,Mz h n B⟩
theorem Good.leH {s:St} {p:List Blk} {a:Act} {w:World} (h:Good ρ0 X w0 fx N s a w) (l2:leH s.h p) (l3:aD fx p) (l4:wfE p s.e) (l5:wfB p p):Good ρ0 X w0 fx N { s with h:=p } a w:=by
 obtain ⟨ρ,⟨⟨hf,h1⟩,hk⟩,⟨hr,he⟩,h5,h5m⟩:=h
 exact ⟨dJ ρ p,⟨⟨hf.trans pG,fun k hk'=>by rw [cY (bB l3 k hk')];exact h1 k hk'⟩,l3⟩,⟨xD hr l2 l5,fun i=>fN _ _ (Cp l4 i) (he i)⟩,h5,h5m.fr pG⟩
theorem Good.give {s:St} {M:Nat→Bool} {a:Act} {w:World} (h:Good ρ0 X w0 fx N s a w) (hM:∀ k∈fx,M k=false):Good ρ0 X w0 fx N (s.give M) a w:=by
 obtain ⟨ρ,⟨⟨g1,g2⟩,g3⟩,⟨g4,g5⟩,g6⟩:=h
 exact ⟨dW ρ M,⟨⟨g1.trans Bp,fun j hj=>by rw [pR (by rw [hM j hj];simp)];exact g2 j hj⟩,dP fun j hj=>Tk (bB g3 j hj) (hM j hj)⟩,
  ⟨abR g4,fun i=>by show aX _ _ _ (get (gvE M s.h s.e) i) _;rw [Ko];exact Ar g4 _ _ (g5 i)⟩,g6.1,g6.2.fr Bp⟩
theorem Ep {ρ:Nat→Loc} {w:World} {x y:V} {val:Value} (hc:Qx x y) (h:aX ρ X w x val):aX ρ X w y val:=by
 rcases hc with rfl|⟨rfl,k,rfl⟩
 ·exact h
 ·have:val=.slice none 0 0:=h
  subst this
  exact ⟨0,yad _,yat _,.inl ⟨rfl,none,rfl⟩⟩
theorem Qw {ρ:Nat→Loc} {w:World}:∀ {xs ys:List V} {vs:List Value},Kd xs ys→bL ρ X w xs vs→bL ρ X w ys vs
 | [],ys,[],hr,h=>by
  have:ys=[]:=List.eq_nil_of_length_eq_zero hr.1
  subst this;trivial
 | x::xs,[],v::vs,hr,h=>by have:=hr.1;simp at this
 | x::xs,y::ys,v::vs,hr,h =>
  ⟨Ep (hr.2 0 x y rfl rfl) h.1,Qw (xs:=xs) (ys:=ys) ⟨by simpa using hr.1,fun i a b h1 h2=>hr.2 (i+1) a b (by simpa using h1) (by simpa using h2)⟩ h.2⟩
 | [],_,_::_,_,h=>h.elim
 | _::_,_,[],_,h=>h.elim
theorem Gw {ρ ρ':Nat→Loc} {w:World} (hf:Fr ρ w ρ' w) (hag:∀ k,(ρ k).real=true→ρ' k=ρ k) {k:Nat} (hk:ρ' k=ρ k) {B:Blk} (h:bE ρ X w k B):bE ρ' X w k B:=by
 cases B with
 | dead=>simp only [bE] at h ⊢;rw [hk];exact h
 | arr s es =>
  simp only [bE] at h ⊢
  rw [hk]
  refine ⟨h.1,h.2.imp id ?_⟩
  rintro ⟨h1,c,T,h2,h3,h4,h5⟩
  exact ⟨h1,c,T,h2,h3,h4,aW hf.sta s _ rfl _ _ h5⟩
 | var cs =>
  simp only [bE] at h ⊢
  rw [hk]
  obtain ⟨h1,c,T,h2,h3⟩:=h
  exact ⟨h1,c,T,h2,eG hf hag _ _ h3.1,h3.2⟩
 | arv s es =>
  simp only [bE] at h ⊢
  rw [hk]
  obtain ⟨h0,h1,c,T,h2,h3,h4,h5⟩:=h
  exact ⟨h0,h1,c,T,h2,h3,h4,fun i e he=>⟨(h5 i e he).1,fun f x hx=>by obtain ⟨u,h6,h7⟩:=(h5 i e he).2 f x hx;exact ⟨u,h6,bT hf hag _ _ h7⟩⟩⟩
 | map es cl =>
  simp only [bE] at h ⊢
  rw [hk]
  obtain ⟨h1,arr,h2,h3,h4⟩:=h
  exact ⟨h1,arr,h2,h3,eG hf hag _ _ h4⟩
 | it m s sn l =>
  simp only [bE] at h ⊢
  rw [hk]
  obtain ⟨h1,x,h2,h3⟩:=h
  exact ⟨h1,x,h2,bT hf hag _ _ h3⟩
 | rcd t e =>
  simp only [bE] at h ⊢
  rw [hk]
  exact ⟨h.1,fun i=>bT hf hag _ _ (h.2 i)⟩
theorem Good.setB {s:St} {a:Act} {w:World} {j:Nat} {B C:Blk} (h:Good ρ0 X w0 fx N s a w) (hb:s.h[j]?=some B) (hl:aC [C] 0) (hC:∀ ρ,bE ρ X w j B→bE ρ X w j C):Good ρ0 X w0 fx N { s with h:=s.h.set j C } a w:=by
 obtain ⟨ρ,⟨⟨g1,g2⟩,g3⟩,⟨g4,g5⟩,g6⟩:=h
 have hjl:=(yaf.1 hb).1
 refine ⟨ρ,⟨⟨g1,g2⟩,dP fun k hk=>?_⟩,⟨⟨g4.inj,fun k hk=>g4.out k (by simpa using hk),fun k D hD=>?_,g4.disj,g4.lt,g4.xlt⟩,g5⟩,g6⟩
 ·have:=bB g3 k hk
  unfold aC at this ⊢
  by_cases hkj:j=k
  ·subst hkj
   rw [yao hjl]
   cases C<;>first|exact hl.elim|trivial
  ·rw [yah hkj];exact this
 ·by_cases hkj:j=k
  ·subst hkj
   rw [yao hjl] at hD
   simp only [yaa] at hD
   subst hD
   exact hC ρ (g4.blk j B hb)
  ·rw [yah hkj] at hD
   exact g4.blk k D hD
def fP (ρ:Nat→Loc) (n m sz k:Nat):Loc:=if n≤k∧k<n+m then { ρ k with real:=false,sz:=sz } else ρ k
theorem Good.virt {s:St} {a:Act} {w:World} (m sz:Nat) (hz:0<sz) (h:Good ρ0 X w0 fx N s a w):Good ρ0 X w0 fx N { s with h:=s.h++yab m (.arr sz []) } a w:=by
 obtain ⟨ρ,⟨⟨g1,g2⟩,g3⟩,⟨g4,g5⟩,g6⟩:=h
 have hreal:∀ k,(fP ρ s.h.length m sz k).real=true→(ρ k).real=true∧fP ρ s.h.length m sz k=ρ k:=by
  intro k hk
  unfold fP at hk ⊢
  split at hk
  ·cases hk
  ·rename_i hn;rw [if_neg hn];exact ⟨hk,rfl⟩
 have hag:∀ k,(ρ k).real=true→fP ρ s.h.length m sz k=ρ k:=by
  intro k hk
  unfold fP
  rw [if_neg]
  rintro ⟨h1,_⟩
  rw [g4.out k h1] at hk
  cases hk
 have hown:∀ b,Own (fP ρ s.h.length m sz) b→Own ρ b:=by
  rintro b ⟨k,h1,h2⟩
  have:=hreal k h1
  rw [this.2] at h2
  exact ⟨k,this.1,h2⟩
 have hf:Fr ρ w (fP ρ s.h.length m sz) w:=⟨rfl,rfl,rfl,yad _,fun _ _ ho=>⟨rfl,fun h=>ho (hown _ h)⟩⟩
 have hlt:∀ k,k<s.h.length→fP ρ s.h.length m sz k=ρ k:=fun k hk=>by unfold fP;rw [if_neg (by omega)]
 refine ⟨fP ρ s.h.length m sz,⟨⟨g1.trans hf,fun k hk=>?_⟩,dP fun k hk=>?_⟩,⟨⟨?_,fun k hk=>?_,fun k D hD=>?_,fun b ho=>g4.disj b (hown b ho),fun k hk=>?_,g4.xlt⟩,fun i=>bT hf hag _ _ (g5 i)⟩,g6.1,g6.2.fr hf⟩
 ·have hl:=bB g3 k hk
  have:k<s.h.length:=by
   unfold aC at hl
   cases hb:s.h[k]? with
   | none=>rw [hb] at hl;exact hl.elim
   | some B=>exact (yaf.1 hb).1
  rw [hlt k this];exact g2 k hk
 ·have hl:=bB g3 k hk
  unfold aC at hl ⊢
  cases hb:s.h[k]? with
  | none=>rw [hb] at hl;exact hl.elim
  | some B =>
   show (match (s.h++yab m (Blk.arr sz []))[k]? with|some Blk.dead=>False|some _=>True|none=>False)
   rw [yal (yaf.1 hb).1]
   rw [hb] at hl ⊢
   exact hl
 ·intro i j hij hi hj
  have h1:=hreal i hi
  have h2:=hreal j hj
  rw [h1.2,h2.2]
  exact g4.inj i j hij h1.1 h2.1
 ·simp only [List.length_append,List.length_replicate] at hk
  have:=g4.out k (by omega)
  unfold fP
  split
  ·rfl
  ·exact this
 ·by_cases hkl:k<s.h.length
  ·rw [yal hkl] at hD
   exact Gw hf hag (hlt k hkl) (g4.blk k D hD)
  ·rw [yaA (by omega),List.getElem?_replicate] at hD
   split at hD
   ·rename_i hm
    simp only [yaa] at hD
    subst hD
    simp only [bE,fP]
    rw [if_pos (by omega)]
    exact ⟨⟨rfl,hz⟩,.inl ⟨rfl,trivial⟩⟩
   ·cases hD
 ·have h1:=hreal k hk
  rw [h1.2];exact g4.lt k h1.1
theorem Good.virtAt {s:St} {a:Act} {w:World} (k sz:Nat) (hz:0<sz) (hk:s.h[k]?=some .dead) (h:Good ρ0 X w0 fx N s a w):Good ρ0 X w0 fx N { s with h:=s.h.set k (.arr sz []) } a w:=by
 obtain ⟨ρ,⟨⟨g1,g2⟩,g3⟩,⟨g4,g5⟩,g6⟩:=h
 have hkl:=(yaf.1 hk).1
 have hkd:(ρ k).real=false:=by simpa [bE] using g4.blk k _ hk
 have hne:∀ j,j≠k→upd ρ k { ρ k with sz:=sz } j=ρ j:=fun j hj=>aV _ _ hj
 have hreal:∀ j,(upd ρ k { ρ k with sz:=sz } j).real=(ρ j).real:=by
  intro j
  by_cases hj:j=k
  ·subst hj;rw [upd_same]
  ·rw [hne j hj]
 have hag:∀ j,(ρ j).real=true→upd ρ k { ρ k with sz:=sz } j=ρ j:=by
  intro j hj
  refine hne j fun e=>?_
  rw [e,hkd] at hj;cases hj
 have hown:∀ b,Own (upd ρ k { ρ k with sz:=sz }) b→Own ρ b:=by
  rintro b ⟨j,h1,h2⟩
  rw [hreal] at h1
  rw [hag j h1] at h2
  exact ⟨j,h1,h2⟩
 have hf:Fr ρ w (upd ρ k { ρ k with sz:=sz }) w:=⟨rfl,rfl,rfl,yad _,fun _ _ ho=>⟨rfl,fun h=>ho (hown _ h)⟩⟩
 have hnf:∀ j∈fx,j≠k:=by
  intro j hj e
  have:=bB g3 j hj
  rw [e] at this
  unfold aC at this
  rw [hk] at this
  exact this
 refine ⟨_,⟨⟨g1.trans hf,fun j hj=>(hne j (hnf j hj)).trans (g2 j hj)⟩,dP fun j hj=>?_⟩,⟨⟨?_,fun j hj=>?_,fun j D hD=>?_,fun b ho=>g4.disj b (hown b ho),fun j hj=>?_,g4.xlt⟩,fun i=>bT hf hag _ _ (g5 i)⟩,g6.1,g6.2.fr hf⟩
 ·have:=bB g3 j hj
  unfold aC at this ⊢
  rw [yah (fun e=>hnf j hj e.symm)];exact this
 ·intro a b hab ha hb
  rw [hreal] at ha hb
  rw [hag a ha,hag b hb]
  exact g4.inj a b hab ha hb
 ·rw [hreal]
  exact g4.out j (by simpa using hj)
 ·by_cases hkj:k=j
  ·subst hkj
   rw [yao hkl] at hD
   simp only [yaa] at hD
   subst hD
   simp only [bE,upd_same]
   exact ⟨⟨trivial,hz⟩,.inl ⟨hkd,trivial⟩⟩
  ·rw [yah hkj] at hD
   exact Gw hf hag (hne j fun e=>hkj e.symm) (g4.blk j D hD)
 ·rw [hreal] at hj
  rw [hag j hj];exact g4.lt j hj
theorem Good.mv {s:St} {a:Act} {w:World} (i j:Nat) (B:Blk) (hij:i≠j) (hi:s.h[i]?=some .dead) (hj:s.h[j]?=some B) (hjf:j∉fx) (h:Good ρ0 X w0 fx N s a w) :
  Good ρ0 X w0 fx N { s with e:=mvE i j s.e,h:=((s.h.map (mvB i j)).set i (mvB i j B)).set j .dead } a w:=by
 obtain ⟨ρ,⟨⟨g1,g2⟩,g3⟩,⟨g4,g5⟩,g6⟩:=h
 have hid:(ρ i).real=false:=by simpa [bE] using g4.blk i _ hi
 have hnf:∀ k∈fx,k≠i∧k≠j:=by
  intro k hk
  refine ⟨fun e=>?_,fun e=>hjf (e▸hk)⟩
  have:=bB g3 k hk
  rw [e] at this
  unfold aC at this
  rw [hi] at this
  exact this
 refine ⟨eE ρ i j,⟨⟨g1.trans (Hy hid),fun k hk=>?_⟩,dP fun k hk=>?_⟩,⟨alU g4 hij hi hj,fun t=>?_⟩,g6.1,g6.2.fr (Hy hid)⟩
 ·have:=hnf k hk
  unfold eE
  rw [if_neg this.1,if_neg this.2];exact g2 k hk
 ·have h1:=hnf k hk
  have:=bB g3 k hk
  unfold aC at this ⊢
  rw [yah (fun e=>h1.2 e.symm),yah (fun e=>h1.1 e.symm),List.getElem?_map]
  cases hb:s.h[k]? with
  | none=>rw [hb] at this;exact this.elim
  | some C=>rw [hb] at this;cases C<;>first|exact this.elim|trivial
 ·show aX _ _ _ (get (mvE i j s.e) t) _
  rw [Kn];exact Es hid _ _ (g5 t)
theorem Good.ghost {s s':St} {a:Act} {w:World} (hg:eL fx s s') (h:Good ρ0 X w0 fx N s a w):Good ρ0 X w0 fx N s' a w:=by
 induction hg with
 | refl s=>exact h
 | le hl _ ih=>exact ih (h.le hl)
 | give M hM _ ih=>exact ih (h.give hM)
 | virtAt k sz hz hk _ ih=>exact ih (h.virtAt k sz hz hk)
 | mv i j B hij hi hj hf _ ih=>exact ih (h.mv i j B hij hi hj hf)
 | virt n sz hz _ ih=>exact ih (h.virt n sz hz)
 | nilE i k hn _ ih =>
  refine ih ?_
  obtain ⟨ρ,g1,⟨g4,g5⟩,g6⟩:=h
  refine ⟨ρ,g1,⟨g4,fun j=>?_⟩,g6⟩
  show aX ρ X w (if j=i then .sl k 0 0 else get _ j) _
  by_cases hj:j=i
  ·subst hj
   rw [if_pos rfl]
   exact Ep (.inr ⟨rfl,k,rfl⟩) (hn▸g5 j)
  ·rw [if_neg hj];exact g5 j
 | nilB j xs ys hb hr _ ih =>
  refine ih (h.setB hb trivial fun ρ hB=>?_)
  simp only [bE] at hB ⊢
  obtain ⟨h1,c,T,h2,h3⟩:=hB
  exact ⟨h1,c,T,h2,Qw hr h3.1,h3.2⟩
 | nilW j sz xs ys hb hr _ ih =>
  refine ih (h.setB hb trivial fun ρ hB=>?_)
  simp only [bE] at hB ⊢
  obtain ⟨h0,h1,c,T,h2,h3,h4,h5⟩:=hB
  refine ⟨h0,h1,c,T,h2,h3,by rw [hr.1];exact h4,fun i e he=>?_⟩
  have hil:i<xs.length:=by rw [←hr.1];exact (yaf.1 he).1
  have hx:xs[i]?=some xs[i]:=yaB hil
  have hrow:=hr.2 i _ _ hx he
  obtain ⟨h6,h7⟩:=h5 i _ hx
  refine ⟨hrow.1.trans h6,fun f y hy=>?_⟩
  have hfl:f<xs[i].length:=by rw [←hrow.1];exact (yaf.1 hy).1
  have hxf:xs[i][f]?=some xs[i][f]:=yaB hfl
  obtain ⟨u,h8,h9⟩:=h7 f _ hxf
  exact ⟨u,h8,Ep (hrow.2 f _ _ hxf hy) h9⟩
 | opn j sz els hb hn _ ih =>
  refine ih (h.setB hb trivial fun ρ hB=>?_)
  simp only [bE] at hB ⊢
  obtain ⟨h0,⟨_,h1⟩|⟨h1,c,T,h2,h3,h4,h5⟩⟩:=hB
  ·exact absurd h1 hn
  refine ⟨h0,h1,c,T,h2,h3,h4,fun i e he=>?_⟩
  obtain ⟨q1,q2⟩:=eO h5 he
  refine ⟨q1,fun f x hx=>?_⟩
  obtain ⟨u,q3,q4⟩:=gQ q2 hx
  exact ⟨u,by simpa [World.cell?,h2] using q3,oN q4⟩
 | cls j sz els hb hd _ ih =>
  refine ih (h.setB hb trivial fun ρ hB=>?_)
  simp only [bE] at hB ⊢
  obtain ⟨h0,h1,c,T,h2,h3,h4,h5⟩:=hB
  refine ⟨h0,.inr ⟨h1,c,T,h2,h3,h4,eH fun i e he=>?_⟩⟩
  obtain ⟨q1,q2⟩:=h5 i e he
  refine ⟨q1,oQ fun f x hx=>?_⟩
  obtain ⟨u,q3,q4⟩:=q2 f x hx
  exact ⟨u,by simpa [World.cell?,h2] using q3,oP (yai.1 (hd e (yan he)) x (yan hx)) q4⟩
 | shr j sz n els hb _ ih =>
  refine ih (h.setB hb trivial fun ρ hB=>?_)
  simp only [bE] at hB ⊢
  obtain ⟨h0,⟨h1,h2⟩|⟨h1,c,T,h2,h3,h4,h5⟩⟩:=hB
  ·exact ⟨h0,.inl ⟨h1,by rw [h2];simp⟩⟩
  ·refine ⟨h0,.inr ⟨h1,c,T,h2,h3,Nat.le_trans (Nat.add_le_add_left (Nat.mul_le_mul_right _ (by rw [List.length_take];omega)) _) h4,?_⟩⟩
   have:=Ce (i:=0) (n:=n) h5
   simpa using this
theorem Good.leG {s p:St} {a:Act} {w:World} (h:Good ρ0 X w0 fx N s a w) (hl:leG fx s p):Good ρ0 X w0 fx N p a w:=by
 obtain ⟨s',h1,h2⟩:=hl
 exact (h.ghost h1).le h2
theorem tU {a:Act} {w:World} {K:St→Prop}:∀ (xs:List Nat) (s:St),pV fx xs s K→Good ρ0 X w0 fx N s a w→∃ s',K s'∧Good ρ0 X w0 fx N s' a w
 | [],s,h,hg=>⟨s,h,hg⟩
 | x::r,s,h,hg=>by
  simp only [pV] at h
  split at h
  ·rename_i k i n hx
   unfold Kr at h
   split at h
   ·rename_i sz els hb
    obtain ⟨hk,h⟩:=h
    have hb':s.h[k]?=some (.arr sz els):=by
     unfold blk at hb
     rw [List.getD_eq_getElem?_getD] at hb
     cases hk:s.h[k]? with
     | none=>simp [hk] at hb
     | some B=>rw [hk] at hb;simpa using hb
    refine tU r _ h ?_
    obtain ⟨ρ,⟨⟨g1,g2⟩,g3⟩,⟨g4,g5⟩,g6⟩:=hg
    have hne:∀ j∈fx,j≠k:=fun j hj e=>hk (e▸hj)
    exact ⟨eB ρ k,⟨⟨g1.trans o9,fun j hj=>by rw [eX (hne j hj)];exact g2 j hj⟩,dP fun j hj=>Mu (bB g3 j hj) (hne j hj)⟩,
     ⟨Xy g4 hb',fun i=>by rw [v8];exact tT g4 hb' _ _ (g5 i)⟩,g6.1,g6.2.fr o9⟩
   ·exact tU r s h hg
  ·exact tU r s h hg
theorem acK {c:V} {A B:Prop} (h:brV c A B):∃ t,c=.v (.bool t)∧(t=true→A)∧(t=false→B):=by
 unfold brV at h
 split at h
 ·exact ⟨_,rfl,h⟩
 ·exact h.elim
end
end Go.Fx
namespace Go.Fx
open Go.RowKit
def FR (r:Option Nat):Fence:={ Fence.wide with round:=r }
section
variable {P:Program} {r:Option Nat}
theorem Sg {n:Nat} {f:FuncId} {args:Array Value} {w:World} {R:Ending→World→Prop} (h:Calls P f args w R):CallsIn (FR r) n P f args w R:=(callsIn_wide (n:=n)).2 h
theorem afL {n:Nat} {row:String} {args:Array Value} {w:World} {R:Value→World→Prop} (h:Rows P row args w R):RowsIn (FR r) n P row args w R :=
 fun c cs _=>let ⟨v,w',hr,hs⟩:=h c cs;⟨v,w',hr,stepsIn_wide.2 hs⟩
theorem Oq {o:Oper} (hd:r=none∨e7 o=true) {Q:Exit→Act→World→Prop} {a:Act} {w:World} {next:Act→World→Prop} (h:o.wp P a w next Q):o.wpIn (FR r) 0 P a w next Q:=by
 refine ⟨fun _ _=>trivial,?_⟩
 have hs:o.semAt (FR r).round a.eval=execOp a.eval o:=by
  rcases hd with rfl|hd
  ·rfl
  ·exact Oper.semAt_eq _ _ _ fun c hc=>by simp [e7,hc] at hd
 rw [hs]
 unfold Oper.wp at h
 generalize (execOp a.eval o).run P w=res at h ⊢
 unfold Oper.upon at h
 split at h
 ·exact h
 ·exact h
 ·exact h
 ·refine ⟨fun h=>(by cases h),Sg (h.mono ?_)⟩
  rintro e w' he
  cases e<;>exact he
 ·exact ⟨fun h=>(by cases h),afL h⟩
 ·exact h
 ·exact h.elim
theorem afW {ops:Array Oper} (hd:r=none∨∀ (i:Nat) (o:Oper),ops[i]?=some o→e7 o=true) {Q:Exit→Act→World→Prop} (hQ:¬LetsOut Q) {i:Nat} {K:Act→World→Prop} {a:Act} {w:World} (h:wpOp P ops Q i K a w) :
  wpOpIn (FR r) 0 P ops Q i K a w:=by
 unfold wpOp at h
 unfold wpOpIn
 split at h
 ·rename_i ho;simp only [ho];exact h
 ·rename_i o ho
  simp only [ho]
  split at h
  ·rename_i hw
   rw [if_pos hw]
   rcases h with h|h
   ·exact Oq (hd.imp id fun h=>h i o ho) h
   ·exact absurd h.2 hQ
  ·rename_i hw
   rw [if_neg hw]
   exact ⟨fun _ _=>trivial,h⟩
theorem aeD {ops:Array Oper} (hd:r=none∨∀ (i:Nat) (o:Oper),ops[i]?=some o→e7 o=true) {Q:Exit→Act→World→Prop} (hQ:¬LetsOut Q) {md:Region.Mode} :
  ∀ (fuel:Nat) (listed:Array Bool) (a:Act) (w:World),wpAny P md ops Q fuel listed a w→wpAnyIn (FR r) 0 P md ops Q fuel listed a w
 | 0,_,_,_,h=>h
 | fuel+1,_,_,_,h=>⟨h.1,fun i hi=>wpOpIn_mono (fun a w=>aeD hd hQ fuel _ a w) (afW hd hQ (h.2 i hi))⟩
theorem Ez {ops:Array Oper} {Q:Exit→Act→World→Prop} (hQ:¬LetsOut Q):∀ (os:List Oper),(r=none∨∀ o∈os,e7 o=true)→∀ (a:Act) (w:World),wpList P ops Q os a w→wpListIn (FR r) 0 P ops Q os a w
 | [],_,_,_,h=>h
 | o::os,hd,a,w,h=>by
  unfold wpList at h
  unfold wpListIn
  have hd':r=none∨∀ o∈os,e7 o=true:=hd.imp id fun h o ho=>h o (yae _ ho)
  split at h
  ·rename_i hw
   rw [if_pos hw]
   rcases h with h|h
   ·exact Oper.wpIn_mono (fun a w=>Ez hQ os hd' a w) (Oq (hd.imp id fun h=>h o yag) h)
   ·exact absurd h.2 hQ
  ·rename_i hw
   rw [if_neg hw]
   exact ⟨fun _ _=>trivial,Ez hQ os hd' _ _ h⟩
theorem pM {ops:Array Oper} {Q:Exit→Act→World→Prop} {md:Region.Mode}:∀ (l:List Oper) (k:Nat) (listed:Array Bool) (a:Act) (w:World),(∀ j,l[j]?=ops[k+j]?) →
  Region.seqB md ops l.length k listed=true→wpListIn (FR r) 0 P ops Q l a w→wpAnyIn (FR r) 0 P md ops Q l.length listed a w
 | [],_,_,_,_,_,hB,h=>⟨by simpa [Region.seqB] using hB,h⟩
 | o::l,k,listed,a,w,hl,hB,h=>by
  have h0:ops[k]?=some o:=by simpa using (hl 0).symm
  simp only [List.length_cons,Region.seqB,yac,decide_eq_true_eq] at hB
  refine ⟨fun h1=>(by rw [hB.1] at h1;cases h1),fun i hi=>?_⟩
  rw [hB.1] at hi
  obtain rfl:i=k:=by simpa using hi
  have hw:wpOpIn (FR r) 0 P ops Q i (wpListIn (FR r) 0 P ops Q l) a w:=by unfold wpOpIn;simp only [h0];exact h
  exact wpOpIn_mono (fun a' w' h'=>pM l (i+1) _ a' w' (fun j=>by have:=hl (j+1);simpa [Nat.add_assoc,Nat.add_comm 1 j] using this) hB.2 h') hw
theorem uH {ops:Array Oper} {Q:Exit→Act→World→Prop} (hQ:¬LetsOut Q) {md:Region.Mode} {w:World} {n g:Nat} {L:Array Bool→Act→Prop} (hL:∀ listed a,L listed a→wpAnyIn (FR none) 0 P md ops Q g listed a w) :
  ∀ (f:Nat) (listed:Array Bool) (a:Act),wpAnyL P md ops w n L f listed a→wpAnyIn (FR none) 0 P md ops Q (f+g) listed a w
 | 0,listed,a,h=>by rw [yap];exact hL _ _ h
 | f+1,listed,a,h=>by
  rw [show f+1+g=(f+g)+1 by omega]
  exact ⟨fun h0=>absurd h0 h.1,fun i hi=>afW (.inl rfl) hQ (wpOp_of_stOp (fun a' h'=>uH hQ hL f _ a' h') (h.2 i hi).2)⟩
end
end Go.Fx
namespace Go.Fx
open Go.RowKit
section
variable [DBase] {P:Program} {X:Nat→Prop} {ρ:Nat→Loc} {w w':World}
theorem Vt {h:List Blk} (hr:Rep ρ X w h):Rep ρ X w (h++[.dead]):=by
 refine ⟨hr.inj,fun k hk=>hr.out k (by simp at hk;omega),fun k B hB=>?_,hr.disj,hr.lt,hr.xlt⟩
 rcases yaq k h.length with hlt|hge
 ·rw [yal hlt] at hB
  exact hr.blk k B hB
 ·rw [yaA hge] at hB
  have:B=.dead:=by
   cases hk:k-h.length with
   | zero=>rw [hk] at hB;simpa using hB.symm
   | succ m=>rw [hk] at hB;simp at hB
  subst this
  exact hr.out k hge
theorem Ve (h:List Blk) (A B:Blk):(h++[A]).set h.length B=h++[B]:=by
 rw [List.set_append_right _ _ (yad _)];simp
theorem Nd (h:List Blk) (A:Blk):(h++[A])[h.length]?=some A:=by simp
theorem Qz {h:List Blk} (hr:Rep ρ X w h) {lp:Loop} (hm:Made w w' (.loop { lp with state:=.ready,pending:=none })) {e:Env} (he:cS ρ X w e lp.tmps) :
  ∃ ρ',Fr ρ w ρ' w'∧(∀ j,j≠h.length→ρ' j=ρ j)∧(∀ j,(ρ j).real=true→ρ' j=ρ j)∧Rep ρ' X w' (h++[.rcd .ready e])∧ρ' h.length=⟨true,w.heap.size,0,0,0,lp⟩:=by
 have hkr:(ρ h.length).real=false:=hr.out _ (yad _)
 have hf:Fr ρ w (upd ρ h.length ⟨true,w.heap.size,0,0,0,lp⟩) w':=q9 hm (k:=h.length) rfl
 have hag:=rA hkr ⟨true,w.heap.size,0,0,0,lp⟩
 refine ⟨_,hf,fun j hj=>aV _ _ hj,hag,?_,upd_same _ _ _⟩
 have:=vU (Vt hr) hm (Nd h .dead) (l:=⟨true,w.heap.size,0,0,0,lp⟩) rfl (B:=.rcd .ready e) (by
  simp only [bE,upd_same]
  exact ⟨⟨⟨rfl,rfl,rfl⟩,hm.new⟩,bF hf hag he⟩)
 rwa [Ve] at this
theorem Tf {h:List Blk} (hr:Rep ρ X w h) {e:Env} {t:Array Value} (he:cS ρ X w e t) :
  ∃ ρ',Fr ρ w ρ' w∧Fr ρ' w ρ w∧(∀ j,j≠h.length→ρ' j=ρ j)∧(∀ j,(ρ j).real=true→ρ' j=ρ j)∧Rep ρ' X w (h++[.rcd .ghost e])∧(ρ' h.length).lp.tmps=t:=by
 have hkr:(ρ h.length).real=false:=hr.out _ (yad _)
 let L:Loc:={ ρ h.length with real:=false,lp:={ (default:Loop) with tmps:=t } }
 have hag:∀ j,(ρ j).real=true→upd ρ h.length L j=ρ j:=rA hkr L
 have hre:∀ j,(upd ρ h.length L j).real=true→(ρ j).real=true∧upd ρ h.length L j=ρ j:=by
  intro j hj
  by_cases hjn:j=h.length
  ·subst hjn;rw [upd_same] at hj;cases hj
  ·rw [aV _ _ hjn] at hj ⊢;exact ⟨hj,rfl⟩
 have hown:∀ b,Own (upd ρ h.length L) b↔Own ρ b:=by
  intro b
  constructor
  ·rintro ⟨j,h1,h2⟩
   have:=hre j h1
   rw [this.2] at h2
   exact ⟨j,this.1,h2⟩
  ·rintro ⟨j,h1,h2⟩
   exact ⟨j,by rw [hag j h1];exact h1,by rw [hag j h1];exact h2⟩
 have hf:Fr ρ w (upd ρ h.length L) w:=⟨rfl,rfl,rfl,yad _,fun b _ ho=>⟨rfl,fun h=>ho ((hown b).1 h)⟩⟩
 have hf':Fr (upd ρ h.length L) w ρ w:=⟨rfl,rfl,rfl,yad _,fun b _ ho=>⟨rfl,fun h=>ho ((hown b).2 h)⟩⟩
 refine ⟨upd ρ h.length L,hf,hf',fun j hj=>aV _ _ hj,hag,⟨?_,?_,?_,fun b ho=>hr.disj b ((hown b).1 ho),?_,hr.xlt⟩,by rw [upd_same]⟩
 ·intro i j hij hi hj
  have h1:=hre i hi
  have h2:=hre j hj
  rw [h1.2,h2.2]
  exact hr.inj i j hij h1.1 h2.1
 ·intro k hk
  have:k≠h.length:=by simp at hk;omega
  rw [aV _ _ this]
  exact hr.out k (by simp at hk;omega)
 ·intro k B hB
  rcases yaq k h.length with hlt|hge
  ·rw [yal hlt] at hB
   exact Gw hf hag (aV _ _ (by omega)) (hr.blk k B hB)
  ·have hk:k=h.length:=by
    have:=(yaf.1 hB).1
    simp at this;omega
   subst hk
   rw [Nd] at hB
   simp only [yaa] at hB
   subst hB
   simp only [bE,upd_same]
   exact ⟨rfl,bF hf hag he⟩
 ·intro k hk
  have:=hre k hk
  rw [this.2]
  exact hr.lt k this.1
theorem nX {k:Nat} (hk:(ρ k).real=true) (o:Obj):Fr ρ w ρ (w.putObj (ρ k).blk o):=Jo hk o rfl rfl rfl rfl
theorem Eg {h:List Blk} (hr:Rep ρ X w h) {k:Nat} {t t':RS} {e:Env} (hb:h[k]?=some (.rcd t e)) (hk:(ρ k).real=true) {o:Obj} (ho:Eh (w.putObj (ρ k).blk o) (ρ k) t') :
  Rep ρ X (w.putObj (ρ k).blk o) (h.set k (.rcd t' e)):=by
 have hB:=hr.blk k _ hb
 simp only [bE] at hB
 refine Dn hr hk (o:=o) (nX hk o) rfl ?_
 simp only [bE]
 exact ⟨ho,bF (nX hk o) (fun _ _=>rfl) hB.2⟩
theorem Mk {k:Nat} (hk:(ρ k).real=true) {h:List Blk} (hr:Rep ρ X w h) (o:Obj):(w.putObj (ρ k).blk o).heap[(ρ k).blk]?=some o:=World.putObj_heap_same (hr.lt k hk)
theorem Yn {h:List Blk} (hr:Rep ρ X w h) {w0:World} (h0:w0.heap.size≤w.heap.size) {ds:List Deferred} (hM:Marks ρ w0 w ds) (r:Option Nat) (hrd:∀ l0,r=some l0→∃ r0,w.heap[l0]?=some (.loop r0))
  (fn:FuncId) (tmps:Array Value) (ps:Array Tmp) (asg body:Code) {e:Env} (he:cS ρ X w e tmps) :
  ∃ (l:Nat) (mark:List Deferred) (w1:World) (lp:Loop) (ρ':Nat→Loc),(Instr.enterLoop fn tmps ps asg body r).run P w=.ok (l,mark) w1 ∧
   (lp.fn=fn∧lp.tmps=tmps∧lp.params=ps∧lp.assign=asg∧lp.body=body)∧Fr ρ w ρ' w1∧(∀ j,j≠h.length→ρ' j=ρ j)∧(∀ j,(ρ j).real=true→ρ' j=ρ j)∧Rep ρ' X w1 (h++[.rcd .ready e]) ∧
   ρ' h.length=⟨true,l,0,0,0,lp⟩∧Marks ρ' w0 w1 (mark++ds):=by
 cases r with
 | none =>
  have hm1:Made w (w.alloc (.deferred (some []))) (.deferred (some [])):=Made.alloc _ _
  have hf1:Fr ρ w ρ (w.alloc (.deferred (some []))):=⟨rfl,rfl,rfl,by rw [hm1.size];omega,fun b hb ho=>⟨hm1.old hb,ho⟩⟩
  have hr1:Rep ρ X (w.alloc (.deferred (some []))) h :=
   ⟨hr.inj,hr.out,fun k B hB=>gR hf1 (fun _ _=>rfl) rfl (fun hk=>hm1.old (hr.lt k hk)) (hr.blk k B hB),hr.disj,fun k hk=>yau (hr.lt k hk) hf1.size,hr.xfr hf1⟩
  let lp:Loop:={ state:=.ready,pending:=none,fn,tmps,params:=ps,assign:=asg,body,defers:=w.heap.size }
  obtain ⟨ρ',g1,g2,g3,g4,g5⟩:=Qz hr1 (lp:=lp) (Made.alloc _ _) (bF hf1 (fun _ _=>rfl) he)
  refine ⟨_,_,_,lp,ρ',run_enterLoop_outer fn tmps ps asg body,⟨rfl,rfl,rfl,rfl,rfl⟩,hf1.trans g1,g2,g3,g4,by rw [g5,hm1.size],?_⟩
  obtain ⟨Ds,⟨h1,h2⟩,h3⟩:=hM.fr (hf1.trans g1)
  refine ⟨w.heap.size::Ds,⟨by rw [h1];rfl,yav.2 ⟨fun hD=>?_,h2⟩⟩,fun D hD=>?_⟩
  ·obtain ⟨Ds',⟨h1',_⟩,h3'⟩:=hM
   have:Ds=Ds':=by
    have hinj:∀ (xs ys:List Nat),xs.map Eu=ys.map Eu→xs=ys:=by
     intro xs
     induction xs with
     | nil=>intro ys h;cases ys with|nil=>rfl|cons _ _=>simp at h
     | cons x xs ih =>
      intro ys h
      cases ys with
      | nil=>simp at h
      | cons y ys =>
       simp only [List.map_cons,List.cons.injEq,Eu,Deferred.mk.injEq,Target.collected.injEq,and_true] at h
       rw [h.1,ih ys h.2]
    exact hinj _ _ (List.append_cancel_right (h1.symm.trans h1'))
   subst this
   have:=(h3' _ hD).1.2
   omega
  ·rcases yam.1 hD with rfl|hD
   ·refine ⟨⟨h0,yau (by rw [hm1.size];omega) g1.size⟩,?_,?_⟩
    ·rintro ⟨j,hj1,hj2⟩
     by_cases hjn:j=h.length
     ·subst hjn;rw [g5] at hj2;simp only [hm1.size] at hj2;omega
     ·rw [g2 j hjn] at hj1 hj2
      have:=hr.lt j hj1
      omega
    ·rw [(Made.alloc (w.alloc (.deferred (some []))) _).old (by rw [hm1.size];omega)]
     exact hm1.new
   ·exact h3 D hD
 | some l0 =>
  obtain ⟨r0,hr0⟩:=hrd l0 rfl
  let lp:Loop:={ state:=.ready,pending:=none,fn,tmps,params:=ps,assign:=asg,body,defers:=r0.defers }
  obtain ⟨ρ',g1,g2,g3,g4,g5⟩:=Qz hr (lp:=lp) (Made.alloc _ _) he
  exact ⟨_,_,_,lp,ρ',run_enterLoop_inner hr0 fn tmps ps asg body,⟨rfl,rfl,rfl,rfl,rfl⟩,g1,g2,g3,g4,g5,hM.fr g1⟩
end
end Go.Fx
namespace Go.Fx
open Go.RowKit
section
variable [DBase] {P:Program} {ρ0:Nat→Loc} {X:Nat→Prop} {w0:World} {N:Nat}
theorem uQ {ops:Array Oper} {N:Nat} {o:Oper} {os:List Oper} {ls0:List aH} {l:aH} {ls:List aH} (h:eP P ops N (o::os) ls0=some (l::ls)) :
  ∃ l0 r0 op g,ls0=l0::r0∧rlY P o.op l0.op=some op∧gOk ops N o.guard=some g∧(∀ d,o.dst=some d→d<N)∧l=⟨o.dst,op,g⟩∧eP P ops N os r0=some ls:=by
 cases ls0 with
 | nil=>simp [eP] at h
 | cons l0 r0 =>
  simp only [eP] at h
  split at h
  ·rename_i op g r h1 h2 h3 h4
   simp only [yaa,List.cons.injEq] at h
   obtain ⟨rfl,rfl⟩:=h
   refine ⟨l0,r0,op,g,rfl,h1,h2,fun d hd=>?_,rfl,h4⟩
   simpa [dOk,hd] using h3
  ·cases h
theorem Af {ops:Array Oper} {N:Nat} {os:List Oper} {ls0:List aH} (h:eP P ops N os ls0=some []):os=[]:=by
 cases os with
 | nil=>rfl
 | cons o os =>
  cases ls0 with
  | nil=>simp [eP] at h
  | cons l0 r0 =>
   simp only [eP] at h
   split at h<;>simp at h
theorem Ad {op:Op} {l0 l:LOp} (h:rlY P op l0=some l):(∃ f c,l=.yld f c.args.toList∧op=.call c∧c.callee=.value f)∨(rl P op l0=some l∧∀ f xs,l≠.yld f xs):=by
 unfold rlY at h
 split at h
 ·split at h
  ·rename_i c
   split at h
   ·rename_i f hf
    simp only [yaa] at h
    exact .inl ⟨f,c,h.symm,rfl,hf⟩
   ·cases h
  ·cases h
 ·split at h
  ·cases h
  ·rename_i hn
   exact .inr ⟨h,fun f xs e=>hn f xs (by rw [h,e])⟩
theorem Ug {cx:Cx} {o:Oper} {c:Call} {f:Operand} (hop:o.op=.call c) (hcal:c.callee=.value f) {a:Act} {s:St} {ρ:Nat→Loc} {w:World} {K:V→St→Prop} {Q:Exit→Act→World→Prop}
  (hf:Fr ρ0 w0 ρ w∧∀ j∈cx.fx,ρ j=ρ0 j) (hk:aD cx.fx s.h) (hr:Rep ρ X w s.h) (he:cS ρ X w s.e a.tmps) (hy:∀ k,YOk P ρ0 X w0 cx.fx k (cx.y k)) (h:pY cx f c.args.toList s K) :
  o.wpIn (FR none) 0 P a w (fun a' w'=>∃ val,a'=a.put o.dst val∧oM cx.fx [] ρ X w a.tmps K val w') Q:=by
 unfold pY at h
 split at h
 ·rename_i k hev
  have hv:=aT he f
  rw [hev] at hv
  obtain ⟨_,hv⟩:=hv
  obtain ⟨fn,tm,asg,body,hy1,hy2⟩:=hy k ρ w s a.tmps _ _ K hf hk hr he (lF he c.args.toList) h
  refine ⟨fun _ _=>trivial,?_⟩
  show o.uponIn (FR none) 0 P a _ Q ((execOp a.eval o).run P w)
  have ha:(c.args.map a.eval)=(c.args.toList.map a.eval).toArray:=by apply Array.ext';simp
  have hrun:(execOp a.eval o).run P w=.ok (.round (ρ k).blk fn tm asg body) w:=by
   unfold execOp
   simp only [hop,resolve,hcal,ha,hv,Deferred.ofValue,Sem.run_bind,Sem.run_pure,Result.andThen_ok,invoke,Array.empty_append,Array.append_empty]
   exact hy1
  rw [hrun,Oper.uponIn_round]
  refine ⟨fun h=>(by cases h),hy2.mono ?_⟩
  rintro e w' ⟨val,rfl,hs⟩
  exact ⟨val,rfl,hs⟩
 ·exact h.elim
theorem mG {cx:Cx} (hcx:cx.ok P) (hy:∀ k,YOk P ρ0 X w0 cx.fx k (cx.y k)) {ops:Array Oper} {Q:Exit→Act→World→Prop} {K:St→Prop} (hQ:∀ s a w,K s→Good ρ0 X w0 cx.fx N s a w→Q .normal a w) :
  ∀ (os:List Oper) (ls0 ls:List aH) (s:St) (a:Act) (w:World),eP P ops N os ls0=some ls→Good ρ0 X w0 cx.fx N s a w→aB cx ls s K→wpListIn (FR none) 0 P ops Q os a w
 | os,ls0,[],s,a,w,hm,hg,h=>by
  have:=Af hm
  subst this
  exact hQ s a w h hg
 | [],ls0,l::ls,s,a,w,hm,hg,h=>by
  cases ls0<;>simp [eP] at hm
 | o::os,ls0,l::ls,s,a,w,hm,hg,h=>by
  obtain ⟨l0,r0,op,g,rfl,h1,h2,hd,rfl,h4⟩:=uQ hm
  obtain ⟨ρ,hpre,⟨hr,he⟩,hN,hdf⟩:=hg
  simp only [aB] at h
  unfold wpListIn
  have key:∀ (A:St→(V→St→Prop)→Prop) (K':St→Prop),(∀ s' a' w',K' s'→Good ρ0 X w0 cx.fx N s' a' w'→wpListIn (FR none) 0 P ops Q os a' w') →
    (∀ e',cS ρ X w e' a.tmps→A { s with e:=e' } (fun x s'=>K' (s'.put o.dst x)) →
     o.wpIn (FR none) 0 P a w (fun a' w'=>∃ val,a'=a.put o.dst val∧oM cx.fx [] ρ X w a.tmps (fun x s'=>K' (s'.put o.dst x)) val w') Q)→gP g o.dst A s K' →
    if Region.wanted o (yielded ops a.tmps) then o.wpIn (FR none) 0 P a w (wpListIn (FR none) 0 P ops Q os) Q
     else (∀ f,o.about P w a.eval=some f→(FR none).fn f)∧wpListIn (FR none) 0 P ops Q os (a.put o.dst undef) w:=by
   intro A K' hK' hA h
   rcases v7 hN h2 he h with ⟨hw,e',_,he',h'⟩|⟨hw,e',_,he',h'⟩
   ·rw [if_pos hw]
    refine Oper.wpIn_mono ?_ (hA e' he' h')
    rintro a' w' ⟨val,rfl,hs⟩
    obtain ⟨x,s',hK,hgood⟩:=Good.sound (s:=s) hpre ⟨hN,hdf⟩ hd hs
    exact hK' _ _ _ hK hgood
   ·rw [if_neg (by rw [hw];exact Bool.false_ne_true)]
    have hh:(St.put { s with e:=e' } o.dst (.v (.tuple #[]))).h=s.h:=by cases o.dst<;>rfl
    refine ⟨fun _ _=>trivial,hK' _ _ _ h' ⟨ρ,⟨hpre.1,by rw [hh];exact hpre.2⟩,⟨by rw [hh];exact hr,?_⟩,by rw [size_put];exact hN,by rw [lU];exact hdf⟩⟩
    exact eJ (e:=e') (x:=.v (.tuple #[])) (val:=undef) he' rfl (fun n hn=>by rw [hN];exact hd n hn) _ rfl
  have hrest:∀ s' a' w',aB cx ls s' K→Good ρ0 X w0 cx.fx N s' a' w'→wpListIn (FR none) 0 P ops Q os a' w':=fun s' a' w' hK hg'=>mG hcx hy hQ os r0 ls s' a' w' h4 hg' hK
  by_cases hyl:∃ f xs,op=.yld f xs
  ·obtain ⟨f,xs,rfl⟩:=hyl
   rcases Ad h1 with ⟨f',c,hl,hop,hcal⟩|h1
   ·simp only [LOp.yld.injEq] at hl
    obtain ⟨rfl,rfl⟩:=hl
    refine key (pY cx f c.args.toList) _ hrest (fun e' he' h'=>?_) h
    exact Ug hop hcal (s:={ s with e:=e' }) hpre.1 hpre.2 hr he' hy h'
   ·exact absurd rfl (h1.2 f xs)
  ·have h1':rl P o.op l0.op=some op:=by
    rcases Ad h1 with ⟨f',c,hl,_,_⟩|h1
    ·exact absurd ⟨f',_,hl⟩ hyl
    ·exact h1.1
   refine key (aOp cx op) _ hrest (fun e' he' h'=>?_) ?_
   ·refine Oq (.inl rfl) (Oper.wp_mono ?_ (oL hcx h1' (s:={ s with e:=e' }) hr he' hpre.2 h'))
    rintro a' w' ⟨val,rfl,x,s',ρ',g1,⟨g2,g3,_⟩,g4⟩
    exact ⟨val,rfl,x,s',ρ',g1,⟨g2,g3,fun _ h=>by simp at h⟩,g4⟩
   ·have:Gr cx ⟨o.dst,op,g⟩ s (fun s'=>aB cx ls s' K)=rQ cx ⟨o.dst,op,g⟩ s (fun s'=>aB cx ls s' K):=by
     unfold Gr
     split
     ·rename_i f xs hop
      exact absurd ⟨f,xs,hop⟩ hyl
     ·rfl
    rw [this] at h
    cases g<;>exact h
end
end Go.Fx
namespace Go.Fx
open Go.RowKit
section
variable {P:Program}
def ROk (r:Option Nat) (cx:Cx) (ρ0:Nat→Loc):Prop :=
 match r,cx.rk with
 | none,none=>True
 | some l,some k=>k∈cx.fx∧(ρ0 k).blk=l
 | _,_=>False
theorem nW {h:List Blk} {k:Nat} {K:RS→Env→Prop} (hk:vM h k K):∃ t e,h[k]?=some (.rcd t e)∧K t e:=by
 unfold vM at hk
 split at hk
 ·exact ⟨_,_,by assumption,hk⟩
 ·exact hk.elim
theorem Hq:∀ (ps:List Nat) (xs:List V) (vs:List Value) (e:Env) (t:Array Value) {ρ:Nat→Loc} {X:Nat→Prop} {w:World},(∀ p∈ps,p<t.size)→xs.length=ps.length→bL ρ X w xs vs→cS ρ X w e t →
  cS ρ X w (fF ps xs e) ((ps.zip vs).foldl (fun t (p,v)=>t.setIfInBounds p v) t)
 | [],[],[],_,_,_,_,_,_,_,_,he=>he
 | p::ps,x::xs,v::vs,e,t,ρ,X,w,hp,hl,hx,he=>by
  simp only [fF,List.zip_cons_cons,List.foldl_cons]
  refine Hq ps xs vs _ _ (fun q hq=>by simpa using hp q (yae _ hq)) (by simpa using hl) hx.2 ?_
  intro i
  rw [get_put]
  split
  ·rename_i hi
   subst hi
   have:=hp i yag
   rw [yar,Array.getElem?_setIfInBounds_self_of_lt this]
   exact hx.1
  ·rename_i hi
   rw [yar,Array.getElem?_setIfInBounds_ne (Ne.symm hi),←yar]
   exact he i
 | [],_::_,_,_,_,_,_,_,_,hl,_,_=>by simp at hl
 | _::_,[],_,_,_,_,_,_,_,hl,_,_=>by simp at hl
 | _::_,_::_,[],_,_,_,_,_,_,_,hx,_=>hx.elim
 | [],[],_::_,_,_,_,_,_,_,_,hx,_=>hx.elim
theorem Fm:∀ (l:List (Nat × Value)) (t:Array Value),(l.foldl (fun t (p,v)=>t.setIfInBounds p v) t).size=t.size
 | [],_=>rfl
 | (p,v)::l,t=>by rw [List.foldl_cons,Fm l];simp
theorem gE {Q:Exit→Act→World→Prop} {K:Act→World→Prop} (h:¬LetsOut Q):¬LetsOut (Exit.then K Q):=fun ⟨a,w,hq⟩=>h ⟨a,w,hq⟩
end
end Go.Fx
namespace Go.Fx
open Go.RowKit
section
variable [DBase] {P:Program} {ρ0:Nat→Loc} {X:Nat→Prop} {w0:World} {N:Nat} {r:Option Nat}
theorem alT {ops:Array Oper} (h:ops.toList.all e7=true):∀ (i:Nat) (o:Oper),ops[i]?=some o→e7 o=true :=
 fun i o ho=>yai.1 h o (by rw [Array.mem_toList_iff];exact Array.mem_of_getElem? ho)
theorem aaJ (hP:P.follows .mixedOrders=true) {cx:Cx} (hcx:cx.ok P) {ops:Array Oper} {id:Nat} {Q:Exit→Act→World→Prop} (hQo:¬LetsOut Q) {K:St→Prop} (hQ:∀ s a w,K s→Good ρ0 X w0 cx.fx N s a w→Q .normal a w)
  (hd:r=none∨ops.toList.all e7=true) {p0 p:LPlan} {s:St} {a:Act} {w:World} (hm:rlT P N ops p0=some p) (hg:Good ρ0 X w0 cx.fx N s a w) (h:awP cx p [] K s):(Code.region id ops true).wpIn (FR r) 0 P Q a w:=by
 unfold rlT at hm
 split at hm
 ·rename_i hs
  refine wpIn_mono (Q:=uI Q) ?_ (fun e a w he=>?_)
  ·refine wpIn_region_any hP (aeD (Q:=uI Q) (hd.imp (fun h=>h) alT) (fun ⟨a,w,hq⟩=>hQo ⟨a,w,hq⟩) _ _ _ _ ?_)
   obtain ⟨ρ,hG⟩:=Good.drew hg
   exact Dl _ _ _ _ _ ((Tv (Q:=uI Q) hcx rfl hs (fun _ _ _ h=>h) (fun s a w hK hg=>hQ s a w hK hg) p0 p _ _ _ hm [] (fun _=>False) ρ s a _ (fun b hb=>hb.elim) hG h).1 rfl)
  ·cases e<;>first|exact he|exact he.elim
 ·cases hm
theorem Bl {ops:Array Oper}:∀ (m:Nat) (os:List Oper) (ls0 ls:List aH),eP P ops N os ls0=some ls →
  eP P ops N (os.take m) (ls0.take m)=some (ls.take m)∧eP P ops N (os.drop m) (ls0.drop m)=some (ls.drop m)
 | 0,os,ls0,ls,h=>by simp [eP,h]
 | m+1,[],ls0,ls,h=>by
  cases ls0 with
  | nil=>simp [eP] at h;subst h;simp [eP]
  | cons _ _=>simp [eP] at h
 | m+1,o::os,ls0,ls,h=>by
  cases ls with
  | nil=>have:=Af h;cases this
  | cons l ls =>
   obtain ⟨l0,r0,op,g,rfl,h1,h2,hd,rfl,h4⟩:=uQ h
   obtain ⟨h5,h6⟩:=Bl m os r0 ls h4
   refine ⟨?_,by simpa using h6⟩
   have hd':dOk N o.dst=true:=by
    cases hdst:o.dst with
    | none=>rfl
    | some d=>simpa [dOk,hdst] using hd d hdst
   simp [eP,h1,h2,hd',h5]
theorem Bm {ops:Array Oper}:∀ (os:List Oper) (ls0 ls:List aH),eP P ops N os ls0=some ls→(∀ l∈ls,bH l.op=true)→eU P ops N os ls0=some ls
 | [],ls0,ls,h,_=>by
  cases ls0 with
  | nil=>simpa [eP,eU] using h
  | cons _ _=>simp [eP] at h
 | o::os,ls0,ls,h,hq=>by
  cases ls with
  | nil=>have:=Af h;cases this
  | cons l ls =>
   obtain ⟨l0,r0,op,g,rfl,h1,h2,hd,rfl,h4⟩:=uQ h
   have h5:=Bm os r0 ls h4 (fun l hl=>hq l (yae _ hl))
   have hd':dOk N o.dst=true:=by
    cases hdst:o.dst with
    | none=>rfl
    | some d=>simpa [dOk,hdst] using hd d hdst
   have h1':rl P o.op l0.op=some op:=by
    rcases Ad h1 with ⟨f,c,hl,_,_⟩|h1
    ·have:=hq _ yag
     rw [hl] at this
     simp [bH] at this
    ·exact h1.1
   simp [eU,h1',h2,hd',h5]
theorem Cb {cx:Cx}:∀ (l1 l2:List aH) (s:St) (K:St→Prop),(∀ l∈l1,bH l.op=true)→aB cx (l1++l2) s K=eV cx l1 s fun s'=>aB cx l2 s' K
 | [],_,_,_,_=>rfl
 | o::r,l2,s,K,hq=>by
  simp only [List.cons_append,eV,aB]
  have:Gr cx o=rQ cx o:=by
   funext s K
   unfold Gr
   split
   ·rename_i f xs hop
    have:=hq o yag
    rw [hop] at this
    simp [bH] at this
   ·rfl
  rw [this]
  congr 1
  funext s'
  exact Cb r l2 s' K (fun l hl=>hq l (yae _ hl))
theorem Zw (hP:P.follows .mixedOrders=true) {cx:Cx} (hcx:cx.ok P) (hy:∀ k,YOk P ρ0 X w0 cx.fx k (cx.y k)) {ops:Array Oper} {id:Nat} {Q:Exit→Act→World→Prop} (hQo:¬LetsOut Q) {K:St→Prop}
  (hQ:∀ s a w,K s→Good ρ0 X w0 cx.fx N s a w→Q .normal a w) {m:Nat} {ls0 ls:List aH} {s:St} {a:Act} {w:World} (hm:eP P ops N ops.toList ls0=some ls) (hq:(ls.take m).all (fun l=>bH l.op)=true)
  (hB:Region.lexTailB .any ops m=true) (hg:Good ρ0 X w0 cx.fx N s a w) (h:aB cx ls s K):(Code.region id ops true).wpIn (FR none) 0 P Q a w:=by
 obtain ⟨ρ,hpre,⟨hr,he⟩,hN,hdf⟩:=Good.drew hg
 obtain ⟨h1,h2⟩:=Bl m _ _ _ hm
 have hqs:∀ l∈ls.take m,bH l.op=true:=fun l hl=>yai.1 hq l hl
 have hops:ops=ops.toList.toArray:=by simp
 refine wpIn_region_any hP ?_
 rw [←List.take_append_drop m ls,Cb _ _ _ _ hqs] at h
 have hst:wpStill P ops { w with drawn:=w.drawn+1 } (fun a'=>wpListIn (FR none) 0 P ops Q (ops.toList.drop m) a' { w with drawn:=w.drawn+1 }) (ops.toList.take m) a:=by
  refine uL (fx:=cx.fx) (cx:=cx) (ρ:=ρ) (K:=fun s'=>aB cx (ls.drop m) s' K) ?_ _ _ _ s a (Bm _ _ _ h1 hqs) hqs hr hpre.2 he hN rfl h
  intro s' a' hK he' hN' hdf' hr' hk'
  exact mG hcx hy hQ _ _ _ s' a' _ h2 ⟨ρ,⟨hpre.1,hk'⟩,⟨hr',he'⟩,hN',by rw [hdf'];exact hdf⟩ hK
 simp only [Region.lexTailB,yac,decide_eq_true_eq] at hB
 obtain ⟨⟨⟨⟨hsel,hn⟩,hs⟩,hc⟩,hlex⟩:=hB
 have htl:(ops.toList.take m).length=m:=by simp;omega
 have hdl:(ops.toList.drop m).length=ops.size-m:=by simp
 have inv0:HeadInv .any ops m (yak ops.size false) :=
  ⟨by simp,fun j oj _ hl=>(by rw [getD_replicate_false] at hl;cases hl),fun t _ ht=>getD_in (by simpa using ht) (getD_replicate_false _ _)⟩
 have H:=wpAnyL_lex (md:=.any) (g:=ops.size-m) hsel hs hc hn (ops.toList.take m) 0 _ a (fun j hj=>by
  have hj':j<m:=by rw [htl] at hj;exact hj
  simp [hj']) (by simpa using htl) inv0 (by rw [htl];exact hlex) hst
 have:=uH (P:=P) (Q:=Q) hQo (g:=ops.size-m) (fun listed a' hL=>by
  have:=pM (P:=P) (r:=none) (md:=.any) (Q:=Q) (ops.toList.drop m) m listed a' { w with drawn:=w.drawn+1 } (fun j=>by simp [List.getElem?_drop]) (by rw [hdl];exact hL.1) hL.2
  rwa [hdl] at this) _ _ _ H
 rw [htl,show m+(ops.size-m)=ops.size by omega] at this
 exact this
end
end Go.Fx
namespace Go.Fx
open Go.RowKit
section
variable {P:Program} {X:Nat→Prop} {N:Nat}
def Tz (P:Program) (X:Nat→Prop) (N:Nat) (c:Code) (rd:Prop) (A:Cx→(St→Prop)→(Nat→St→Prop)→(St→Prop)→St→Prop):Prop :=
 ∀ [DBase] (r:Option Nat) (cx:Cx) (ρ0:Nat→Loc) (w0:World),cx.ok P→(r=none∨rd)→ROk r cx ρ0→(∀ k,YOk P ρ0 X w0 cx.fx k (cx.y k)) →
  ∀ (Q:Exit→Act→World→Prop) (Nn:St→Prop) (Xx:Nat→St→Prop) (Rr:St→Prop),¬LetsOut Q →
   (∀ s a w,Nn s→Good ρ0 X w0 cx.fx N s a w→Q .normal a w)→(∀ j s a w,Xx j s→Good ρ0 X w0 cx.fx N s a w→Q (.exit j) a w)→(∀ s a w,Rr s→Good ρ0 X w0 cx.fx N s a w→Q .ret a w) →
   ∀ s a w,A cx Nn Xx Rr s→Good ρ0 X w0 cx.fx N s a w→c.wpIn (FR r) 0 P Q a w
def acV (P:Program) (X:Nat→Prop) (N:Nat) (c:Code):Prop :=
 ∀ (l0 l:LCode),rlC P N c l0=some l→Tz P X N c (dK c=true∧gF l=true) (fun cx=>aw cx l)
theorem rR {ρ0:Nat→Loc} {w0:World} {fx:List Nat} {k:Nat}:YOk P ρ0 X w0 fx k (fun _ _ _=>False):=fun _ _ _ _ _ _ _ _ _ _ _ _ h=>h.elim
theorem Good.rcd [DBase] {ρ0:Nat→Loc} {w0:World} {fx:List Nat} {s:St} {a:Act} {w:World} {k:Nat} {t t':RS} {e:Env} (hg:Good ρ0 X w0 fx N s a w) (hk:k∈fx) (hb:s.h[k]?=some (.rcd t e)) (hreal:(ρ0 k).real=true) {o:Obj}
  (ho:Eh (w.putObj (ρ0 k).blk o) (ρ0 k) t'):Good ρ0 X w0 fx N { s with h:=s.h.set k (.rcd t' e) } a (w.putObj (ρ0 k).blk o):=by
 obtain ⟨ρ,⟨⟨hf,h1⟩,hkp⟩,⟨hr,he⟩,h5,h5m⟩:=hg
 have hρ:=h1 k hk
 rw [←hρ] at ho hreal ⊢
 have hf1:=nX (w:=w) hreal o
 refine ⟨ρ,⟨⟨hf.trans hf1,h1⟩,bG hkp (bQ (by simp))⟩,⟨Eg hr hb hreal ho,bF hf1 (fun _ _=>rfl) he⟩,h5,h5m.fr hf1⟩
theorem Sy {asg body:Code} {rda rdb:Prop} {Aa Ab:Cx→(St→Prop)→(Nat→St→Prop)→(St→Prop)→St→Prop} (ha:Tz P X N asg rda Aa) (hb:Tz P X N body rdb Ab) (hra:rda) (hrb:rdb)
  {cx:Cx} (hcx:cx.ok P) {ρ1:Nat→Loc} {w1:World} {n:Nat} {fx:List Nat} (hcf:cx.fx=fx) {lp:Loop} {l:Nat} (hn:ρ1 n=⟨true,l,0,0,0,lp⟩) {ps:Array Tmp} (hlp:lp.params=ps∧lp.assign=asg∧lp.body=body)
  (hps:∀ p∈ps.toList,p<N) (hsz:lp.tmps.size=N) :
  YOk P ρ1 X w1 (n::fx) n (fun xs sI K=>vM sI.h n fun t e=>t=.ready∧xs.length=ps.toList.length ∧
     Aa { cx with fx:=sI.h.length::n::cx.fx,y:=fun _ _ _ _=>False,rk:=some n }
      (Bv n fun s1=>Ab { cx with fx:=sI.h.length::n::cx.fx,y:=fun _ _ _ _=>False,rk:=some n }
       (fT n sI.h.length sI.b K true .ready) (fun j=>fT n sI.h.length sI.b K false (.out (some j))) (fT n sI.h.length sI.b K false (.out none)) s1)
      (fun _ _=>False) (fun _=>False) ⟨fF ps.toList xs e,sI.h++[.rcd .ghost sI.e],sI.b⟩):=by
 letI:DBase:=⟨[]⟩
 subst hcf
 intro ρ w s tmps xs vals K hfr hkp hr he hx h
 obtain ⟨t,e,hbn,rfl,hlen,h⟩:=nW h
 have hρn:ρ n=⟨true,l,0,0,0,lp⟩:=(hfr.2 n yag).trans hn
 have hB:=hr.blk n _ hbn
 simp only [bE,hρn] at hB
 have hl:w.heap[l]?=some (.loop { lp with state:=.ready,pending:=none }):=hB.1.2
 have hnl:n<s.h.length:=(yaf.1 hbn).1
 have hvl:=cZ hx
 rw [hρn]
 have hy:=run_yield (P:=P) (args:=vals.toArray) hl (by simp [hlp.1];simpa [←hvl] using hlen)
 refine ⟨_,_,_,_,hy,?_⟩
 simp only [hlp.2.1,hlp.2.2]
 -- what is kept of the iterator's frame
 obtain ⟨ρ2,f2,f2',o2,ag2,hr2,ht2⟩:=Tf hr he
 have hρ2n:ρ2 n=⟨true,l,0,0,0,lp⟩:=by rw [o2 n (by omega)];exact hρn
 have hzip:(Array.zip lp.params vals.toArray).foldl (fun tmps (t,a)=>tmps.setIfInBounds t a) lp.tmps=(ps.toList.zip vals).foldl (fun t (p,v)=>t.setIfInBounds p v) lp.tmps:=by
  rw [hlp.1,←Array.foldl_toList];simp [Array.toList_zip]
 show RoundIn Fence.wide 0 P l lp.fn ((Array.zip lp.params vals.toArray).foldl (fun tmps (t,a)=>tmps.setIfInBounds t a) lp.tmps) asg body w _
 rw [hzip]
 refine roundIn_of_wpIn trivial ?_
 have hgood:Good ρ2 X w (s.h.length::n::cx.fx) N ⟨fF ps.toList xs e,s.h++[.rcd .ghost s.e],s.b⟩ { tmps:=(ps.toList.zip vals).foldl (fun t (p,v)=>t.setIfInBounds p v) lp.tmps,defers:=[] } w:=by
  refine ⟨ρ2,⟨⟨Fr.refl _ _,fun _ _=>rfl⟩,dP fun j hj=>?_⟩,⟨hr2,?_⟩,?_,Marks.nil⟩
  ·rcases yam.1 hj with rfl|hj
   ·simp [aC]
   ·have:=bB hkp j hj
    unfold aC at this ⊢
    cases hb:s.h[j]? with
    | none=>rw [hb] at this;exact this.elim
    | some B=>rw [yal (yaf.1 hb).1,hb];rw [hb] at this;exact this
  ·refine Hq _ _ _ _ _ (fun p hp=>by rw [hsz];exact hps p hp) hlen (eG f2 ag2 _ _ hx) (bF f2 ag2 hB.2)
  ·rw [Fm];exact hsz
 have hcx':Cx.ok { cx with fx:=s.h.length::n::cx.fx,y:=fun _ _ _ _=>False,rk:=some n } P:=hcx
 have hro:ROk (some l) { cx with fx:=s.h.length::n::cx.fx,y:=fun _ _ _ _=>False,rk:=some n } ρ2:=⟨by simp,by rw [hρ2n]⟩
 have hgo:∀ (b:Bool) (t':RS) (j:Option Code) (s2:St) (a2:Act) (w2:World),fT n s.h.length s.b K b t' s2→Good ρ2 X w (s.h.length::n::cx.fx) N s2 a2 w2 →
   (∀ w',w'.heap[l]?=some (.loop { lp with state:=if j.isNone then .ready else .done,pending:=j })→Eh w' ⟨true,l,0,0,0,lp⟩ t')→t'≠.ghost→b=j.isNone →
   ∃ v w',(Instr.endRound l j).run P w2=.ok v w'∧∃ val,Ending.returned v=.returned val∧oM (n::cx.fx) [] ρ X w tmps K val w':=by
  intro b t' j s2 a2 w2 hend hg2 hrec hgh hbj
  obtain ⟨t2,e2,hb2,rfl,hend⟩:=nW hend
  obtain ⟨t3,eI,hb3,rfl,hK⟩:=nW hend
  have hg2':=hg2
  obtain ⟨ρ3,⟨⟨g1,g2⟩,g3⟩,⟨g4,g5⟩,g6⟩:=hg2
  have h3n:ρ3 n=⟨true,l,0,0,0,lp⟩:=(g2 n (by simp)).trans hρ2n
  have hB2:=g4.blk n _ hb2
  simp only [bE,h3n] at hB2
  have hl2:w2.heap[l]?=some (.loop { lp with state:=.busy,pending:=none }):=hB2.1.2
  have hrun:=run_endRound (P:=P) j hl2
  refine ⟨_,_,hrun,_,rfl,?_⟩
  have hput:∀ o:Obj,(w2.putObj (ρ3 n).blk o).heap[(ρ3 n).blk]?=some o:=fun o=>Mk (by rw [h3n]) g4 o
  have hwb:(ρ3 n).blk=l:=by rw [h3n]
  generalize ho:Obj.loop { ({ lp with state:=.busy,pending:=none }:Loop) with state:=if j.isNone then .ready else .done,pending:=j }=o
  have hf3:Fr ρ3 w2 ρ3 (w2.putObj l o):=by have:=nX (w:=w2) (k:=n) (ρ:=ρ3) (by rw [h3n]) o;rwa [hwb] at this
  have hr3:Rep ρ3 X (w2.putObj l o) (s2.h.set n (.rcd t' e2)):=by
   have:=Eg g4 hb2 (by rw [h3n]) (o:=o) (t':=t') (by
    rw [h3n];exact hrec _ (by have:=hput o;rw [hwb] at this;rw [this,←ho]))
   rwa [hwb] at this
  have hne:s.h.length≠n:=by omega
  have hb3':(s2.h.set n (.rcd t' e2))[s.h.length]?=some (.rcd .ghost eI):=by rw [yah (Ne.symm hne)];exact hb3
  have hBg:=hr3.blk _ _ hb3'
  simp only [bE] at hBg
  have h3g:ρ3 s.h.length=ρ2 s.h.length:=g2 _ (by simp)
  have hdead:Rep ρ3 X (w2.putObj l o) ((s2.h.set n (.rcd t' e2)).set s.h.length .dead):=by
   refine ⟨hr3.inj,fun k hk=>hr3.out k (by simpa using hk),fun k B hB=>?_,hr3.disj,hr3.lt,hr3.xlt⟩
   by_cases hkn:k=s.h.length
   ·subst hkn
    rw [yao (yaf.1 hb3').1] at hB
    simp only [yaa] at hB
    subst hB
    exact hBg.1
   ·rw [yah (Ne.symm hkn)] at hB
    exact hr3.blk k B hB
  subst hbj
  refine ⟨.b j.isNone,_,ρ3,hK,⟨dP fun k hk=>?_,fun k hk=>?_,fun k hk=>by simp at hk⟩,(f2.trans g1).trans hf3,hdead,?_,rfl⟩
  ·have hlk:=bB g3 k (yae _ hk)
   have hkl:=bB hkp k hk
   have hks:k≠s.h.length:=by
    intro e
    unfold aC at hkl
    rw [e,yaw (yad _)] at hkl
    exact hkl
   have:=bQ (B:=Blk.rcd t' e2) (k:=n) (by simp) k hlk
   unfold aC at this ⊢
   rw [yah (Ne.symm hks)]
   exact this
  ·have hkl:=bB hkp k hk
   have hks:k≠s.h.length:=by
    intro e
    unfold aC at hkl
    rw [e,yaw (yad _)] at hkl
    exact hkl
   rw [g2 k (yae _ hk),o2 k hks]
  ·have:=hBg.2
   rw [h3g,ht2] at this
   exact this
 refine ha (some l) _ ρ2 w hcx' (.inr hra) hro (fun _=>rR) _ _ _ _ (fun ⟨a,w,hq⟩=>hq) ?_ (fun _ _ _ _ h _=>h.elim) (fun _ _ _ h _=>h.elim) _ _ _ h hgood
 intro s1 a1 wA hbeg hg1
 obtain ⟨t1,e1,hb1,rfl,hbody⟩:=nW hbeg
 have hl1:wA.heap[l]?=some (.loop { lp with state:=.ready,pending:=none }):=by
  obtain ⟨ρ3,⟨⟨g1,g2⟩,g3⟩,⟨g4,g5⟩,g6⟩:=hg1
  have h3n:ρ3 n=⟨true,l,0,0,0,lp⟩:=(g2 n (by simp)).trans hρ2n
  have hB2:=g4.blk n _ hb1
  simp only [bE,h3n] at hB2
  exact hB2.1.2
 refine ⟨_,run_beginRound hl1 rfl,?_⟩
 have hlt:l<wA.heap.size:=(yax.1 hl1).1
 have hgB:=hg1.rcd (t':=.busy) (k:=n) (by simp) hb1 (by rw [hρ2n]) (o:=.loop { lp with state:=.busy,pending:=none }) (by
  rw [hρ2n];exact ⟨⟨rfl,rfl,rfl⟩,World.putObj_heap_same hlt⟩)
 rw [hρ2n] at hgB
 refine hb (some l) _ ρ2 w hcx' (.inr hrb) hro (fun _=>rR) (roundPost P l _) _ _ _ (fun ⟨a,w,hq⟩=>hq) ?_ ?_ ?_ _ _ _ hbody hgB
 ·intro s2 a2 w2 hend hg2
  exact hgo true .ready none s2 a2 w2 hend hg2 (fun w' hw'=>⟨⟨rfl,rfl,rfl⟩,hw'⟩) (by simp) rfl
 ·intro j s2 a2 w2 hend hg2
  exact hgo false (.out (some j)) (some (.exit j)) s2 a2 w2 hend hg2 (fun w' hw'=>⟨⟨rfl,rfl,rfl⟩,hw'⟩) (by simp) rfl
 ·intro s2 a2 w2 hend hg2
  exact hgo false (.out none) (some .ret) s2 a2 w2 hend hg2 (fun w' hw'=>⟨⟨rfl,rfl,rfl⟩,hw'⟩) (by simp) rfl
end
end Go.Fx
namespace Go.Fx
open Go.RowKit
section
variable {P:Program} {X:Nat→Prop} {N:Nat}
theorem aaT {g:Operand} {ps:Array Tmp} {asg body:Code} {rda rdb:Prop} {Aa Ab:Cx→(St→Prop)→(Nat→St→Prop)→(St→Prop)→St→Prop} (ha:Tz P X N asg rda Aa) (hb:Tz P X N body rdb Ab) (hra:rda) (hrb:rdb)
  (hps':∀ p∈ps.toList,p<N):Tz P X N (.rangeFunc g ps asg body) True (fun cx Nn Xx Rr s =>
  match ev s.e g with
  | .clo gf caps=>v6 cx.rk s.h∧cx.it gf (.itr s.h.length::caps) (s.h.length::cx.fx) s.h.length
    (fun xs sI K=>vM sI.h s.h.length fun t e=>t=.ready∧xs.length=ps.toList.length ∧
     Aa { cx with fx:=sI.h.length::s.h.length::cx.fx,y:=fun _ _ _ _=>False,rk:=some s.h.length }
      (Bv s.h.length fun s1=>Ab { cx with fx:=sI.h.length::s.h.length::cx.fx,y:=fun _ _ _ _=>False,rk:=some s.h.length }
       (fT s.h.length sI.h.length sI.b K true .ready) (fun j=>fT s.h.length sI.h.length sI.b K false (.out (some j))) (fT s.h.length sI.h.length sI.b K false (.out none)) s1)
      (fun _ _=>False) (fun _=>False) ⟨fF ps.toList xs e,sI.h++[.rcd .ghost sI.e],sI.b⟩)
    (s.h++[.rcd .ready s.e]) (Fw s.h.length Nn Xx Rr)
  | _=>False):=by
 intro _ r cx ρ0 w0 hcx hrd hro hy Q Nn Xx Rr hQo hN hX hR s a w h hg
 split at h
 ·rename_i gf caps hev
  obtain ⟨hrk,hit⟩:=h
  obtain ⟨hcall,hiter⟩:=hcx.2 _ _ _ _ _ _ _ hit
  obtain ⟨ρ,⟨⟨hf,hfx⟩,hkp⟩,⟨hr,he⟩,hsz,hM⟩:=hg
  have hgv:=aT he g
  rw [hev] at hgv
  obtain ⟨arr,hgv,hcaps⟩:=hgv
  have hrd0:∀ l0,r=some l0→∃ r0,w.heap[l0]?=some (.loop r0):=by
   rintro l0 rfl
   unfold ROk at hro
   split at hro
   ·rename_i h1 _;cases h1
   ·rename_i l1 k h1 h2
    simp only [yaa] at h1
    subst h1
    rw [h2] at hrk
    obtain ⟨t,e,hb1,rfl⟩:=nW hrk
    have hB:=hr.blk k _ hb1
    simp only [bE] at hB
    rw [hfx k hro.1] at hB
    exact ⟨_,by rw [←hro.2];exact hB.1.2⟩
   ·exact hro.elim
  refine wpIn_rangeFunc ?_
  intro fn _
  obtain ⟨l,mark,w1,lp,ρ1,hen,hlp,f1,o1,ag1,hr1,hn1,hM1⟩:=Yn hr hf.size hM r hrd0 fn a.tmps ps asg body he
  refine ⟨l,mark,w1,{ target:=.fn (.func gf) arr,args:=#[.func (.yield l) #[] #[]] },w1,gf,#[.func (.yield l) #[] #[]]++arr,w1,hen,?_,fun _ _=>trivial,?_,fun h=>(by cases h),?_⟩
  ·simp only [resolve,hgv]
   simp [go_sem]
  ·simp [invoke,go_sem,iO hcall]
  ·refine Sg ?_
   have hkp1:aD (s.h.length::cx.fx) (s.h++[.rcd .ready s.e]):=dP fun j hj=>by
    rcases yam.1 hj with rfl|hj
    ·simp [aC]
    ·have:=bB hkp j hj
     unfold aC at this ⊢
     cases hb:s.h[j]? with
     | none=>rw [hb] at this;exact this.elim
     | some B=>rw [yal (yaf.1 hb).1,hb];rw [hb] at this;exact this
   have hargs:bL ρ1 X w1 (.itr s.h.length::caps) ((Value.func (.yield l) #[] #[])::arr.toList):=⟨⟨by rw [hn1],by rw [hn1]⟩,eG f1 ag1 _ _ hcaps⟩
   have hyok:=Sy (w1:=w1) ha hb hra hrb hcx rfl hn1 ⟨hlp.2.2.1,hlp.2.2.2.1,hlp.2.2.2.2⟩ hps' (by rw [hlp.2.1];exact hsz)
   have hcalls:=hiter ρ1 X w1 _ hr1 hargs hkp1 hyok
   have hvals:((Value.func (.yield l) #[] #[])::arr.toList).toArray=#[.func (.yield l) #[] #[]]++arr:=by apply Array.ext';simp
   rw [hvals] at hcalls
   refine hcalls.mono ?_
   rintro e w2 ⟨val,h',ρ2,rfl,hK,⟨f2,hr2⟩,hfx2,hkp2⟩
   obtain ⟨t,e',hbn,⟨hwf1,hwf2⟩,hK⟩:=nW hK
   have h2n:ρ2 s.h.length=⟨true,l,0,0,0,lp⟩:=(hfx2 _ yag).trans hn1
   have hB:=hr2.blk _ _ hbn
   simp only [bE,h2n] at hB
   -- behind the iterator: the record is spent
   have fin:∀ (j:Option Code) (rr:Loop),w2.heap[l]?=some (.loop rr)→rr.state≠.busy→rr.pending=j →
     (Instr.endLoop l).run P w2=.ok j (w2.putObj l (.loop { rr with state:=.exhausted })) ∧
     Good ρ0 X w0 cx.fx N ⟨e',h'.set s.h.length .dead,0⟩ { a with defers:=mark++a.defers } (w2.putObj l (.loop { rr with state:=.exhausted })):=by
    intro j rr hrr hnb hj
    refine ⟨by rw [←hj];exact run_endLoop hrr hnb,?_⟩
    have hreal:(ρ2 s.h.length).real=true:=by rw [h2n]
    have hblk:(ρ2 s.h.length).blk=l:=by rw [h2n]
    have hf3:=nX (w:=w2) (k:=s.h.length) (ρ:=ρ2) hreal (.loop { rr with state:=.exhausted })
    have hr3:=Eg (t':=.gone) hr2 hbn hreal (o:=.loop { rr with state:=.exhausted }) (by
     rw [h2n];exact ⟨⟨rfl,rfl,rfl⟩,_,World.putObj_heap_same (yax.1 hrr).1⟩)
    rw [hblk] at hf3 hr3
    have hfx':∀ k∈cx.fx,k≠s.h.length:=by
     intro k hk e
     have:=bB hkp k hk
     unfold aC at this
     rw [e,yaw (yad _)] at this
     exact this
    have hkp3:aD cx.fx (h'.set s.h.length (.rcd .gone e')):=bG (dP fun k hk=>bB hkp2 k (yae _ hk)) (bQ (by simp))
    have hg3:Good ρ0 X w0 cx.fx N ⟨e',h'.set s.h.length (.rcd .gone e'),0⟩ { a with defers:=mark++a.defers } (w2.putObj l (.loop { rr with state:=.exhausted })):=by
     refine ⟨ρ2,⟨⟨hf.trans (f1.trans (f2.trans hf3)),fun k hk=>?_⟩,hkp3⟩,⟨hr3,?_⟩,hsz,(hM1.fr f2).fr hf3⟩
     ·rw [hfx2 k (yae _ hk),o1 k (hfx' k hk),hfx k hk]
     ·have:=bF hf3 (fun _ _=>rfl) hB.2
      rw [hlp.2.1] at this
      exact this
    refine hg3.leH (Mz _ _ _) ?_ hwf1 hwf2
    exact dP fun k hk=>by
     have:=bB hkp3 k hk
     unfold aC at this ⊢
     rw [yah (Ne.symm (hfx' k hk))] at this ⊢
     exact this
   cases t with
   | ready =>
    obtain ⟨h1,h2⟩:=fin none _ hB.1.2 (by simp) rfl
    exact ⟨none,_,h1,hN _ _ _ hK h2⟩
   | out j =>
    cases j with
    | none =>
     obtain ⟨h1,h2⟩:=fin (some .ret) _ hB.1.2 (by simp) rfl
     exact ⟨some .ret,_,h1,wpIn_ret (hR _ _ _ hK h2)⟩
    | some j =>
     obtain ⟨h1,h2⟩:=fin (some (.exit j)) _ hB.1.2 (by simp) rfl
     exact ⟨some (.exit j),_,h1,wpIn_exit (hX _ _ _ _ hK h2)⟩
   | ghost=>exact hK.elim
   | busy=>exact hK.elim
   | gone=>exact hK.elim
 ·exact h.elim
theorem afP {g:Operand} {ps:Array Tmp} {asg body:Code} (ha:acV P X N asg) (hb:acV P X N body):acV P X N (.rangeFunc g ps asg body):=by
 intro l0 l hm _ r cx ρ0 w0 hcx hrd hro hy Q Nn Xx Rr hQo hN hX hR s a w h hg
 cases l0 with
 | rfn g' ps' la0 lb0 =>
  simp only [rlC] at hm
  split at hm
  ·rename_i la lb hma hmb
   split at hm
   ·rename_i hc
    simp only [yac] at hc
    simp only [yaa] at hm
    subst hm
    obtain ⟨⟨hps,hcd⟩,hin⟩:=hc
    have hps':∀ p∈ps.toList,p<N:=fun p hp=>by simpa using yai.1 hps p hp
    exact aaT (ha la0 la hma) (hb lb0 lb hmb) ⟨(by simpa using hcd:_∧_).1,(by simpa using hin:_∧_).1⟩ ⟨(by simpa using hcd:_∧_).2,(by simpa using hin:_∧_).2⟩ hps' r cx ρ0 w0 hcx (hrd.imp id fun _=>trivial) hro hy Q Nn Xx Rr hQo hN hX hR s a w h hg
   ·cases hm
  ·cases hm
 | _=>simp [rlC] at hm
end
end Go.Fx
namespace Go.Fx
open Go.RowKit
section
variable {P:Program} {md:Region.Mode} {ops:Array Oper} {Q:Exit→Act→World→Prop} {Γ:Type} {G:Nat→Γ→World→Γ→World→Prop} {L:Array Bool→Act→World→Prop} {m:Nat}
def eW (P:Program) (md:Region.Mode) (ops:Array Oper) (Q:Exit→Act→World→Prop) (L:Array Bool→Act→World→Prop) (G:Nat→Γ→World→Γ→World→Prop):Nat→Array Bool→Γ→Act→World→Prop
 | 0,listed,_,a,w=>L listed a w
 | fuel+1,listed,g,a,w =>
  Region.ready md ops listed≠[] ∧
  ∀ i∈Region.ready md ops listed,wpOp P ops Q i (fun a' w'=>∃ g',G i g w g' w'∧eW P md ops Q L G fuel (listed.setIfInBounds i true) g' a' w') a w
theorem Bz (hQ:¬LetsOut Q) {n:Nat} (hL:∀ listed a w,L listed a w→wpAnyIn (FR none) 0 P md ops Q n listed a w):∀ (fuel:Nat) (listed:Array Bool) (g:Γ) (a:Act) (w:World),
  eW P md ops Q L G fuel listed g a w→wpAnyIn (FR none) 0 P md ops Q (fuel+n) listed a w
 | 0,listed,_,a,w,h=>by rw [yap];exact hL _ _ _ h
 | f+1,listed,g,a,w,h=>by
  rw [show f+1+n=(f+n)+1 by omega]
  exact ⟨fun h0=>absurd h0 h.1,fun i hi=>wpOpIn_mono (fun a' w' ⟨g',_,h'⟩=>Bz hQ hL f _ g' a' w' h') (afW (.inl rfl) hQ (h.2 i hi))⟩
theorem Jl {g g2:Γ} {w:World} (h:∀ i g' w',G i g2 w g' w'→G i g w g' w'):∀ (fuel:Nat) (listed:Array Bool) (a:Act),eW P md ops Q L G fuel listed g2 a w→eW P md ops Q L G fuel listed g a w
 | 0,_,_,hh=>hh
 | _+1,_,_,hh=>⟨hh.1,fun i hi=>wpOp_mono (fun _ w' ⟨g',h1,h2⟩=>⟨g',h i g' w' h1,h2⟩) (hh.2 i hi)⟩
theorem mH (hL:∀ listed a w,L listed a w→Region.ready md ops listed=[m]) {i:Nat} {oi:Oper} {v:Value} (hi:ops[i]?=some oi) (hsel:∀ (j:Nat) (o:Oper) cs b,ops[j]?=some o→o.op≠.select cs b)
  (hQ:∀ c a w,Q (.panic c) (a.put oi.dst v) w→Q (.panic c) a w) {D:Nat→Prop} (hmD:D m) (hD:∀ j oj,D j→ops[j]?=some oj→∃ e∈oj.after,Region.binds md e=true∧(e.on=i∨D e.on))
  {Inv:Γ→World→Prop} (hGi:∀ g w,Inv g w→G i g w g w) :
  ∀ (fuel:Nat) (listed:Array Bool) (g:Γ) (a:Act) (w:World),
   (∀ j oj,ops[j]?=some oj→j≠i→listed.getD j true=false→(∀ e∈oj.after,Region.binds md e=true→e.on≠i)→oi.apart ops oj=true) →
   (∀ j,D j→listed.getD j false=false) →
   (∀ j oj,ops[j]?=some oj→j≠i→¬D j→listed.getD j true=false→∀ g w g' w',G j g w g' w'→Inv g w→Inv g' w') →
   i∈Region.ready md ops listed→YieldsIf P ops (fun w=>∃ g,Inv g w) oi v a→Inv g w →
   eW P md ops Q L G fuel (listed.setIfInBounds i true) g (a.put oi.dst v) w→eW P md ops Q L G (fuel+1) listed g a w:=by
 intro fuel
 induction fuel with
 | zero =>
  intro listed g a w hfree hun _ hr hy hS H
  refine ⟨fun h=>(by rw [h] at hr;cases hr),fun j hj=>?_⟩
  by_cases hji:j=i
  ·subst hji;exact hy.wpOp hi ⟨g,hS⟩ ⟨g,hGi g w hS,H⟩
  ·exfalso
   have hjm:=ready_mono hj hji
   rw [hL _ _ _ H] at hjm
   obtain rfl:j=m:=by simpa using hjm
   obtain ⟨hjun,oj,hoj,hall⟩:=mem_ready.1 hj
   have hiun:listed.getD i false=false:=by
    have h0:=(mem_ready.1 hr).1
    rcases yaq i listed.size with h'|h'
    ·simpa [h'] using h0
    ·simp [yaC h']
   obtain ⟨e,he,hb,h2⟩:=hD j oj hmD hoj
   have h3:=hall e he hb
   rcases h2 with h2|h2
   ·rw [h2,hiun] at h3;cases h3
   ·rw [hun _ h2] at h3;cases h3
 | succ fuel ih =>
  intro listed g a w hfree hun hinv hr hy hS H
  refine ⟨fun h=>(by rw [h] at hr;cases hr),fun j hj=>?_⟩
  by_cases hji:j=i
  ·subst hji;exact hy.wpOp hi ⟨g,hS⟩ ⟨g,hGi g w hS,H⟩
  ·have h1:=H.2 j (ready_mono hj hji)
   obtain ⟨hjun,oj,hoj,hall⟩:=mem_ready.1 hj
   have hiun:listed.getD i false=false:=by
    have h0:=(mem_ready.1 hr).1
    rcases yaq i listed.size with h'|h'
    ·simpa [h'] using h0
    ·simp [yaC h']
   have hnot:∀ e∈oj.after,Region.binds md e=true→e.on≠i:=fun e he hb heq=>by
    have h1:=hall e he hb
    rw [heq,hiun] at h1
    cases h1
   have hnD:¬D j:=fun hd=>by
    obtain ⟨e,he,hb,h2⟩:=hD j oj hd hoj
    have h3:=hall e he hb
    rcases h2 with h2|h2
    ·rw [h2,hiun] at h3;cases h3
    ·rw [hun _ h2] at h3;cases h3
   have h2:=wpOp_putIf hoj (hfree j oj hoj hji hjun hnot) (fun cs b=>hsel i oi cs b hi) (fun cs b=>hsel j oj cs b hoj) hQ hy h1
   have hset:∀ k,(listed.setIfInBounds j true).getD k true=false→listed.getD k true=false:=fun k hk=>by
    by_cases hjk:j=k
    ·subst hjk;exact hjun
    ·rw [getD_set_ne true hjk] at hk;exact hk
   have hfree':∀ k ok,ops[k]?=some ok→k≠i→(listed.setIfInBounds j true).getD k true=false →
     (∀ e∈ok.after,Region.binds md e=true→e.on≠i)→oi.apart ops ok=true:=fun k ok hk hki hu hno=>hfree k ok hk hki (hset k hu) hno
   have hun':∀ k,D k→(listed.setIfInBounds j true).getD k false=false:=fun k hk=>by
    have hne:j≠k:=fun e=>hnD (e▸hk)
    rw [getD_set_ne false hne]
    exact hun k hk
   refine wpOp_mono (fun a' w' h3=>?_) h2
   obtain ⟨hy',g',hG,h4⟩:=h3
   refine ⟨g',hG,ih (listed.setIfInBounds j true) g' a' w' hfree' hun' (fun k ok hok hki hkD hku=>hinv k ok hok hki hkD (hset k hku)) (ready_mono hr (Ne.symm hji)) hy' (hinv j oj hoj hji hnD hjun _ _ _ _ hG hS) ?_⟩
   rw [Array.setIfInBounds_comm _ _ hji]
   exact h4
end
section
variable [DBase] {P:Program} {ρ0:Nat→Loc} {X:Nat→Prop} {w0:World} {fx:List Nat} {N:Nat} {L:Array Bool→Act→World→Prop} {m:Nat}
theorem Ob {cx:Cx} {ops:Array Oper} (hLT:∀ listed a w,L listed a w→Region.ready .any ops listed=[m]) {rs:Nat→Bool} (hs:Region.noSelect ops=true) {Q:Exit→Act→World→Prop} (hQp:∀ c a w,¬Q (.panic c) a w) {i:Nat} {o:Oper} {l0 op:LOp} {g:Option (Nat × Bool)} (ho:ops[i]?=some o)
  (hm:rl P o.op l0=some op) (hg:gOk ops N o.guard=some g) (hd:dOk N o.dst=true) {listed:Array Bool} {D:List Nat} (hok:y8 ops rs listed i D op=true) (hmD:m∈D)
  {bn:List Nat} {B:Nat→Prop} {ρ:Nat→Loc} {s:St} {a:Act} {w:World} (hB:BI ρ B bn w)
  (hG:GoodAt ρ0 X w0 fx N ρ s a w) {K:St→Prop} {fuel:Nat} (h:rQ cx ⟨o.dst,op,g⟩ s K)
  (hZ:∀ B' s' a',K s'→BI ρ B' (rdB op s.e bn) w→GoodAt ρ0 X w0 fx N ρ s' a' w→eW P .any ops Q L (GR rs) fuel (listed.setIfInBounds i true) (ρ,B') a' w) :
  eW P .any ops Q L (GR rs) (fuel+1) listed (ρ,B) a w:=by
 obtain ⟨hpre,⟨hrep,he⟩,hN,hdf⟩:=hG
 have hd':∀ n,o.dst=some n→n<N:=fun n hn=>by simpa [dOk,hn] using hd
 simp only [y8,yac] at hok
 obtain ⟨⟨⟨hready,hfree⟩,hq⟩,hDl,hres⟩:=hok
 have hready':i∈Region.ready .any ops listed:=by simpa using hready
 have hfr:=Region.free_spec (md:=.any) ho hfree
 have hDc:∀ j oj,j∈D→ops[j]?=some oj→∃ e∈oj.after,Region.binds .any e=true∧(e.on=i∨e.on∈D):=by
  intro j oj hj hoj
  have:=yai.1 hDl j hj
  simp only [hoj,yac] at this
  obtain ⟨e,he,hb⟩:=Array.any_eq_true'.1 this.2
  simp only [yac,Bool.or_eq_true,beq_iff_eq,yay] at hb
  exact ⟨e,he,hb.1,hb.2⟩
 have hDu:∀ j,j∈D→listed.getD j false=false:=by
  intro j hj
  have:=yai.1 hDl j hj
  simp only [yac,yaz] at this
  exact this.1
 have hsel:=Region.noSelect_spec hs
 have free:∀ (v:Value) (B':Nat→Prop),(YieldsIf P ops (fun _=>True) o v a)→eW P .any ops Q L (GR rs) fuel (listed.setIfInBounds i true) (ρ,B') (a.put o.dst v) w→eW P .any ops Q L (GR rs) (fuel+1) listed (ρ,B') a w:=by
  intro v B' hy hh
  exact mH (D:=(·∈D)) hLT ho hsel (fun c a w h=>(hQp _ _ _ h).elim) hmD hDc (Inv:=fun _ _=>True) (fun g w _=>GR.refl _ _ _ _) fuel listed _ a w hfr hDu (fun _ _ _ _ _ _ _ _ _ _ _ _=>trivial) hready' (hy.imp (fun ⟨h1,h2⟩=>⟨h1,fun w _=>h2 w trivial⟩) id) trivial hh
 rcases fB hN hg he h with ⟨hw,e',hEB,he',h'⟩|⟨hw,e',_,he',h'⟩
 ·obtain ⟨x,val,h1,h2,h3⟩:=Ej (s:={ s with e:=e' }) hq hm hrep he' h'
  have hh:(St.put { s with e:=e' } o.dst x).h=s.h:=by cases o.dst<;>rfl
  have hgood:GoodAt ρ0 X w0 fx N ρ (St.put { s with e:=e' } o.dst x) (a.put o.dst val) w :=
   ⟨⟨hpre.1,by rw [hh];exact hpre.2⟩,⟨by rw [hh];exact hrep,eJ (e:=e') he' h2 (fun n hn=>by rw [hN];exact hd' n hn) _ rfl⟩,by rw [size_put];exact hN,by cases o.dst<;>exact hdf⟩
  by_cases hL:lH op=true
  ·have hres':∀ j,j≠i→j∉D→listed.getD j true=false→j<ops.size→rs j=true:=by
    intro j hji hjD hjl hlt
    simp only [hL,Bool.not_true,Bool.false_or] at hres
    have:=yai.1 hres j (by simpa using hlt)
    simp only [Bool.or_eq_true,beq_iff_eq,hji,false_or,yay,hjD,hjl,Bool.false_eq_true] at this
    exact this
   cases op with
   | load n p =>
    have hpv:=aT he' p
    cases hp:ev e' p with
    | ptr k ix f =>
     rw [hp] at hpv
     have hreal:=hpv.1
     have hlt:=hrep.lt k hreal
     have hrd:rdB (.load n p) s.e bn=k::bn:=by
      have:ev s.e p=.ptr k ix f:=by
       rcases Dd hEB p with h4|⟨b,h4⟩
       ·rw [←h4];exact hp
       ·rw [h4] at hp;cases hp
      simp only [rdB,this]
     have hB':BI ρ (fun b=>B b∨b=(ρ k).blk) (rdB (.load n p) s.e bn) w:=by
      rw [hrd]
      rintro b (hb|rfl)
      ·exact ⟨(hB b hb).1,(hB b hb).2.imp (fun ⟨k',hk,hk'⟩=>⟨k',yae _ hk,hk'⟩) id⟩
      ·exact ⟨hlt,.inl ⟨k,yag,hreal,rfl⟩⟩
     refine Jl (g2:=(ρ,fun b=>B b∨b=(ρ k).blk)) (fun j g' w' hj=>⟨hj.1,fun hr=>⟨fun b hb=>(hj.2 hr).1 b (.inl hb),fun b hb=>(hj.2 hr).2 b (.inl hb)⟩⟩) _ _ _ ?_
     refine mH (D:=(·∈D)) hLT ho hsel (fun c a w h=>(hQp _ _ _ h).elim) hmD hDc (Inv:=Inv (ρ k).blk w.heap[(ρ k).blk]?) (fun g w _=>GR.refl _ _ _ _) fuel listed _ a w hfr hDu
      (fun j oj hoj hji hjD hjl g w g' w' hG hI=>Inv.step (hres' j hji hjD hjl (yax.1 hoj).1) hG hI) hready' ?_ ⟨⟨hlt,.inl (.inr rfl)⟩,rfl⟩ (hZ _ _ _ h1 hB' hgood)
     refine .inl ⟨hw,fun w' ⟨g,hI⟩=>h3 w' ?_⟩
     intro b hb
     rw [hp] at hb
     obtain ⟨_,rfl⟩:=hb
     exact fun _=>hI.2
    | rp sz els ix f =>
     have hrd:rdB (.load n p) s.e bn=bn:=by
      have:ev s.e p=.rp sz els ix f:=by
       rcases Dd hEB p with h4|⟨b,h4⟩
       ·rw [←h4];exact hp
       ·rw [h4] at hp;cases hp
      simp only [rdB,this]
     refine mH (D:=(·∈D)) hLT ho hsel (fun c a w h=>(hQp _ _ _ h).elim) hmD hDc (Inv:=fun g w'=>∀ b,b<w.heap.size→¬Own ρ b→(b<w'.heap.size∧¬Own g.1 b)∧w'.heap[b]?=w.heap[b]?) (fun g w _=>GR.refl _ _ _ _) fuel listed _ a w hfr hDu
      (fun j oj hoj hji hjD hjl g w1 g' w2 hG hI b hb1 hb2=>?_) hready' ?_ (fun b hb1 hb2=>⟨⟨hb1,hb2⟩,rfl⟩) (hZ _ _ _ h1 (by rw [hrd];exact hB) hgood)
     ·obtain ⟨⟨h4,h5⟩,h6⟩:=hI b hb1 hb2
      have h7:=hG.1.keep b h4 h5
      exact ⟨⟨yau h4 hG.1.size,h7.2⟩,h7.1.trans h6⟩
     ·refine .inl ⟨hw,fun w' ⟨g,hI⟩=>h3 w' ?_⟩
      intro b hb
      rw [hp] at hb
      exact fun _=>(hI b hb.1 hb.2).2
    | _=>exact absurd h' (by simp [aOp,hp,hJ])
   | _=>simp [lH] at hL
  ·have hL':lH op=false:=by simpa using hL
   have hrun:∀ w',(execOp a.eval o).run P w'=.ok (.value val) w':=fun w'=>h3 w' (by cases op<;>first|trivial|simp [lH] at hL')
   refine free val B (.inl ⟨hw,fun w' _=>hrun w'⟩) (hZ B _ _ h1 (by rw [Vy hL'];exact hB) hgood)
 ·have hh:(St.put { s with e:=e' } o.dst (.v (.tuple #[]))).h=s.h:=by cases o.dst<;>rfl
  have hgood:GoodAt ρ0 X w0 fx N ρ (St.put { s with e:=e' } o.dst (.v (.tuple #[]))) (a.put o.dst undef) w :=
   ⟨⟨hpre.1,by rw [hh];exact hpre.2⟩,⟨by rw [hh];exact hrep,eJ (e:=e') (x:=.v (.tuple #[])) (val:=undef) he' rfl (fun n hn=>by rw [hN];exact hd' n hn) _ rfl⟩,by rw [size_put];exact hN,by cases o.dst<;>exact hdf⟩
  have hB':BI ρ B (rdB op s.e bn) w:=fun b hb=>⟨(hB b hb).1,(hB b hb).2.imp (fun ⟨k,hk,hk'⟩=>⟨k,by
   unfold rdB
   split
   ·split
    ·exact yae _ hk
    ·exact hk
   ·exact hk,hk'⟩) id⟩
  exact free undef B (.inr ⟨hw,rfl⟩) (hZ B _ _ h' hB' hgood)
theorem Pu {cx:Cx} (hcx:cx.ok P) (hfxe:cx.fx=fx) {ops:Array Oper} {rs:Nat→Bool} (hs:Region.noSelect ops=true) {Q:Exit→Act→World→Prop} (hQp:∀ c a w,¬Q (.panic c) a w) {K:St→Prop}
  (hL:∀ listed a w,L listed a w→Region.ready .any ops listed=[m])
  (hQ:∀ listed s a w,K s→Good ρ0 X w0 fx N s a w→m<ops.size→Region.seqB .any ops (ops.size-m) m listed=true→L listed a w) :
  ∀ (p0 p:LPlan) (listed:Array Bool) (fuel:Nat) (rem:Option (List Nat)),vH P N ops rs m p0 listed fuel rem=some p→∀ (bn:List Nat) (B:Nat→Prop) (ρ:Nat→Loc) (s:St) (a:Act) (w:World),
   BI ρ B bn w→GoodAt ρ0 X w0 fx N ρ s a w→awP cx p bn K s →
   (rem=none→eW P .any ops Q L (GR rs) fuel listed (ρ,B) a w) ∧
   (∀ l,rem=some l→∀ i∈l,wpOp P ops Q i (fun a' w'=>∃ g',GR rs i (ρ,B) w g' w'∧eW P .any ops Q L (GR rs) (fuel-1) (listed.setIfInBounds i true) g' a' w') a w):=by
 intro p0
 induction p0 with
 | done =>
  intro p listed fuel rem hm bn B ρ s a w hB hG h
  cases rem with
  | some l=>simp [vH] at hm
  | none =>
   simp only [vH] at hm
   split at hm
   ·rename_i hr
    simp only [yaa] at hm
    subst hm
    obtain ⟨rfl,hr1,hr2⟩:=hr
    exact ⟨fun _=>hQ listed s a w h ⟨ρ,hG⟩ hr1 hr2,fun l hl=>by cases hl⟩
   ·cases hm
 | none =>
  intro p listed fuel rem hm bn B ρ s a w hB hG h
  cases rem with
  | none=>simp [vH] at hm
  | some l =>
   cases l with
   | nil=>exact ⟨fun h=>(by cases h),fun l hl i hi=>(by cases hl;simp at hi)⟩
   | cons _ _=>simp [vH] at hm
 | take i D l p ih =>
  intro p1 listed fuel rem hm bn B ρ s a w hB hG h
  cases rem with
  | some l=>cases fuel<;>simp [vH] at hm
  | none =>
   cases fuel with
   | zero=>simp [vH] at hm
   | succ fuel =>
    simp only [vH] at hm
    split at hm
    ·rename_i o ho
     split at hm
     ·rename_i op g p' h1 h2 h3 h4
      split at hm
      ·rename_i hok
       simp only [yaa] at hm
       subst hm
       simp only [yac,yay] at hok
       refine ⟨fun _=>?_,fun l hl=>by cases hl⟩
       refine Ob hL (cx:=cx) (K:=fun s'=>awP cx p' (rdB op s.e bn) K s') hs hQp ho h1 h2 h3 hok.1 hok.2 hB hG h ?_
       intro B' s' a' hK hB' hG'
       exact (ih p' _ _ _ h4 _ _ _ _ _ _ hB' hG' hK).1 rfl
      ·cases hm
     ·cases hm
    ·cases hm
 | alt i l r p q ihp ihq =>
  intro p1 listed fuel rem hm bn B ρ s a w hB hG h
  cases fuel with
  | zero=>cases rem<;>simp [vH] at hm
  | succ fuel =>
   simp only [vH] at hm
   split at hm
   ·rename_i j js o hrem ho
    split at hm
    ·rename_i op g p' q' h1 h2 h3 h4 h5
     split at hm
     ·rename_i hc
      obtain ⟨rfl,hr⟩:=hc
      simp only [yaa] at hm
      subst hm
      have hall:∀ i∈j::js,wpOp P ops Q i (fun a' w'=>∃ g',GR rs i (ρ,B) w g' w'∧eW P .any ops Q L (GR rs) fuel (listed.setIfInBounds i true) g' a' w') a w:=by
       intro i hi
       rcases yam.1 hi with rfl|hi
       ·refine Nv (K:=fun s'=>awP cx p' (if r then bn else []) K s') (Z:=fun g' a' w'=>eW P .any ops Q L (GR rs) fuel (listed.setIfInBounds i true) g' a' w') hcx hfxe ho h1 h2 h3 hr hB hG h.1 ?_
        intro ρ' B' s' a' w' hK hB' hG'
        exact (ihp p' _ _ _ h4 _ _ _ _ _ _ hB' hG' hK).1 rfl
       ·exact (ihq q' _ _ _ h5 _ _ _ _ _ _ hB hG h.2).2 js rfl i hi
      refine ⟨fun hn=>?_,fun l hl=>?_⟩
      ·subst hn
       simp only [Option.getD_none] at hrem
       exact ⟨fun h0=>(by rw [hrem] at h0;cases h0),by rw [hrem];exact hall⟩
      ·subst hl
       simp only [Option.getD_some] at hrem
       subst hrem
       exact hall
     ·cases hm
    ·cases hm
   ·cases hm
theorem Uf (hP:P.follows .mixedOrders=true) {cx:Cx} (hcx:cx.ok P) (hy:∀ k,YOk P ρ0 X w0 cx.fx k (cx.y k)) {ops:Array Oper} {id:Nat} {Q:Exit→Act→World→Prop} (hQo:¬LetsOut Q) {K:St→Prop}
  (hQ:∀ s a w,K s→Good ρ0 X w0 cx.fx N s a w→Q .normal a w) {p0 p:LPlan} {ls0 ls:List aH} {s:St} {a:Act} {w:World} (hm:afM P N ops p0 m=some p) (hmt:eP P ops N (ops.toList.drop m) ls0=some ls) (hlt:m<ops.size)
  (hg:Good ρ0 X w0 cx.fx N s a w) (h:awP cx p [] (fun s'=>aB cx ls s' K) s):(Code.region id ops true).wpIn (FR none) 0 P Q a w:=by
 unfold afM at hm
 split at hm
 ·rename_i hs
  refine wpIn_mono (Q:=uI Q) ?_ (fun e a w he=>?_)
  ·refine wpIn_region_any hP ?_
   obtain ⟨ρ,hG⟩:=Good.drew hg
   have hno:¬LetsOut (uI Q):=fun ⟨a,w,hq⟩=>hQo ⟨a,w,hq⟩
   have hdl:(ops.toList.drop m).length=ops.size-m:=by simp
   have:=Bz (P:=P) (md:=.any) (ops:=ops) (Q:=uI Q) (n:=ops.size-m) (G:=GR fun j=>!(Sx p0).contains j)
    (L:=fun listed a w=>(m<ops.size∧Region.seqB .any ops (ops.size-m) m listed=true)∧wpListIn (FR none) 0 P ops (uI Q) (ops.toList.drop m) a w) hno (fun listed a w hL=>by
     have:=pM (P:=P) (r:=none) (md:=.any) (Q:=uI Q) (ops.toList.drop m) m listed a w (fun j=>by simp [List.getElem?_drop]) (by rw [hdl];exact hL.1.2) hL.2
     rwa [hdl] at this) m _ _ _ _
    ((Pu (Q:=uI Q) (m:=m) hcx rfl hs (fun _ _ _ h=>h) (fun listed a w hL=>by
      obtain ⟨⟨h1,h2⟩,_⟩:=hL
      obtain ⟨q,hq⟩:∃ q,ops.size-m=q+1:=⟨ops.size-m-1,by omega⟩
      rw [hq] at h2
      simp only [Region.seqB,yac,decide_eq_true_eq] at h2
      exact h2.1) (fun listed s a w hK hg h1 h2=>⟨⟨h1,h2⟩,mG (Q:=uI Q) hcx hy (fun s a w hK hg=>hQ s a w hK hg) _ _ _ s a w hmt hg hK⟩) p0 p _ _ _ hm [] (fun _=>False) ρ s a _ (fun b hb=>hb.elim) hG h).1 rfl)
   rw [show m+(ops.size-m)=ops.size by omega] at this
   exact this
  ·cases e<;>first|exact he|exact he.elim
 ·cases hm
end
end Go.Fx
namespace Go.Fx
open Go.RowKit
section
variable {P:Program} {X:Nat→Prop} {N:Nat}
theorem ahB [DBase] {cx:Cx} {a:Act} {w:World} {K:St→Prop} {ρ0:Nat→Loc} {w0:World} (xs:List Nat) (s:St) (h:pV cx.fx xs s K) (hg:Good ρ0 X w0 cx.fx N s a w):∃ s',K s'∧Good ρ0 X w0 cx.fx N s' a w:=tU xs s h hg
theorem xG (hP:P.follows .mixedOrders=true):∀ c:Code,acV P X N c:=by
 intro c
 induction c with
 | skip =>
  intro l0 l hm _ r cx ρ0 w0 hcx hrd hro hy Q Nn Xx Rr hQo hN hX hR s a w h hg
  simp only [rlC,yaa] at hm
  subst hm
  exact wpIn_skip (hN s a w h hg)
 | ret =>
  intro l0 l hm _ r cx ρ0 w0 hcx hrd hro hy Q Nn Xx Rr hQo hN hX hR s a w h hg
  simp only [rlC,yaa] at hm
  subst hm
  exact wpIn_ret (hR s a w h hg)
 | label i =>
  intro l0 l hm _ r cx ρ0 w0 hcx hrd hro hy Q Nn Xx Rr hQo hN hX hR s a w h hg
  simp only [rlC,yaa] at hm
  subst hm
  exact wpIn_label (hN s a w h hg)
 | exit i =>
  intro l0 l hm _ r cx ρ0 w0 hcx hrd hro hy Q Nn Xx Rr hQo hN hX hR s a w h hg
  simp only [rlC,yaa] at hm
  subst hm
  exact wpIn_exit (hX i s a w h hg)
 | region id ops draw =>
  intro l0 l hm _ r cx ρ0 w0 hcx hrd hro hy Q Nn Xx Rr hQo hN hX hR s a w h hg
  have hd:r=none∨ops.toList.all e7=true:=hrd.imp (fun h=>h) fun h=>h.1
  simp only [rlC] at hm
  split at hm
  ·split at hm
   ·rename_i x hr
    simp only [yaa] at hm
    subst hm
    exact wpIn_region_list (Ez hQo _ (hd.imp (fun h=>h) fun h=>yai.1 h) _ _ (pN hcx rfl hN _ _ _ _ a w hr (hg.reserve _ _) h))
   ·cases hm
  ·split at hm
   ·rename_i x hr
    split at hm
    ·rename_i hc
     simp only [yac] at hc
     simp only [yaa] at hm
     subst hm
     rcases hrd with rfl|hrd
     ·exact (wpIn_wide (n:=0)).2 (Td hP hN hr hc.1 hc.2 (hg.reserve _ _) h)
     ·exact absurd hrd.2 (by simp [gF])
    ·cases hm
   ·cases hm
  ·split at hm
   ·rename_i x hr
    split at hm
    ·rename_i hc
     simp only [yac] at hc
     simp only [yaa] at hm
     subst hm
     rcases hrd with rfl|hrd
     ·exact (wpIn_wide (n:=0)).2 (Oc hP hcx rfl hN hr hc.1 hc.2 (hg.reserve _ _) h)
     ·exact absurd hrd.2 (by simp [gF])
    ·cases hm
   ·cases hm
  ·split at hm
   ·rename_i x hr
    simp only [yaa] at hm
    subst hm
    exact aaJ hP hcx hQo hN hd hr (hg.reserve _ _) h
   ·cases hm
  ·split at hm
   ·rename_i x hr
    split at hm
    ·rename_i hc
     simp only [yaa] at hm
     subst hm
     rcases hrd with rfl|hrd
     ·cases draw with
      | false=>exact wpIn_region_list (mG hcx hy hN _ _ _ _ a w hr (hg.reserve _ _) h)
      | true =>
       simp only [Bool.not_true,Bool.false_or,yac] at hc
       exact Zw hP hcx hy hQo hN hr hc.1 hc.2 (hg.reserve _ _) h
     ·exact absurd hrd.2 (by simp [gF])
    ·cases hm
   ·cases hm
  ·split at hm
   ·rename_i p' x hp hr
    split at hm
    ·rename_i hlt
     simp only [yaa] at hm
     subst hm
     rcases hrd with rfl|hrd
     ·exact Uf hP hcx hy hQo hN hp hr hlt (hg.reserve _ _) h
     ·exact absurd hrd.2 (by simp [gF])
    ·cases hm
   ·cases hm
  ·simp only [yaa] at hm
   subst hm
   exact h.elim
  ·cases hm
 | seq a b iha ihb =>
  intro l0 l hm _ r cx ρ0 w0 hcx hrd hro hy Q Nn Xx Rr hQo hN hX hR s ac w h hg
  simp only [rlC] at hm
  split at hm
  ·split at hm
   ·rename_i x' y' h1 h2
    simp only [yaa] at hm
    subst hm
    have hra:r=none∨(dK a=true∧gF x'=true):=hrd.imp (fun h=>h) fun h=>by simp only [dK,gF,yac] at h;exact ⟨h.1.1,h.2.1⟩
    have hrb:r=none∨(dK b=true∧gF y'=true):=hrd.imp (fun h=>h) fun h=>by simp only [dK,gF,yac] at h;exact ⟨h.1.2,h.2.2⟩
    refine wpIn_seq (iha _ _ h1 r cx ρ0 w0 hcx hra hro hy _ (fun s'=>aw cx y' Nn Xx Rr s') Xx Rr (gE hQo) ?_ ?_ ?_ s ac w h hg)
    ·intro s' a' w' h' hg'
     exact ihb _ _ h2 r cx ρ0 w0 hcx hrb hro hy Q Nn Xx Rr hQo hN hX hR s' a' w' h' hg'
    ·exact hX
    ·exact hR
   ·cases hm
  ·split at hm
   ·rename_i x' y' h1 h2
    simp only [yaa] at hm
    subst hm
    have hra:r=none∨(dK a=true∧gF x'=true):=hrd.imp (fun h=>h) fun h=>by simp only [dK,gF,yac] at h;exact ⟨h.1.1,h.2.1⟩
    have hrb:r=none∨(dK b=true∧gF y'=true):=hrd.imp (fun h=>h) fun h=>by simp only [dK,gF,yac] at h;exact ⟨h.1.2,h.2.2⟩
    simp only [aw] at h
    obtain ⟨s1,h,hg⟩:=ahB _ s h hg
    refine wpIn_seq (iha _ _ h1 r cx ρ0 w0 hcx hra hro hy _ (fun s'=>aw cx y' Nn Xx Rr s') Xx Rr (gE hQo) ?_ ?_ ?_ s1 ac w h hg)
    ·intro s' a' w' h' hg'
     exact ihb _ _ h2 r cx ρ0 w0 hcx hrb hro hy Q Nn Xx Rr hQo hN hX hR s' a' w' h' hg'
    ·exact hX
    ·exact hR
   ·cases hm
  ·simp only [yaa] at hm
   subst hm
   exact h.elim
  ·cases hm
 | cond c a b iha ihb =>
  intro l0 l hm _ r cx ρ0 w0 hcx hrd hro hy Q Nn Xx Rr hQo hN hX hR s ac w h hg
  simp only [rlC] at hm
  split at hm
  ·split at hm
   ·rename_i x' y' h1 h2
    simp only [yaa] at hm
    subst hm
    have hra:r=none∨(dK a=true∧gF x'=true):=hrd.imp (fun h=>h) fun h=>by simp only [dK,gF,yac] at h;exact ⟨h.1.1,h.2.1⟩
    have hrb:r=none∨(dK b=true∧gF y'=true):=hrd.imp (fun h=>h) fun h=>by simp only [dK,gF,yac] at h;exact ⟨h.1.2,h.2.2⟩
    simp only [aw] at h
    obtain ⟨t,ht,hA,hB⟩:=acK h
    have hev:ac.eval c=.bool t:=by
     obtain ⟨ρ,_,⟨_,he⟩,_⟩:=hg
     have:=aT he c
     rw [ht] at this
     exact this
    refine wpIn_cond hev ?_
    cases t
    ·exact ihb _ _ h2 r cx ρ0 w0 hcx hrb hro hy Q Nn Xx Rr hQo hN hX hR s ac w (hB rfl) hg
    ·exact iha _ _ h1 r cx ρ0 w0 hcx hra hro hy Q Nn Xx Rr hQo hN hX hR s ac w (hA rfl) hg
   ·cases hm
  ·cases hm
 | block i a iha =>
  intro l0 l hm _ r cx ρ0 w0 hcx hrd hro hy Q Nn Xx Rr hQo hN hX hR s ac w h hg
  simp only [rlC] at hm
  split at hm
  ·split at hm
   ·rename_i x' h1
    simp only [yaa] at hm
    subst hm
    refine wpIn_block (iha _ _ h1 r cx ρ0 w0 hcx hrd hro hy (Exit.inBlock i Q) Nn (fun j s'=>if j=i then Nn s' else Xx j s') Rr (fun ⟨a,w,hq⟩=>hQo ⟨a,w,hq⟩) ?_ ?_ ?_ s ac w h hg)
    ·exact hN
    ·intro j s' a' w' h' hg'
     show if j=i then _ else _
     split at h'
     ·rename_i hj;rw [if_pos hj];exact hN s' a' w' h' hg'
     ·rename_i hj;rw [if_neg hj];exact hX j s' a' w' h' hg'
    ·exact hR
   ·cases hm
  ·cases hm
 | loop a iha =>
  intro l0 l hm _ r cx ρ0 w0 hcx hrd hro hy Q Nn Xx Rr hQo hN hX hR s ac w h hg
  simp only [rlC] at hm
  split at hm
  ·split at hm
   ·rename_i x' h1
    simp only [yaa] at hm
    subst hm
    obtain ⟨G,pat,I,μ,L,hL,⟨g,hI,hle⟩,hround⟩:=h
    refine wpIn_loop_ghost (fun n a w=>∃ g,(I g∧μ g=n)∧Good ρ0 X w0 cx.fx N (pat g) a w) (μ g) ⟨g,⟨hI,rfl⟩,hg.leG hle⟩ ?_
    rintro n a' w' ⟨g',⟨hI',rfl⟩,hg'⟩
    refine iha _ _ h1 r cx ρ0 w0 hcx hrd hro hy _ _ Xx Rr (gE hQo) ?_ ?_ ?_ (pat g') a' w' (hround g' hI') hg'
    ·rintro s' a'' w'' ⟨g'',⟨hI'',hlt⟩,hle''⟩ hg''
     exact ⟨μ g'',hlt,g'',⟨hI'',rfl⟩,hg''.leG (hL _ _ hle'')⟩
    ·exact hX
    ·exact hR
   ·cases hm
  ·cases hm
 | rangeFunc g ps asg body iha ihb=>exact afP iha ihb
 | scope c ih =>
  intro l0 l hm _ r cx ρ0 w0 hcx hrd hro hy Q Nn Xx Rr hQo hN hX hR s a w h hg
  simp only [rlC] at hm
  rcases hrd with rfl|hrd
  ·exact (wpIn_wide (n:=0)).2 (wp_scope_straight ((wpIn_wide (n:=0)).1 (ih l0 l hm none cx ρ0 w0 hcx (.inl rfl) hro hy (Exit.noGoto Q) Nn Xx Rr (fun ⟨a,w,hq⟩=>hQo ⟨a,w,hq⟩) hN hX hR s a w h hg)))
  ·exact absurd hrd.1 (by simp [dK])
 | _=>intro l0 l hm;simp [rlC] at hm
end
end Go.Fx
namespace Go.Fx
open Go.RowKit
section
variable {X:Nat→Prop} {ρ:Nat→Loc} {w w':World}
mutual
theorem Jc {S S':Nat→Prop} (hS:∀ b,S b→S' b) (hc:∀ b o,w'.cell? ⟨b,o,none⟩=w.cell? ⟨b,o,none⟩):∀ (x:V) (val:Value),fO S w x val→fO S' w' x val
 | .v _,_,h=>h
 | .ro sz els,val,h=>by
  obtain ⟨a,len,cap,h1,h2,h3,h4,h5⟩:=h
  refine ⟨a,len,cap,h1,h2,h3,h4,h5.imp id ?_⟩
  rintro ⟨b,off,h6,h7,h8⟩
  exact ⟨b,off,h6,hS b h7,fW hS hc sz b off els h8⟩
 | .any,_,h|.bro _ _,_,h|.full _ _,_,h|.sl _ _ _,_,h|.ptr _ _ _,_,h|.rp _ _ _ _,_,h|.agg _,_,h|.tup _,_,h|.clo _ _,_,h|.mp _,_,h|.itr _,_,h=>h.elim
theorem fW {S S':Nat→Prop} (hS:∀ b,S b→S' b) (hc:∀ b o,w'.cell? ⟨b,o,none⟩=w.cell? ⟨b,o,none⟩) (sz b:Nat):∀ (off:Nat) (els:List (List V)),cP S w sz b off els→cP S' w' sz b off els
 | _,[],_=>trivial
 | off,e::r,h=>⟨⟨h.1.1,Gv hS hc b off e h.1.2⟩,fW hS hc sz b (off+sz) r h.2⟩
theorem Gv {S S':Nat→Prop} (hS:∀ b,S b→S' b) (hc:∀ b o,w'.cell? ⟨b,o,none⟩=w.cell? ⟨b,o,none⟩) (b:Nat):∀ (off:Nat) (cs:List V),iH S w b off cs→iH S' w' b off cs
 | _,[],_=>trivial
 | off,x::r,h=>⟨by obtain ⟨⟨val,h1,h2⟩,_⟩:=h;exact ⟨val,(hc b off).trans h1,Jc hS hc x val h2⟩,Gv hS hc b (off+1) r h.2⟩
end
mutual
theorem oO (hs:w'.heap.size=w.heap.size) (hc:∀ b o,w'.cell? ⟨b,o,none⟩=w.cell? ⟨b,o,none⟩):∀ (x:V) (val:Value),aX ρ X w x val→aX ρ X w' x val
 | .any,_,_=>trivial
 | .v _,_,h=>h
 | .ro sz els,val,h=>Jc (fun b hb=>⟨hs▸hb.1,hb.2⟩) hc (.ro sz els) val h
 | .bro sz els,val,h=>by
  obtain ⟨a,len,cap,h1,h2,h3,h4,h5⟩:=h
  refine ⟨a,len,cap,h1,h2,h3,h4,h5.imp id ?_⟩
  rintro ⟨b,off,h6,h7,h8⟩
  exact ⟨b,off,h6,⟨hs▸h7.1,h7.2⟩,fW (fun b hb=>⟨hs▸hb.1,hb.2⟩) hc sz b off els h8⟩
 | .full sz els,val,h=>by
  obtain ⟨a,len,h1,h2,h4,h5⟩:=h
  refine ⟨a,len,h1,h2,h4,h5.imp id ?_⟩
  rintro ⟨b,off,h6,h7,h8⟩
  exact ⟨b,off,h6,⟨hs▸h7.1,h7.2⟩,fW (fun b hb=>⟨hs▸hb.1,hb.2⟩) hc sz b off els h8⟩
 | .sl _ _ _,_,h=>h
 | .ptr _ _ _,_,h=>h
 | .rp sz els i f,val,h=>by
  obtain ⟨b,off,h6,h7,h8⟩:=h
  exact ⟨b,off,h6,⟨hs▸h7.1,h7.2⟩,fW (fun b hb=>⟨hs▸hb.1,hb.2⟩) hc sz b off els h8⟩
 | .agg cs,val,h=>by
  obtain ⟨arr,h1,h2⟩:=h
  exact ⟨arr,h1,i9 hs hc cs arr.toList h2⟩
 | .tup cs,val,h=>by
  obtain ⟨arr,h1,h2⟩:=h
  exact ⟨arr,h1,i9 hs hc cs arr.toList h2⟩
 | .clo f cs,val,h=>by
  obtain ⟨arr,h1,h2⟩:=h
  exact ⟨arr,h1,i9 hs hc cs arr.toList h2⟩
 | .mp _,_,h=>h
 | .itr _,_,h=>h
theorem i9 (hs:w'.heap.size=w.heap.size) (hc:∀ b o,w'.cell? ⟨b,o,none⟩=w.cell? ⟨b,o,none⟩):∀ (xs:List V) (vs:List Value),bL ρ X w xs vs→bL ρ X w' xs vs
 | [],[],_=>trivial
 | x::r,u::us,h=>⟨oO hs hc x u h.1,i9 hs hc r us h.2⟩
 | [],_::_,h=>h.elim
 | _::_,[],h=>h.elim
end
theorem Ub (hs:w'.heap.size=w.heap.size) (hc:∀ b o,w'.cell? ⟨b,o,none⟩=w.cell? ⟨b,o,none⟩) {k:Nat} (hb:(ρ k).real=true→w'.heap[(ρ k).blk]?=w.heap[(ρ k).blk]?) {B:Blk} (h:bE ρ X w k B):bE ρ X w' k B:=by
 cases B with
 | dead=>exact h
 | arr sz els =>
  refine ⟨h.1,h.2.imp id ?_⟩
  rintro ⟨h1,c,T,h2,h3,h4,h5⟩
  exact ⟨h1,c,T,(hb h1).trans h2,h3,h4,fW (fun b hb=>⟨hs▸hb.1,hb.2⟩) hc sz _ _ _ h5⟩
 | var cs =>
  obtain ⟨h1,c,T,h2,h3⟩:=h
  exact ⟨h1,c,T,(hb h1.1).trans h2,i9 hs hc _ _ h3.1,h3.2⟩
 | arv sz els =>
  obtain ⟨h0,h1,c,T,h2,h3,h4,h5⟩:=h
  refine ⟨h0,h1,c,T,(hb h1).trans h2,h3,h4,fun i e he=>⟨(h5 i e he).1,fun f x hx=>?_⟩⟩
  obtain ⟨u,h6,h7⟩:=(h5 i e he).2 f x hx
  exact ⟨u,h6,oO hs hc _ _ h7⟩
 | map es cl =>
  obtain ⟨h1,arr,h2,h3,h4⟩:=h
  exact ⟨h1,arr,(hb h1.1).trans h2,h3,i9 hs hc _ _ h4⟩
 | it m s sn l =>
  obtain ⟨h1,x,h2,h3⟩:=h
  exact ⟨h1,x,(hb h1.1).trans h2,oO hs hc _ _ h3⟩
 | rcd t e=>exact ⟨uS hb h.1,fun i=>oO hs hc _ _ (h.2 i)⟩
variable [DBase] {ρ0:Nat→Loc} {w0:World} {fx:List Nat} {N:Nat}
theorem Good.takeD {s:St} {a:Act} {w:World} {n:Nat} (hg:Good ρ0 X w0 fx N s a w) (hl:a.defers.length=n+1+DBase.ds.length) :
  ∃ D ds,a.defers=Eu D::ds∧w.heap[D]?=some (.deferred (some []))∧Good ρ0 X w0 fx N s { a with defers:=ds } (w.putObj D (.deferred none)):=by
 obtain ⟨ρ,⟨⟨hf,h1⟩,hk⟩,⟨hr,he⟩,h5,Ds,⟨hDs,hnd⟩,hM⟩:=hg
 cases Ds with
 | nil=>rw [hDs] at hl;simp at hl
 | cons D Ds =>
  obtain ⟨⟨g1,g2⟩,g3,g4⟩:=hM D yag
  refine ⟨D,_,hDs,g4,?_⟩
  have hoth:∀ b,b≠D→(w.putObj D (.deferred none)).heap[b]?=w.heap[b]?:=fun b hb=>World.putObj_heap_other hb
  have hs:(w.putObj D (.deferred none)).heap.size=w.heap.size:=World.putObj_size
  have hc:∀ b o,(w.putObj D (.deferred none)).cell? ⟨b,o,none⟩=w.cell? ⟨b,o,none⟩:=by
   intro b o
   by_cases hb:b=D
   ·subst hb
    simp [World.cell?,World.putObj_heap_same g2,g4]
   ·exact cell_of_heap (hoth b hb)
  have hown:∀ k,(ρ k).real=true→(ρ k).blk≠D:=fun k hk e=>g3 ⟨k,hk,e⟩
  refine ⟨ρ,⟨⟨⟨hf.os,hf.tape,hf.output,by rw [hs];exact hf.size,fun b hb ho=>⟨(hoth b (by omega)).trans (hf.keep b hb ho).1,(hf.keep b hb ho).2⟩⟩,h1⟩,hk⟩,
   ⟨⟨hr.inj,hr.out,fun k B hB=>Ub hs hc (fun hk=>hoth _ (hown k hk)) (hr.blk k B hB),hr.disj,fun k hk=>by rw [hs];exact hr.lt k hk,⟨fun b hb=>by rw [hs];exact hr.xlt.1 b hb,fun p hp i hi=>by rw [hc];exact hr.xlt.2 p hp i hi⟩⟩,fun i=>oO hs hc _ _ (he i)⟩,
   h5,Ds,⟨rfl,(yav.1 hnd).2⟩,fun E hE=>?_⟩
  obtain ⟨⟨k1,k2⟩,k3,k4⟩:=hM E (yae _ hE)
  have hne:E≠D:=fun e=>(yav.1 hnd).1 (e▸hE)
  exact ⟨⟨k1,by rw [hs];exact k2⟩,k3,(hoth E hne).trans k4⟩
theorem Good.marked {s:St} {a:Act} {w:World} (hg:Good ρ0 X w0 fx N s a w):∃ n,a.defers.length=n+DBase.ds.length:=by
 obtain ⟨ρ,_,_,_,Ds,⟨hDs,_⟩,_⟩:=hg
 exact ⟨Ds.length,by rw [hDs];simp⟩
theorem Good.base {s:St} {a:Act} {w:World} (hg:Good ρ0 X w0 fx N s a w) (hl:a.defers.length=DBase.ds.length):a.defers=DBase.ds:=by
 obtain ⟨ρ,_,_,_,Ds,⟨hDs,_⟩,_⟩:=hg
 cases Ds with
 | nil=>simpa using hDs
 | cons D Ds=>rw [hDs] at hl;simp at hl;omega
theorem rC {P:Program} {fn:Func} {R:Ending→World→Prop} {s:St} (hend:∀ (a:Act) (w:World),Good ρ0 X w0 fx N s a w→a.defers=DBase.ds→LeavesInM Fence.wide 0 P fn a.tmps R a.defers .returning w) :
  ∀ (n:Nat) (a:Act) (w:World),a.defers.length=n+DBase.ds.length→Good ρ0 X w0 fx N s a w→LeavesInM Fence.wide 0 P fn a.tmps R a.defers .returning w
 | 0,a,w,hl,hg=>hend a w hg (hg.base (by omega))
 | n+1,a,w,hl,hg=>by
  obtain ⟨D,ds,hd,h1,h2⟩:=hg.takeD (n:=n) (by omega)
  rw [hd]
  have:=rC hend n { a with defers:=ds } _ (by rw [hd] at hl;simp at hl ⊢;omega) h2
  exact ⟨by simp,.inl ⟨D,_,rfl,run_takeDeferred h1,this⟩⟩
end
section
variable {X:Nat→Prop} {ρ0:Nat→Loc} {w0:World} {fx:List Nat} {N:Nat}
theorem oE {P:Program} {fn:Func} {R:Ending→World→Prop} {s:St} (hend:∀ (a:Act) (w:World),Good ρ0 X w0 fx N s a w→∃ v,(results fn a.tmps).run P w=.ok v w∧R (.returned v) w)
  (ds:List Deferred) (a:Act) (w:World) (hd:a.defers=ds) (hg:Good ρ0 X w0 fx N s a w):LeavesInM Fence.wide 0 P fn a.tmps R ds .returning w:=by
 subst hd
 obtain ⟨n,hn⟩:=hg.marked
 refine rC (fun a w hg h0=>?_) n a w hn hg
 rw [h0]
 exact hend a w hg
end
end Go.Fx
namespace Go.Fx
open Go.RowKit
def Oj (P:Program):ResultVar→Option eK
 | .tmp t=>some (.tmp t)
 | .cell a t=>match P.info? t,P.underlying t with
  | some i,some d=>some (.cell a (if d.isRow then some i.size else none))
  | _,_=>none
def uD (P:Program):List ResultVar→Option (List eK)
 | []=>some []
 | r::rs=>match Oj P r,uD P rs with
  | some x,some xs=>some (x::xs)
  | _,_=>none
def On (tmps:Array Value):ResultVar→Sem Value
 | .tmp t=>pure (tmps.getD t undef)
 | .cell a t=>do loadVar t (← asAddr (tmps.getD a undef))
def Do:List Value→Value
 | [u]=>u
 | us=>.tuple us.toArray
section
variable {P:Program} {ρ:Nat→Loc} {X:Nat→Prop} {w:World}
def ahU (P:Program) (w:World) (tmps:Array Value):List ResultVar→List Value→Prop
 | [],[]=>True
 | r::rs,u::us=>(On tmps r).run P w=.ok u w∧ahU P w tmps rs us
 | _,_=>False
theorem mD {fn:Func} {tmps:Array Value} {us:List Value} (hn:fn.results.toList.length≤4) (h:ahU P w tmps fn.results.toList us) :
  (results fn tmps).run P w=.ok (Do us) w:=by
 have hr:fn.results=fn.results.toList.toArray:=by simp
 have hres:results fn tmps=(do
   let vs ← fn.results.toList.toArray.mapM (On tmps)
   pure (if h:vs.size=1 then vs[0] else .tuple vs)):=by
  unfold results
  rw [←hr]
  congr 1
 rw [hres]
 generalize fn.results.toList=l at h hn
 match l,us,h,hn with
 | [],[],_,_=>simp [Do]
 | [a],[u],⟨h1,_⟩,_=>simp [h1,Do]
 | [a,b],[u,v],⟨h1,h2,_⟩,_=>simp [h1,h2,Do]
 | [a,b,c],[u,v,x],⟨h1,h2,h3,_⟩,_=>simp [h1,h2,h3,Do]
 | [a,b,c,d],[u,v,x,y],⟨h1,h2,h3,h4,_⟩,_=>simp [h1,h2,h3,h4,Do]
 | _::_::_::_::_::_,_,_,hn=>simp at hn
 | [],_::_,h,_=>exact h.elim
 | [_],[],h,_=>exact h.elim
 | [_],_::_::_,h,_=>exact h.2.elim
 | [_,_],[],h,_=>exact h.elim
 | [_,_],[_],h,_=>exact h.2.elim
 | [_,_],_::_::_::_,h,_=>exact h.2.2.elim
 | [_,_,_],[],h,_=>exact h.elim
 | [_,_,_],[_],h,_=>exact h.2.elim
 | [_,_,_],[_,_],h,_=>exact h.2.2.elim
 | [_,_,_],_::_::_::_::_,h,_=>exact h.2.2.2.elim
 | [_,_,_,_],[],h,_=>exact h.elim
 | [_,_,_,_],[_],h,_=>exact h.2.elim
 | [_,_,_,_],[_,_],h,_=>exact h.2.2.elim
 | [_,_,_,_],[_,_,_],h,_=>exact h.2.2.2.elim
 | [_,_,_,_],_::_::_::_::_::_,h,_=>exact h.2.2.2.2.elim
theorem p8 {h:List Blk} {e:Env} {tmps:Array Value} (hr:Rep ρ X w h) (he:cS ρ X w e tmps) {K:List V→Prop} :
  ∀ (rs:List ResultVar) (ls:List eK) (acc:List V) (us:List Value),uD P rs=some ls→bL ρ X w acc us→aY h e ls acc K →
   ∃ xs vs,K (acc.reverse++xs)∧bL ρ X w xs vs∧ahU P w tmps rs vs
 | [],ls,acc,us,hm,ha,hk=>by
  simp only [uD,yaa] at hm
  subst hm
  exact ⟨[],[],by simpa [aY] using hk,trivial,trivial⟩
 | r::rs,ls,acc,us,hm,ha,hk=>by
  simp only [uD] at hm
  split at hm
  ·rename_i x xs hx hxs
   simp only [yaa] at hm
   subst hm
   cases r with
   | tmp t =>
    simp only [Oj,yaa] at hx
    subst hx
    obtain ⟨ys,vs,h1,h2,h3⟩:=p8 hr he rs xs (get e t::acc) (tmps.getD t undef::us) hxs ⟨he t,ha⟩ hk
    exact ⟨get e t::ys,tmps.getD t undef::vs,by simpa using h1,⟨he t,h2⟩,rfl,h3⟩
   | cell a t =>
    simp only [Oj] at hx
    split at hx
    ·rename_i inf d hi hu
     simp only [yaa] at hx
     subst hx
     simp only [aY] at hk
     obtain ⟨y,val,h1,h2,h3⟩:=Xa hr hi hu rfl (he a) hk
     obtain ⟨ys,vs,h4,h5,h6⟩:=p8 hr he rs xs (y::acc) (val::us) hxs ⟨h2,ha⟩ h1
     refine ⟨y::ys,val::vs,by simpa using h4,⟨h2,h5⟩,?_,h6⟩
     have h7:=h3 w (Ext.refl w)
     have hp:=he a
     have hptr:∃ ad,tmps.getD a undef=.pointer (some ad):=by
      revert hk
      unfold hJ
      split
      ·rename_i k i f hv;intro _;rw [hv] at hp;exact ⟨_,hp.2⟩
      ·rename_i sz els i f hv;intro _;rw [hv] at hp;obtain ⟨b,off,h8,_⟩:=hp;exact ⟨_,h8⟩
      ·intro hk;exact hk.elim
     obtain ⟨ad,had⟩:=hptr
     rw [had] at h7
     simp only [On,had,asAddr,Sem.run_bind,Sem.run_pure,Result.andThen_ok]
     simpa [Instr.loadAt,Instr.sureAddr] using h7
    ·cases hx
  ·cases hm
theorem Jp {xs:List V} {us:List Value} (h:bL ρ X w xs us):aX ρ X w (a7 xs) (Do us):=by
 match xs,us,h with
 | [],[],_=>exact ⟨#[],rfl,trivial⟩
 | [x],[u],h=>exact h.1
 | x::y::r,u::v::s,h=>exact ⟨(u::v::s).toArray,rfl,h⟩
 | [_],_::_::_,h=>exact h.2.elim
 | _::_::_,[_],h=>exact h.2.elim
 | [],_::_,h=>exact h.elim
 | _::_,[],h=>exact h.elim
theorem Iz:∀ (i:Nat) (xs:List V) (j:Nat),get (aO i xs) j=if i≤j then (xs[j-i]?).getD .any else .any
 | i,[],j=>by simp [aO,get]
 | i,x::r,j=>by
  simp only [aO,get]
  by_cases h:j=i
  ·subst h;simp
  ·rw [if_neg h,Iz (i+1) r j]
   by_cases h2:i+1≤j
   ·rw [if_pos h2,if_pos (by omega)]
    rw [show j-i=(j-(i+1))+1 by omega]
    simp
   ·rw [if_neg h2,if_neg (by omega)]
theorem tY {xs:List V} {vals:List Value} (h:bL ρ X w xs vals) (n:Nat):cS ρ X w (aO 0 xs) (vals.toArray++yak n undef):=by
 intro i
 rw [Iz]
 simp only [yat,if_true,Nat.sub_zero]
 cases hx:xs[i]? with
 | none=>trivial
 | some x =>
  obtain ⟨v,h1,h2⟩:=cG h hx
  have hi:i<vals.length:=(yaf.1 h1).1
  have:(vals.toArray++yak n undef).getD i undef=v:=by
   rw [yar,Array.getElem?_append_left (by simpa using hi)]
   simp [h1]
  rw [this]
  exact h2
theorem anN (hP:P.follows .mixedOrders=true) {cx:Cx} (hcx:cx.ok P) {f:FuncId} {fn:Func} {c:Code} {l0 l:LCode} {rs:List eK} (hf:P.funcs[f]?=some fn) (hb:fn.body=some c)
  (hm:rlC P fn.ntmps c l0=some l) (hres:uD P fn.results.toList=some rs) (h4:fn.results.toList.length≤4) {args:List V} {h0:List Blk} {mv:List Nat} {R:V→List Blk→Prop}
  (hlen:args.length≤fn.ntmps) (hfx:aD cx.fx h0) (hmv:∀ k,k<h0.length→k∉mv→k∈cx.fx)
  (h:aw cx l (dD cx.fx h0.length rs R) (fun _ _=>False) (dD cx.fx h0.length rs R) ⟨aO 0 args,h0,0⟩) (hy:cx.y=fun _ _ _ _=>False:=by rfl) (hk:cx.rk=none:=by rfl):Fn P f args h0 mv R:=by
 intro ρ X w vals hr ha
 have hvl:=cZ ha
 refine (callsIn_wide (n:=0)).1 (callsIn_of_wp_marks hf hb trivial ?_)
 have hg:Good ρ X w cx.fx fn.ntmps ⟨aO 0 args,h0,0⟩ { tmps:=vals.toArray++yak (fn.ntmps-vals.toArray.size) undef,defers:=[] } w :=
  ⟨ρ,⟨⟨Fr.refl _ _,fun _ _=>rfl⟩,hfx⟩,⟨hr,tY ha _⟩,by simp;omega,Marks.nil⟩
 have hend:∀ s,dD cx.fx h0.length rs R s→∀ a w',Good ρ X w cx.fx fn.ntmps s a w'→∃ v,(results fn a.tmps).run P w'=.ok v w'∧∃ val r h' ρ',Ending.returned v=.returned val∧(R r h'∧h0.length≤h'.length)∧Fr ρ w ρ' w'∧Rep ρ' X w' h'∧aX ρ' X w' r val ∧
   ∀ k,k<h0.length→k∉mv→ρ' k=ρ k:=by
  intro s hret a w' hgood
  obtain ⟨ρ',⟨⟨hf1,hfx1⟩,hk1⟩,⟨hr1,he1⟩,hN1,hd1⟩:=hgood
  obtain ⟨xs,vs,h5,h6,h7⟩:=p8 hr1 he1 fn.results.toList rs [] [] hres trivial hret
  obtain ⟨p,⟨h8,h9,h10,h11,h12⟩,h13⟩:=h5
  refine ⟨Do vs,mD h4 h7,_,_,p,dJ ρ' p,rfl,⟨h13,h10⟩,hf1.trans pG,xD hr1 h8 h12,?_,fun k hk hkm=>?_⟩
  ·exact fN _ _ h11 (Jp (by simpa using h6))
  ·have hkf:=hmv k hk hkm
   rw [cY (bB h9 k hkf)]
   exact hfx1 k hkf
 refine xG (P:=P) (X:=X) (N:=fn.ntmps) hP c l0 l hm none cx ρ w hcx (.inl rfl) (by unfold ROk;rw [hk];trivial) (fun k=>by rw [hy];exact rR) _ (dD cx.fx h0.length rs R) (fun _ _=>False) (dD cx.fx h0.length rs R) ?_ ?_ (fun _ _ _ _ hx _=>hx.elim) ?_ _ _ _ h hg
 ·rintro ⟨a,w',val,_,_,_,hq,_⟩
  cases hq
 ·intro s a w' hret hgood
  exact oE (hend s hret) a.defers a w' rfl hgood
 ·intro s a w' hret hgood
  exact oE (hend s hret) a.defers a w' rfl hgood
theorem acY (hP:P.follows .mixedOrders=true) {cx:Cx} (hcx:cx.ok P) {f:FuncId} {fn:Func} {c:Code} {l0 l:LCode} (hf:P.funcs[f]?=some fn) (hb:fn.body=some c)
  (hm:rlC P fn.ntmps c l0=some l) (hres:uD P fn.results.toList=some []) {args:List V} {h0:List Blk} {k:Nat} {Y:Yt} {K:List Blk→Prop}
  (hlen:args.length≤fn.ntmps) (h:aw cx l (fun s=>K s.h) (fun _ _=>False) (fun s=>K s.h) ⟨aO 0 args,h0,0⟩) (hy:cx.y=fun k' xs s Z=>k'=k∧Y xs s Z) (hk:cx.rk=none:=by rfl):acZ P f args cx.fx k Y h0 K:=by
 intro ρ X w vals hr ha hfx hY
 have hvl:=cZ ha
 have hnil:fn.results.toList=[]:=by
  cases hl:fn.results.toList with
  | nil=>rfl
  | cons r rs =>
   rw [hl] at hres
   simp only [uD] at hres
   split at hres<;>simp at hres
 refine (callsIn_wide (n:=0)).1 (callsIn_of_wp_marks hf hb trivial ?_)
 have hg:Good ρ X w cx.fx fn.ntmps ⟨aO 0 args,h0,0⟩ { tmps:=vals.toArray++yak (fn.ntmps-vals.toArray.size) undef,defers:=[] } w :=
  ⟨ρ,⟨⟨Fr.refl _ _,fun _ _=>rfl⟩,hfx⟩,⟨hr,tY ha _⟩,by simp;omega,Marks.nil⟩
 have hend:∀ s,K s.h→∀ a w',Good ρ X w cx.fx fn.ntmps s a w'→∃ v,(results fn a.tmps).run P w'=.ok v w'∧∃ val h' ρ',Ending.returned v=.returned val∧K h'∧(Fr ρ w ρ' w'∧Rep ρ' X w' h')∧(∀ j∈cx.fx,ρ' j=ρ j)∧aD cx.fx h':=by
  intro s hK a w' hgood
  obtain ⟨ρ',⟨⟨hf1,hfx1⟩,hk1⟩,⟨hr1,he1⟩,hN1,hd1⟩:=hgood
  exact ⟨Do [],mD (us:=[]) (by rw [hnil];simp) (by rw [hnil];trivial),_,s.h,ρ',rfl,hK,⟨hf1,hr1⟩,hfx1,hk1⟩
 refine xG (P:=P) (X:=X) (N:=fn.ntmps) hP c l0 l hm none cx ρ w hcx (.inl rfl) (by unfold ROk;rw [hk];trivial) (fun k'=>?_) _ (fun s=>K s.h) (fun _ _=>False) (fun s=>K s.h) ?_ ?_ (fun _ _ _ _ hx _=>hx.elim) ?_ _ _ _ h hg
 ·rw [hy]
  intro ρ1 w1 s tmps xs vs Z h1 h2 h3 h5 h6 h7
  obtain ⟨rfl,h7⟩:=h7
  exact hY ρ1 w1 s tmps xs vs Z h1 h2 h3 h5 h6 h7
 ·rintro ⟨a,w',val,_,_,hq,_⟩
  cases hq
 ·intro s a w' hret hgood
  exact oE (hend s hret) a.defers a w' rfl hgood
 ·intro s a w' hret hgood
  exact oE (hend s hret) a.defers a w' rfl hgood
def rlF (P:Program) (f:FuncId) (l0:LCode):Option (LCode × List eK × Nat) :=
 match P.funcs[f]? with
 | some fn=>match fn.body,uD P fn.results.toList,decide (fn.results.toList.length≤4)&&!(fn.name == "runtime.NumGoroutine") with
  | some c,some rs,true=>(rlC P fn.ntmps c l0).map fun l=>(l,rs,fn.ntmps)
  | _,_,_=>none
 | none=>none
theorem o6 {P:Program} {f:FuncId} {l0 l:LCode} {rs:List eK} {nt:Nat} (h:rlF P f l0=some (l,rs,nt)):dY P f:=by
 unfold rlF at h
 split at h
 ·rename_i fn hf
  split at h
  ·rename_i c rs' hb hr ht
   simp only [yac,yaz,decide_eq_true_eq] at ht
   exact ⟨fn,hf,ht.2,by simp [hb]⟩
  ·cases h
 ·cases h
theorem anM {P:Program} (hP:P.follows .mixedOrders=true) {cx:Cx} (hcx:cx.ok P) {f:FuncId} {l0 l:LCode} {rs:List eK} {nt:Nat} (hl:rlF P f l0=some (l,rs,nt))
  {args:List V} {h0:List Blk} {mv:List Nat} {R:V→List Blk→Prop} (hlen:args.length≤nt) (hfx:aD cx.fx h0) (hmv:∀ k,k<h0.length→k∉mv→k∈cx.fx)
  (h:aw cx l (dD cx.fx h0.length rs R) (fun _ _=>False) (dD cx.fx h0.length rs R) ⟨aO 0 args,h0,0⟩) (hy:cx.y=fun _ _ _ _=>False:=by rfl) (hk:cx.rk=none:=by rfl):Fn P f args h0 mv R:=by
 unfold rlF at hl
 split at hl
 ·rename_i fn hf
  split at hl
  ·rename_i c rs' hb hr ht
   simp only [yac,yaz,decide_eq_true_eq] at ht
   cases hm:rlC P fn.ntmps c l0 with
   | none=>simp [hm] at hl
   | some l1 =>
    simp only [hm,Option.map_some,yaa,Prod.mk.injEq] at hl
    obtain ⟨rfl,rfl,rfl⟩:=hl
    exact anN hP hcx hf hb hm hr ht.1 hlen hfx hmv h hy hk
  ·cases hl
 ·cases hl
theorem acX {P:Program} (hP:P.follows .mixedOrders=true) {cx:Cx} (hcx:cx.ok P) {f:FuncId} {l0 l:LCode} {nt:Nat} (hl:rlF P f l0=some (l,[],nt))
  {args:List V} {h0:List Blk} {k:Nat} {Y:Yt} {K:List Blk→Prop} (hlen:args.length≤nt)
  (h:aw cx l (fun s=>K s.h) (fun _ _=>False) (fun s=>K s.h) ⟨aO 0 args,h0,0⟩) (hy:cx.y=fun k' xs s Z=>k'=k∧Y xs s Z) (hk:cx.rk=none:=by rfl):acZ P f args cx.fx k Y h0 K:=by
 unfold rlF at hl
 split at hl
 ·rename_i fn hf
  split at hl
  ·rename_i c rs' hb hr ht
   cases hm:rlC P fn.ntmps c l0 with
   | none=>simp [hm] at hl
   | some l1 =>
    simp only [hm,Option.map_some,yaa,Prod.mk.injEq] at hl
    obtain ⟨rfl,rfl,rfl⟩:=hl
    exact acY hP hcx hf hb hm hr hlen h hy hk
  ·cases hl
 ·cases hl
end
end Go.Fx
namespace Go.Fx
open Go.RowKit Go.ChangeShapes Go.WideShapes
def WfV:T→V→Prop
 | .st fs,x=>∃ cs,Zm fs cs∧x=.agg cs
 | .int k,x=>WfT (.int k) [x]
 | .bool,x=>WfT .bool [x]
 | .str,x=>WfT .str [x]
 | .sl sz e,x=>WfT (.sl sz e) [x]
def WfA:List T→List V→Prop
 | [],xs=>xs=[]
 | t::ts,xs=>∃ x r,xs=x::r∧WfV t x∧WfA ts r
def So (P:Program):List TypeId→Option (List T)
 | []=>some []
 | t::ts=>match Gx P 20 t,So P ts with
  | some x,some r=>some (x::r)
  | _,_=>none
def Om:Nat→Loc:=fun _=>⟨false,0,0,0,0,default⟩
theorem Dz (b:Nat):¬Own Om b:=fun ⟨_,h,_⟩=>by simp [Om] at h
theorem Vp (w:World) (ht:(∀ b,Tb b→b<w.heap.size)∧Zn w):Rep Om (fun _=>False) w [] :=
 ⟨fun j k _ h=>by simp [Om] at h,fun _ _=>rfl,fun k b h=>by simp at h,fun _ h=>(Dz _ h).elim,fun k h=>by simp [Om] at h,⟨fun b hb=>hb.elim (fun h=>h.elim) (ht.1 b),ht.2⟩⟩
section
variable {P:Program} {w:World} {ρ:Nat→Loc} {X:Nat→Prop}
theorem Gt:∀ {x:V} {u:Value},fO (Sta ρ X w) w x u→aX ρ X w x u
 | .v _,_,h=>h.1
 | .ro _ _,_,h=>h
 | .any,_,h|.bro _ _,_,h|.full _ _,_,h|.sl _ _ _,_,h|.ptr _ _ _,_,h|.rp _ _ _ _,_,h|.agg _,_,h|.tup _,_,h|.clo _ _,_,h|.mp _,_,h|.itr _,_,h=>h.elim
theorem Ln:∀ {xs:List V} {us:List Value},pT (Sta ρ X w) w xs us→bL ρ X w xs us
 | [],[],_=>trivial
 | _::_,_::_,h=>⟨Gt h.1,Ln h.2⟩
 | [],_::_,h=>h.elim
 | _::_,[],h=>h.elim
theorem cells_one {v u:Value} (h:v.cells.toList=[u]) (hn:∀ cs,v≠.agg cs):u=v:=by
 cases v<;>simp_all [Value.cells]
variable {H:Type} {enc:TypeId × Value→H} {base:Nat} {spare:Nat→Bool} {held:Bool}
theorem acS {n:Nat} {t:TypeId} {ty:T} {v:Value} {r:Reach} {b:Nat} {d:DataW H} {p:List MemPlace} (hS:∀ b,b<w.heap.size→Sta ρ X w b) (ht:Gx P n t=some ty)
  (hok:Value.okWide P w r b t v) (h:DataW.Trod enc P w base spare held t v d p):∃ x,WfV ty x∧aX ρ X w x v:=by
 obtain ⟨fuel,h⟩:=h
 obtain ⟨xs,h1,h2⟩:=vE hS fuel n t ty _ _ ht h
 cases n with
 | zero=>simp [Gx] at ht
 | succ n =>
  unfold Value.okWide at hok
  simp only [Gx] at ht
  split at ht
  ·rename_i hu
   simp only [yaa] at ht
   subst ht
   obtain ⟨c,rfl⟩:=h1
   have hl:=j7 h2
   obtain ⟨u,hu'⟩:∃ u,v.cells.toList=[u]:=yas.1 hl.symm
   have hv:=cells_one hu' (fun cs hc=>by subst hc;simp [hu,Cell.okWide,Cell.ok] at hok)
   subst hv
   rw [hu'] at h2
   exact ⟨_,⟨c,rfl⟩,Gt h2.1⟩
  ·rename_i k hu
   simp only [yaa] at ht
   subst ht
   obtain ⟨c,rfl,hc⟩:=h1
   have hl:=j7 h2
   obtain ⟨u,hu'⟩:∃ u,v.cells.toList=[u]:=yas.1 hl.symm
   have hv:=cells_one hu' (fun cs hc=>by subst hc;simp [hu,Cell.okWide,Cell.ok] at hok)
   subst hv
   rw [hu'] at h2
   exact ⟨_,⟨c,rfl,hc⟩,Gt h2.1⟩
  ·rename_i hu
   simp only [yaa] at ht
   subst ht
   obtain ⟨c,rfl,hc⟩:=h1
   have hl:=j7 h2
   obtain ⟨u,hu'⟩:∃ u,v.cells.toList=[u]:=yas.1 hl.symm
   have hv:=cells_one hu' (fun cs hc=>by subst hc;simp [hu,Cell.okWide,Cell.ok] at hok)
   subst hv
   rw [hu'] at h2
   exact ⟨_,⟨c,rfl,hc⟩,Gt h2.1⟩
  ·rename_i e hu
   split at ht
   ·rename_i te _
    split at ht
    ·simp only [yaa] at ht
     subst ht
     obtain ⟨c,rfl,hc⟩:=h1
     have hl:=j7 h2
     obtain ⟨u,hu'⟩:∃ u,v.cells.toList=[u]:=yas.1 hl.symm
     have hv:=cells_one hu' (fun cs hc=>by subst hc;simp [hu,Cell.okWide,Cell.ok] at hok)
     subst hv
     rw [hu'] at h2
     exact ⟨_,⟨c,rfl,hc⟩,Gt h2.1⟩
    ·cases ht
   ·cases ht
  ·rename_i fs hu
   split at ht
   ·split at ht
    ·simp only [yaa] at ht
     subst ht
     simp only [hu] at hok
     obtain ⟨cs,rfl,_⟩:=hok
     exact ⟨.agg xs,⟨xs,h1,rfl⟩,cs,rfl,Ln (by simpa [Value.cells] using h2)⟩
    ·cases ht
   ·cases ht
  ·rename_i m e hu
   split at ht
   ·split at ht
    ·simp only [yaa] at ht
     subst ht
     simp only [hu] at hok
     obtain ⟨cs,rfl,_⟩:=hok
     exact ⟨.agg xs,⟨xs,h1,rfl⟩,cs,rfl,Ln (by simpa [Value.cells] using h2)⟩
    ·cases ht
   ·cases ht
  ·cases ht
theorem Ns (hS:∀ b,b<w.heap.size→Sta ρ X w b):∀ (ts:List TypeId) (tys:List T) (vs:List Value) (ds:List (DataW H)) (p:List MemPlace),So P ts=some tys →
  (∀ (j:Nat) t v,ts[j]?=some t→vs[j]?=some v→Value.okWide P w .any base t v)→DataW.TrodAll enc P w 0 spare held ts vs ds p→∃ xs,WfA tys xs∧bL ρ X w xs vs∧ds.length=tys.length
 | [],tys,vs,ds,p,ht,hok,h=>by
  simp only [So,yaa] at ht
  subst ht
  obtain ⟨rfl,rfl,rfl⟩:=trodAll_nil h
  exact ⟨[],rfl,trivial,rfl⟩
 | t::ts,tys,vs,ds,p,ht,hok,h=>by
  simp only [So] at ht
  split at ht
  ·rename_i ty tr h1 h2
   simp only [yaa] at ht
   subst ht
   obtain ⟨v,vs1,d,ds1,a,b,rfl,rfl,rfl,h3,h4⟩:=trodAll_cons h
   obtain ⟨x,h5,h6⟩:=acS hS h1 (hok 0 t v rfl rfl) h3
   obtain ⟨xs,h7,h8,h9⟩:=Ns hS ts tr vs1 ds1 b h2 (fun j t v h1 h2=>hok (j+1) t v (by simpa using h1) (by simpa using h2)) h4
   exact ⟨x::xs,⟨x,xs,rfl,h5,h7⟩,⟨h6,h8⟩,by simp [h9]⟩
  ·cases ht
theorem uA (hl:laidOutB P=true) {W W':World} (hb:Below W.heap.size W W'):∀ (ts:List TypeId) (vs:List Value) (ds:List (DataW H)) (p:List MemPlace),(∀ t∈ts,P.readableRec t=true∧t<P.types.size) →
  DataW.TrodAll enc P W 0 (fun _=>true) true ts vs ds p→(∀ x∈p,x.block<W.heap.size)→DataW.TrodAll enc P W' 0 (fun b=>decide (b<W.heap.size)) true ts vs ds p
 | [],vs,ds,p,_,h,_=>by
  obtain ⟨rfl,rfl,rfl⟩:=trodAll_nil h
  rfl
 | t::ts,vs,ds,p,hr,h,hlt=>by
  obtain ⟨v,vs1,d,ds1,a,b,rfl,rfl,rfl,h3,h4⟩:=trodAll_cons h
  exact trodAll_cons_mk (Below.trod hl (hr t yag).1 (hr t yag).2 h3 hb (fun x hx=>hlt x (yaD _ hx)))
   (uA hl hb ts vs1 ds1 b (fun t ht=>hr t (yae _ ht)) h4 (fun x hx=>hlt x (yaE _ hx)))
theorem vF (hl:laidOutB P=true) {W W':World} (hb:Below W.heap.size W W'):∀ (ts:List TypeId) (vs:List Value) (ds:List (DataW H)) (p:List MemPlace),(∀ t∈ts,P.readableRec t=true∧t<P.types.size) →
  DataW.TrodAll enc P W 0 (fun _=>true) true ts vs ds p→(∀ x∈p,x.block<W.heap.size)→DataW.TrodAll enc P W' 0 (fun _=>true) true ts vs ds p
 | [],vs,ds,p,_,h,_=>by
  obtain ⟨rfl,rfl,rfl⟩:=trodAll_nil h
  rfl
 | t::ts,vs,ds,p,hr,h,hlt=>by
  obtain ⟨v,vs1,d,ds1,a,b,rfl,rfl,rfl,h3,h4⟩:=trodAll_cons h
  exact trodAll_cons_mk (WideElems.Trod_stays hl (hr t yag).1 (hr t yag).2 h3 (fun x hx=>hb.same (hlt x (yaD _ hx))) (fun _ _=>rfl))
   (vF hl hb ts vs1 ds1 b (fun t ht=>hr t (yae _ ht)) h4 (fun x hx=>hlt x (yaE _ hx)))
theorem Ki {f:FuncId} {fn:Func} {s:ChangeSpec} {tys:List T} {tb:TypeId} {apart fresh handsOn again:Bool}
  (hl:laidOutB P=true) (ht:So P fn.params.toList=some tys) (hread:(fn.params.toList.all fun t=>P.readableRec t&&decide (t<P.types.size))=true)
  (hres:fn.resultTypes=#[tb]) (hb:P.underlying tb=some .bool) (hvars:s.vars=[])
  (hspec:∀ (H:Type) (ds:List (DataW H)),ds.length=tys.length→s.fn H ds={ results:=[.lit (.bool true)],args:=ds })
  (hfn:∀ zas,WfA tys zas→Fn P f zas [] [] (fun r _=>r=.b true))
  (W:World) (base:Nat) (args:Array Value) (ds gs:List (DataW H)) (before:List MemPlace)
  (hval:∀ (j:Nat) t v,fn.params[j]?=some t→args[j]?=some v→Value.okWide P W .any base t v)
  (hW:DataW.Whole enc P fn.params.toList s.vars apart W args.toList ds gs before) (agR:(∀ b,Tb b→b<W.heap.size)∧Zn W) :
  Calls P f args W fun e W'=>∃ v,e=.returned v∧s.post enc P fn apart fresh handsOn again W args v W':=by
 have hW':=hW
 obtain ⟨p,q,hA,hV,rfl,hfz,hnd⟩:=hW
 have hpl:=hW'.lt
 have hV0:gs=[]∧q=[]:=by
  rw [hvars] at hV
  cases gs with
  | nil=>exact ⟨rfl,hV⟩
  | cons _ _=>exact hV.elim
 obtain ⟨rfl,rfl⟩:=hV0
 obtain ⟨xs,h1,h2,h3⟩:=Ns (ρ:=Om) (X:=fun _=>False) (fun b hb=>⟨hb,Dz b,fun h=>h⟩) fn.params.toList tys args.toList ds p ht (fun j t v h1 h2=>hval j t v (by simpa using h1) (by simpa using h2)) hA
 have hc:=hfn xs h1 Om (fun _=>False) W args.toList (Vp W agR) h2
 have harr:args.toList.toArray=args:=by simp
 rw [harr] at hc
 refine hc.mono fun e W' ⟨val,r,h',ρ',he,⟨hr,_⟩,hF,hR,hv,_⟩=>?_
 subst hr
 have hv:val=.bool true:=hv
 subst hv
 refine ⟨_,he,?_⟩
 have hbel:Below W.heap.size W W':=⟨hF.os,hF.tape,hF.output,hF.size,fun k hk=>(hF.keep k hk (Dz k)).1⟩
 have hsz:fn.resultTypes.size=1:=by rw [hres];rfl
 have hrl:(Value.bool true).resultList fn.resultTypes.size=[.bool true]:=by rw [hsz];rfl
 have hsp:s.fn H (ds++[])={ results:=[.lit (.bool true)],args:=ds }:=by rw [List.append_nil];exact hspec H ds h3
 have hrd:∀ t∈fn.params.toList,P.readableRec t=true∧t<P.types.size:=by
  intro t ht
  have:=yai.1 hread t ht
  simpa using this
 have hplt:∀ x∈p,x.block<W.heap.size:=fun x hx=>hpl x (by simpa using hx)
 have hok:∀ (j:Nat) (t:TypeId) (r:Value),fn.resultTypes[j]?=some t→((Value.bool true).resultList fn.resultTypes.size)[j]?=some r→Value.okWide P W' .any 0 t r:=by
  intro j t r h4 h5
  rw [hrl] at h5
  rw [hres] at h4
  cases j with
  | zero =>
   simp only [yaj,yaa] at h5
   simp only [List.getElem?_toArray,yaj,yaa] at h4
   subst h4 h5
   simp [Value.okWide,hb,Cell.okWide,Cell.ok]
  | succ j=>simp at h5
 have hrt:∀ (b:Nat) (sp:Nat→Bool) (hd:Bool),DataW.TrodAll enc P W' b sp hd fn.resultTypes.toList ((Value.bool true).resultList fn.resultTypes.size) [.lit (.bool true)] []:=by
  intro b sp hd
  rw [hrl,hres]
  exact ⟨[],[],⟨1,by simp [DataW.trod,Value.cells,hb]⟩,rfl,rfl⟩
 refine ⟨ds,[],p++[],[],p,[],hW',?_,?_,?_,hbel.frame _,fun _=>⟨hok,ds.cons (.lit (.bool true)),[],p++[],?_,fun x hx _=>hx⟩⟩
 ·rw [hsp];exact hrt _ _ _
 ·rw [hsp];exact uA hl hbel _ _ _ _ hrd hA hplt
 ·rw [hsp,hvars];rfl
 ·refine ⟨p,[],?_,by rw [hvars];rfl,rfl,?_,hnd⟩
  ·have h6:=vF hl hbel _ _ _ _ hrd hA hplt
   have h7:=trodAll_append h6 (hrt 0 (fun _=>true) true)
   simpa using h7
  ·intro b off hp
   have h8:=hfz b off hp
   rw [World.frozen?_of_block (w:=W) (hbel.block b (hpl _ hp))]
   exact h8
end
end Go.Fx
namespace Go.Fx
inductive Tr where
 | lf
 | nd (v:V) (l r:Tr)
 deriving Inhabited
def Tr.get:Tr→Nat→V
 | .lf,_=>.any
 | .nd v l r,i=>match i with
  | 0=>v
  | j+1=>if j%2=0 then l.get (j/2) else r.get (j/2)
def Tr.put:Nat→Tr→Nat→V→Tr
 | 0,t,_,_=>t
 | n+1,.lf,i,x=>match i with
  | 0=>.nd x .lf .lf
  | j+1=>if j%2=0 then .nd .any (Tr.put n .lf (j/2) x) .lf else .nd .any .lf (Tr.put n .lf (j/2) x)
 | n+1,.nd v l r,i,x=>match i with
  | 0=>.nd x l r
  | j+1=>if j%2=0 then .nd v (Tr.put n l (j/2) x) r else .nd v l (Tr.put n r (j/2) x)
def Tr.kill (M:List Nat):Tr→Tr
 | .lf=>.lf
 | .nd v l r=>.nd (Fx.kill M v) (l.kill M) (r.kill M)
theorem Tr.get_put:∀ (n:Nat) (t:Tr) (i:Nat) (x:V) (j:Nat),i<n→(Tr.put n t i x).get j=if j=i then x else t.get j
 | 0,_,_,_,_,h=>by omega
 | n+1,.lf,0,x,j,_=>by cases j<;>simp [Tr.put,Tr.get]
 | n+1,.nd v l r,0,x,j,_=>by cases j<;>simp [Tr.put,Tr.get]
 | n+1,.lf,i+1,x,j,h=>by
  simp only [Tr.put]
  split
  ·rename_i hi
   cases j with
   | zero=>simp [Tr.get]
   | succ j =>
    simp only [Tr.get]
    by_cases hj:j%2=0
    ·rw [if_pos hj,Tr.get_put n _ _ _ _ (by omega)]
     by_cases e:j=i
     ·subst e;simp
     ·rw [if_neg (by omega),if_neg (by omega)];simp [Tr.get]
    ·rw [if_neg hj,if_neg (by omega)]
  ·rename_i hi
   cases j with
   | zero=>simp [Tr.get]
   | succ j =>
    simp only [Tr.get]
    by_cases hj:j%2=0
    ·rw [if_pos hj,if_neg (by omega)]
    ·rw [if_neg hj,Tr.get_put n _ _ _ _ (by omega)]
     by_cases e:j=i
     ·subst e;simp
     ·rw [if_neg (by omega),if_neg (by omega)];simp [Tr.get]
 | n+1,.nd v l r,i+1,x,j,h=>by
  simp only [Tr.put]
  split
  ·rename_i hi
   cases j with
   | zero=>simp [Tr.get]
   | succ j =>
    simp only [Tr.get]
    by_cases hj:j%2=0
    ·rw [if_pos hj,Tr.get_put n _ _ _ _ (by omega),if_pos hj]
     by_cases e:j=i
     ·subst e;simp
     ·rw [if_neg (by omega),if_neg (by omega)]
    ·rw [if_neg hj,if_neg (by omega),if_neg hj]
  ·rename_i hi
   cases j with
   | zero=>simp [Tr.get]
   | succ j =>
    simp only [Tr.get]
    by_cases hj:j%2=0
    ·rw [if_pos hj,if_neg (by omega),if_pos hj]
    ·rw [if_neg hj,Tr.get_put n _ _ _ _ (by omega),if_neg hj]
     by_cases e:j=i
     ·subst e;simp
     ·rw [if_neg (by omega),if_neg (by omega)]
def Mv (h:List Blk) (k:Nat):Bool :=
 match h[k]? with
 | some .dead=>false
 | some _=>true
 | none=>false
mutual
def aiB (h:List Blk):V→Bool
 | .sl k _ _=>Mv h k
 | .ptr k _ _=>Mv h k
 | .mp k=>Mv h k
 | .itr k=>Mv h k
 | .agg cs=>aaG h cs
 | .tup cs=>aaG h cs
 | .clo _ cs=>aaG h cs
 | _=>true
def aaG (h:List Blk):List V→Bool
 | []=>true
 | x::r=>aiB h x&&aaG h r
end
instance (n:Nat) (l u m:Option Int):Decidable (bN n l u m):=by unfold bN;infer_instance
structure Res where
 x:V
 E:Tr
 h:List Blk
def one (E:Tr) (x:V) (h:List Blk):Option (List Res):=some [⟨x,E,h⟩]
end Go.Fx
namespace Go.Fx
open Go.RowKit
section
end
section
end
end Go.Fx
namespace Go.Fx
open Go.RowKit
def gone (h:List Blk):List Nat→List Nat
 | []=>[]
 | k::r=>if Mv h k then gone h r else k::gone h r
def Tr.wf (h:List Blk):Tr→Bool
 | .lf=>true
 | .nd v l r=>aiB h v&&(l.wf h&&r.wf h)
mutual
def ajZ (g:Nat→Option Nat):V→V
 | .sl k i n=>match g k with
  | some j=>.sl j i n
  | none=>.any
 | .ptr k i f=>match g k with
  | some j=>.ptr j i f
  | none=>.any
 | .mp k=>match g k with
  | some j=>.mp j
  | none=>.any
 | .itr k=>match g k with
  | some j=>.itr j
  | none=>.any
 | .agg cs=>.agg (Qt g cs)
 | .tup cs=>.tup (Qt g cs)
 | .clo f cs=>.clo f (Qt g cs)
 | x=>x
def Qt (g:Nat→Option Nat):List V→List V
 | []=>[]
 | x::r=>ajZ g x::Qt g r
end
def Tr.ren (g:Nat→Option Nat):Tr→Tr
 | .lf=>.lf
 | .nd v l r=>.nd (ajZ g v) (l.ren g) (r.ren g)
section
end
section
end
end Go.Fx
namespace Go.Fx
def rdK (x:V) (bn:List Nat):List Nat :=
 match x with
 | .ptr k _ _=>k::bn
 | _=>bn
def Ut (x:V) (K:List V→Prop):Prop :=
 match x with
 | .tup vs=>K vs
 | _=>False
def Te (x:V) (K:V→Prop):Prop :=
 match x with
 | .ptr k i f=>K (.ptr k i f)
 | .clo f cs=>K (.clo f cs)
 | _=>False
def Yw (x:V) (K:FuncId→List V→Prop):Prop :=
 match x with
 | .clo g cs=>K g cs
 | _=>False
def Mt (h:List Blk) (kd:TypeDesc) (key:Value) (z:Value) (ok:Bool) (m:V) (K:V→Prop):Prop :=
 match m with
 | .v (.map none)=>eF (some none) z ok K
 | m=>iM h m fun _ es _=>eF (dF kd key es 0) z ok K
mutual
theorem Fb:∀ x:V,kill [] x=x
 | .any=>rfl
 | .v _=>rfl
 | .ro _ _=>rfl
 | .bro _ _=>rfl
 | .full _ _=>rfl
 | .rp _ _ _ _=>rfl
 | .sl _ _ _=>by simp [kill]
 | .ptr _ _ _=>by simp [kill]
 | .mp _=>by simp [kill]
 | .itr _=>by simp [kill]
 | .agg cs=>by simp [kill,i3 cs]
 | .tup cs=>by simp [kill,i3 cs]
 | .clo _ cs=>by simp [kill,i3 cs]
theorem i3:∀ xs:List V,bD [] xs=xs
 | []=>rfl
 | x::r=>by simp [bD,Fb x,i3 r]
end
theorem i4:∀ e:Env,aM [] e=e
 | []=>rfl
 | (_,x)::r=>by simp [aM,Fb x,i4 r]
theorem tR (l:List Blk):l.map (aK [])=l:=by
 have:aK []=id:=by
  funext b
  cases b<;>simp [aK,i3,Fb,i4,funext i3]
 simp [this]
section
variable {cx:Cx} {e:Env} {h:List Blk} {b:Nat} {K:V→St→Prop} {Ks:St→Prop} {N R:St→Prop} {X:Nat→St→Prop} {d:Option Nat} {op:LOp}
theorem kS {d:Nat} {x:V}:St.put ⟨e,h,b⟩ (some d) x=⟨(d,x)::e,h,b⟩:=rfl
theorem kT {x:V}:St.put ⟨e,h,b⟩ none x=⟨e,h,b⟩:=rfl
theorem zh:eV cx [] ⟨e,h,b⟩ Ks=Ks ⟨e,h,b⟩:=rfl
theorem zi {r:List aH}:eV cx (⟨d,op,none⟩::r) ⟨e,h,b⟩ Ks=aOp cx op ⟨e,h,b⟩ fun x s'=>eV cx r (s'.put d x) Ks:=rfl
theorem zj {g:Nat} {w:Bool} {r:List aH}:eV cx (⟨d,op,some (g,w)⟩::r) ⟨e,h,b⟩ Ks=aZ (get e g) w
   (aOp cx op ⟨(g,.b w)::e,h,b⟩ fun x s'=>eV cx r (s'.put d x) Ks)
   (eV cx r (St.put ⟨(g,.b !w)::e,h,b⟩ d (.v (.tuple #[]))) Ks)
   (eV cx r (St.put ⟨e,h,b⟩ d (.v (.tuple #[]))) Ks):=rfl
theorem qa {x:Operand} {bn:List Nat}:rdB (.mov x) e bn=bn:=rfl
theorem zk {x:Operand}:aOp cx (.mov x) ⟨e,h,b⟩ K=K (ev e x) ⟨e,h,b⟩:=rfl
theorem qb {c x y:Operand} {bn:List Nat}:rdB (.pick c x y) e bn=bn:=rfl
theorem zm {c x y:Operand}:aOp cx (.pick c x y) ⟨e,h,b⟩ K=brV (ev e c) (K (ev e x) ⟨e,h,b⟩) (K (ev e y) ⟨e,h,b⟩):=rfl
theorem zn {j:Nat} {x:Operand}:aOp cx (.box j x) ⟨e,h,b⟩ K=cW (cells? (ev e x)) fun cs=>aF h (b+j)∧K (.ptr (b+j) 0 0) ⟨e,h.set (b+j) (.var cs),b⟩:=rfl
theorem zo {j:Nat} {z:Value}:aOp cx (.alloc j z) ⟨e,h,b⟩ K=cW (cells? (aA z)) fun cs=>aF h (b+j)∧K (.ptr (b+j) 0 0) ⟨e,h.set (b+j) (.var cs),b⟩:=rfl
theorem zp {n:Option Nat} {x:Operand}:aOp cx (.load n x) ⟨e,h,b⟩ K=hJ h n (ev e x) fun y=>K y ⟨e,h,b⟩:=rfl
theorem zq {n:Nat} {x y:Operand}:aOp cx (.store n x y) ⟨e,h,b⟩ K=cW (cells? (ev e y)) fun cs=>y9 cx.bn h n (ev e x) cs fun h=>K (.v (.tuple #[])) ⟨e,h,b⟩:=rfl
theorem qc {n:Nat} {x:Operand} {bn:List Nat}:rdB (.fld n x) e bn=bn:=rfl
theorem zr {n:Nat} {x:Operand}:aOp cx (.fld n x) ⟨e,h,b⟩ K=Ha n (ev e x) fun y=>K y ⟨e,h,b⟩:=rfl
theorem qd {n:Nat} {x i:Operand} {bn:List Nat}:rdB (.idx n x i) e bn=bn:=rfl
theorem zt {n:Nat} {x i:Operand}:aOp cx (.idx n x i) ⟨e,h,b⟩ K=cE (ev e i) fun _ m=>Fk h n m (ev e x) fun y=>K y ⟨e,h,b⟩:=rfl
theorem qe {o:BinOp} {ex:Bool} {x y:Operand} {bn:List Nat}:rdB (.bin o ex x y) e bn=bn:=rfl
theorem zu {o:BinOp} {ex:Bool} {x y:Operand}:aOp cx (.bin o ex x y) ⟨e,h,b⟩ K=cE (ev e x) fun k a=>cE (ev e y) fun k' c=>k'=k∧cK o ex k a c fun z=>K z ⟨e,h,b⟩:=rfl
theorem qf {x:Operand} {bn:List Nat}:rdB (.len x) e bn=bn:=rfl
theorem zv {x:Operand}:aOp cx (.len x) ⟨e,h,b⟩ K=Fa (ev e x) fun y=>K y ⟨e,h,b⟩:=rfl
theorem qg {x:Operand} {bn:List Nat}:rdB (.lens x) e bn=bn:=rfl
theorem zw {x:Operand}:aOp cx (.lens x) ⟨e,h,b⟩ K=Ie (ev e x) fun y=>K y ⟨e,h,b⟩:=rfl
theorem qh {x:Operand} {bn:List Nat}:rdB (.not x) e bn=bn:=rfl
theorem zx {x:Operand}:aOp cx (.not x) ⟨e,h,b⟩ K=rJ (ev e x) fun t=>K (.b (!t)) ⟨e,h,b⟩:=rfl
theorem qi {x:Operand} {bn:List Nat}:rdB (.neg x) e bn=bn:=rfl
theorem zy {x:Operand}:aOp cx (.neg x) ⟨e,h,b⟩ K=cE (ev e x) fun k a=>K (.v (.int k (k.wrap (-a)))) ⟨e,h,b⟩:=rfl
theorem qj {ex:Bool} {k:IntKind} {x:Operand} {bn:List Nat}:rdB (.conv ex k x) e bn=bn:=rfl
theorem zA {ex:Bool} {k:IntKind} {x:Operand}:aOp cx (.conv ex k x) ⟨e,h,b⟩ K=cE (ev e x) fun _ a=>if ex then (lo k≤a∧a≤hi k)∧K (.v (.int k a)) ⟨e,h,b⟩ else K (.v (.int k (k.wrap a))) ⟨e,h,b⟩:=rfl
theorem qk {mx:Bool} {x y:Operand} {bn:List Nat}:rdB (.minmax mx x y) e bn=bn:=rfl
theorem zB {mx:Bool} {x y:Operand}:aOp cx (.minmax mx x y) ⟨e,h,b⟩ K=cE (ev e x) fun k a=>cE (ev e y) fun k' c=>k'=k∧K (.v (.int k (if mx then max a c else min a c))) ⟨e,h,b⟩:=rfl
theorem ql {f:FuncId} {cs:List Operand} {bn:List Nat}:rdB (.fn f cs) e bn=bn:=rfl
theorem zE {f:FuncId} {cs:List Operand}:aOp cx (.fn f cs) ⟨e,h,b⟩ K=K (.clo f (cs.map (ev e))) ⟨e,h,b⟩:=rfl
theorem qm {off:Nat} {n:Option Nat} {x:Operand} {bn:List Nat}:rdB (.field off n x) e bn=bn:=rfl
theorem zF {off:Nat} {n:Option Nat} {x:Operand}:aOp cx (.field off n x) ⟨e,h,b⟩ K=He (ev e x) fun cs=>bX n off cs fun y=>K y ⟨e,h,b⟩:=rfl
theorem qn {z:Nat} {x:Operand} {l u m:Option Operand} {bn:List Nat}:rdB (.slice z x l u m) e bn=bn:=rfl
theorem zG {z:Nat} {x:Operand} {l u m:Option Operand}:aOp cx (.slice z x l u m) ⟨e,h,b⟩ K=Al (l.map (ev e)) fun l=>Al (u.map (ev e)) fun u=>Al (m.map (ev e)) fun m=>z7 h z (ev e x) l u m fun y=>K y ⟨e,h,b⟩:=rfl
theorem qo {z:List Value} {ps:List (Nat × Nat × Operand)} {bn:List Nat}:rdB (.build z ps) e bn=bn:=rfl
theorem zH {z:List Value} {ps:List (Nat × Nat × Operand)}:aOp cx (.build z ps) ⟨e,h,b⟩ K=bJ e (z.map .v) ps fun y=>K y ⟨e,h,b⟩:=rfl
theorem qp {neg:Bool} {x y:Operand} {bn:List Nat}:rdB (.eqb neg x y) e bn=bn:=rfl
theorem zI {neg:Bool} {x y:Operand}:aOp cx (.eqb neg x y) ⟨e,h,b⟩ K=rJ (ev e x) fun a=>rJ (ev e y) fun c=>K (.b (if neg then a != c else a==c)) ⟨e,h,b⟩:=rfl
theorem qq {neg:Bool} {ks:List (Nat × TypeDesc)} {x y:Operand} {bn:List Nat}:rdB (.eqf neg ks x y) e bn=bn:=rfl
theorem zJ {neg:Bool} {ks:List (Nat × TypeDesc)} {x y:Operand}:aOp cx (.eqf neg ks x y) ⟨e,h,b⟩ K=cW (mP (ev e x)) fun xs=>cW (mP (ev e y)) fun ys=>dU xs ys ks fun t=>K (.b (if neg then !t else t)) ⟨e,h,b⟩:=rfl
theorem qr {o:BinOp} {x y:Operand} {bn:List Nat}:rdB (.shift o x y) e bn=bn:=rfl
theorem zK {o:BinOp} {x y:Operand}:aOp cx (.shift o x y) ⟨e,h,b⟩ K=cE (ev e x) fun k a=>cE (ev e y) fun _ c=>cL o k a c fun z=>K z ⟨e,h,b⟩:=rfl
theorem zL {neg:Bool} {x:Operand} {v:Value}:aOp cx (.eqn neg x (.const v)) ⟨e,h,b⟩ K=match aA v with|.v _=>Hb (ev e x) fun t=>K (.b (if neg then !t else t)) ⟨e,h,b⟩|_=>False:=rfl
theorem zM {j sz n:Nat} {z:List Value} {ps:List (Nat × Operand)}:aOp cx (.lits j sz n z ps) ⟨e,h,b⟩ K=bR e sz (yab n (z.map .v)) ps fun els=>aF h (b+j)∧K (.sl (b+j) 0 n) ⟨e,h.set (b+j) (.arr sz els),b⟩:=rfl
theorem zN {j sz bytes:Nat} {z:List Value} {l c:Operand}:aOp cx (.mk j sz bytes z l c) ⟨e,h,b⟩ K=cE (ev e l) fun _ a=>cE (ev e c) fun _ d=>((0≤a∧a≤d)∧(bytes:Int)*d≤281474976710656∧d≤9223372036854775807)∧aF h (b+j)∧K (.sl (b+j) 0 a.toNat) ⟨e,h.set (b+j) (.arr sz (yab a.toNat (z.map .v))),b⟩:=rfl
theorem zO {j sz bytes:Nat} {x y:Operand}:aOp cx (.append j sz bytes x y) ⟨e,h,b⟩ K=iG h (ev e y) fun sz' new=>(new=[]∨sz'=sz)∧Cm cx.fx cx.bn (b+j) sz bytes ⟨e,h,b⟩ (ev e x) new K:=rfl
theorem zP {sz:Nat} {x y:Operand}:aOp cx (.copy sz x y) ⟨e,h,b⟩ K=iG h (ev e y) fun sz' new=>(new=[]∨sz'=sz)∧uE cx.bn sz ⟨e,h,b⟩ (ev e x) new K:=rfl
theorem zQ {j sz bytes:Nat} {z:List Value} {l c:Operand}:aOp cx (.mkv j sz bytes z l c) ⟨e,h,b⟩ K=cE (ev e l) fun _ a=>cE (ev e c) fun _ c=>((0≤a∧a≤c)∧(bytes:Int)*c≤281474976710656∧c≤9223372036854775807)∧aF h (b+j)∧K (.sl (b+j) 0 a.toNat) ⟨e,h.set (b+j) (.arv sz (yab a.toNat (z.map .v))),b⟩:=rfl
theorem zR {kd:TypeDesc} {m k x:Operand}:aOp cx (.mset kd m k x) ⟨e,h,b⟩ K=Ff kd (ev e k) fun key=>iM h (ev e m) fun c es t=>c∉cx.bn∧gZ (dF kd key es 0) key (ev e x) es t fun B=>K (.v (.tuple #[])) ⟨e,h.set c B,b⟩:=rfl
theorem zV {j:Nat}:aOp cx (.mkmap j none) ⟨e,h,b⟩ K=(True∧aF h (b+j)∧K (.mp (b+j)) ⟨e,h.set (b+j) (.map [] 0),b⟩):=rfl
theorem zW {kd:TypeDesc} {z:Value} {ok:Bool} {m k:Operand}:aOp cx (.lookup kd z ok m k) ⟨e,h,b⟩ K=Ff kd (ev e k) fun key=>Mt h kd key z ok (ev e m) fun x=>K x ⟨e,h,b⟩:=rfl
theorem zX {m:Operand}:aOp cx (.mlen m) ⟨e,h,b⟩ K=iM h (ev e m) fun _ es _=>K (.i es.length) ⟨e,h,b⟩:=rfl
theorem zY {j:Nat} {m:Operand}:aOp cx (.range j m) ⟨e,h,b⟩ K=iM h (ev e m) fun _ _ c=>aF h (b+j)∧K (.ptr (b+j) 0 0) ⟨e,h.set (b+j) (.it (ev e m) c [] c),b⟩:=rfl
theorem zZ {i:Operand}:aOp cx (.next i) ⟨e,h,b⟩ K=itK h (ev e i) fun c m since seen last=>iM h m fun _ es t=>c∉cx.bn∧Mo es since seen last (K (.tup [.b false]) ⟨e,h,b⟩) fun key x born=>K (.tup [.b true,.v key,x]) ⟨e,h.set c (.it m since (seen++[born]) t),b⟩:=rfl
theorem ka {i:Operand}:aOp cx (.entry i) ⟨e,h,b⟩ K=itK h (ev e i) fun _ m _ seen last=>iM h m fun _ es c=>last=c∧cW seen.getLast? fun st=>To (es.find? fun q=>q.2.2==st) fun x=>K x ⟨e,h,b⟩:=rfl
theorem qs {n sz:Nat} {x i:Operand} {bn:List Nat}:rdB (.prim (.pidx n sz) [x,i]) e bn=bn:=rfl
theorem kb {n sz:Nat} {x i:Operand}:aOp cx (.prim (.pidx n sz) [x,i]) ⟨e,h,b⟩ K=cE (ev e i) fun _ j=>(0≤j∧j<n)∧Ha (j.toNat*sz) (ev e x) fun y=>K y ⟨e,h,b⟩:=rfl
theorem qt {n:Nat} {x:Operand} {bn:List Nat}:rdB (.prim (.pslc n false false false) [x]) e bn=bn:=rfl
theorem kc {n:Nat} {x:Operand}:aOp cx (.prim (.pslc n false false false) [x]) ⟨e,h,b⟩ K=gG h n (ev e x) none none none fun y=>K y ⟨e,h,b⟩:=rfl
theorem qu {n:Nat} {x l:Operand} {bn:List Nat}:rdB (.prim (.pslc n true false false) [x,l]) e bn=bn:=rfl
theorem ke {n:Nat} {x l:Operand}:aOp cx (.prim (.pslc n true false false) [x,l]) ⟨e,h,b⟩ K=cE (ev e l) fun _ l=>gG h n (ev e x) (some l) none none fun y=>K y ⟨e,h,b⟩:=rfl
theorem qv {n:Nat} {x u:Operand} {bn:List Nat}:rdB (.prim (.pslc n false true false) [x,u]) e bn=bn:=rfl
theorem kf {n:Nat} {x u:Operand}:aOp cx (.prim (.pslc n false true false) [x,u]) ⟨e,h,b⟩ K=cE (ev e u) fun _ u=>gG h n (ev e x) none (some u) none fun y=>K y ⟨e,h,b⟩:=rfl
theorem qw {n:Nat} {x l u:Operand} {bn:List Nat}:rdB (.prim (.pslc n true true false) [x,l,u]) e bn=bn:=rfl
theorem kg {n:Nat} {x l u:Operand}:aOp cx (.prim (.pslc n true true false) [x,l,u]) ⟨e,h,b⟩ K=cE (ev e l) fun _ l=>cE (ev e u) fun _ u=>gG h n (ev e x) (some l) (some u) none fun y=>K y ⟨e,h,b⟩:=rfl
theorem qx {n:Nat} {x l u m:Operand} {bn:List Nat}:rdB (.prim (.pslc n true true true) [x,l,u,m]) e bn=bn:=rfl
theorem kh {n:Nat} {x l u m:Operand}:aOp cx (.prim (.pslc n true true true) [x,l,u,m]) ⟨e,h,b⟩ K=cE (ev e l) fun _ l=>cE (ev e u) fun _ u=>cE (ev e m) fun _ m=>gG h n (ev e x) (some l) (some u) (some m) fun y=>K y ⟨e,h,b⟩:=rfl
theorem qy {neg:Bool} {x y:Operand} {bn:List Nat}:rdB (.prim (.peq neg) [x,y]) e bn=bn:=rfl
theorem kj {neg:Bool} {x y:Operand}:aOp cx (.prim (.peq neg) [x,y]) ⟨e,h,b⟩ K=Gz (ev e x) (ev e y) fun t=>K (.b (if neg then !t else t)) ⟨e,h,b⟩:=rfl
theorem qz {n sz:Nat} {x i:Operand} {bn:List Nat}:rdB (.prim (.aidx n sz true) [x,i]) e bn=bn:=rfl
theorem kk {n sz:Nat} {x i:Operand}:aOp cx (.prim (.aidx n sz true) [x,i]) ⟨e,h,b⟩ K=cE (ev e i) fun _ j=>(0≤j∧j<n)∧He (ev e x) fun cs=>bX (some sz) (j.toNat*sz) cs fun y=>K y ⟨e,h,b⟩:=rfl
theorem qA {n sz:Nat} {x i:Operand} {bn:List Nat}:rdB (.prim (.aidx n sz false) [x,i]) e bn=bn:=rfl
theorem kn {n sz:Nat} {x i:Operand}:aOp cx (.prim (.aidx n sz false) [x,i]) ⟨e,h,b⟩ K=cE (ev e i) fun _ j=>(0≤j∧j<n)∧He (ev e x) fun cs=>bX none (j.toNat*sz) cs fun y=>K y ⟨e,h,b⟩:=rfl
theorem qB {neg:Bool} {ks:List (Nat × TypeDesc)} {x y:Operand} {bn:List Nat}:rdB (.prim (.aeq neg ks) [x,y]) e bn=bn:=rfl
theorem ko {neg:Bool} {ks:List (Nat × TypeDesc)} {x y:Operand}:aOp cx (.prim (.aeq neg ks) [x,y]) ⟨e,h,b⟩ K=cW (mP (ev e x)) fun xs=>cW (mP (ev e y)) fun ys=>dU xs ys ks fun t=>K (.b (if neg then !t else t)) ⟨e,h,b⟩:=rfl
theorem qC {x i:Operand} {bn:List Nat}:rdB (.prim .sidx [x,i]) e bn=bn:=rfl
theorem kp {x i:Operand}:aOp cx (.prim .sidx [x,i]) ⟨e,h,b⟩ K=iA (ev e x) fun t=>cE (ev e i) fun _ j=>0≤j∧cW t[j.toNat]? fun c=>K (.v (.int .u8 c.toNat)) ⟨e,h,b⟩:=rfl
theorem qD {x:Operand} {bn:List Nat}:rdB (.prim (.sslc false false) [x]) e bn=bn:=rfl
theorem kq {x:Operand}:aOp cx (.prim (.sslc false false) [x]) ⟨e,h,b⟩ K=iA (ev e x) fun t=>pP t none none fun y=>K y ⟨e,h,b⟩:=rfl
theorem qE {x l:Operand} {bn:List Nat}:rdB (.prim (.sslc true false) [x,l]) e bn=bn:=rfl
theorem kr {x l:Operand}:aOp cx (.prim (.sslc true false) [x,l]) ⟨e,h,b⟩ K=iA (ev e x) fun t=>cE (ev e l) fun _ l=>pP t (some l) none fun y=>K y ⟨e,h,b⟩:=rfl
theorem qF {x u:Operand} {bn:List Nat}:rdB (.prim (.sslc false true) [x,u]) e bn=bn:=rfl
theorem kv {x u:Operand}:aOp cx (.prim (.sslc false true) [x,u]) ⟨e,h,b⟩ K=iA (ev e x) fun t=>cE (ev e u) fun _ u=>pP t none (some u) fun y=>K y ⟨e,h,b⟩:=rfl
theorem qG {x l u:Operand} {bn:List Nat}:rdB (.prim (.sslc true true) [x,l,u]) e bn=bn:=rfl
theorem kw {x l u:Operand}:aOp cx (.prim (.sslc true true) [x,l,u]) ⟨e,h,b⟩ K=iA (ev e x) fun t=>cE (ev e l) fun _ l=>cE (ev e u) fun _ u=>pP t (some l) (some u) fun y=>K y ⟨e,h,b⟩:=rfl
theorem qH {o:BinOp} {x y:Operand} {bn:List Nat}:rdB (.prim (.sbin o) [x,y]) e bn=bn:=rfl
theorem kx {o:BinOp} {x y:Operand}:aOp cx (.prim (.sbin o) [x,y]) ⟨e,h,b⟩ K=iA (ev e x) fun t=>iA (ev e y) fun u=>nS o t u fun y=>K y ⟨e,h,b⟩:=rfl
theorem qI {mx:Bool} {x:Operand} {xr:List Operand} {bn:List Nat}:rdB (.prim (.mm mx) (x::xr)) e bn=bn:=rfl
theorem ky {mx:Bool} {x:Operand} {xr:List Operand}:aOp cx (.prim (.mm mx) (x::xr)) ⟨e,h,b⟩ K=mmP mx (ev e x) (xr.map (ev e)) fun y=>K y ⟨e,h,b⟩:=rfl
theorem qJ {g n:Nat} {i:Operand} {bn:List Nat}:rdB (.prim (.gidx g n) [i]) e bn=bn:=rfl
theorem kz {g n:Nat} {i:Operand}:aOp cx (.prim (.gidx g n) [i]) ⟨e,h,b⟩ K=cE (ev e i) fun _ j=>(0≤j∧j<n)∧cW (Lv g n) fun cs=>K (.rp 1 (cs.map fun v=>[.v v]) j.toNat 0) ⟨e,h,b⟩:=rfl
theorem qK {n:Nat} {x:Operand} {bn:List Nat}:rdB (.prim (.s2a n) [x]) e bn=bn:=rfl
theorem kC {n:Nat} {x:Operand}:aOp cx (.prim (.s2a n) [x]) ⟨e,h,b⟩ K=Oi n (ev e x) fun y=>K y ⟨e,h,b⟩:=rfl
theorem qL {x:Operand} {bn:List Nat}:rdB (.prim .cpl [x]) e bn=bn:=rfl
theorem kD {x:Operand}:aOp cx (.prim .cpl [x]) ⟨e,h,b⟩ K=cE (ev e x) fun k j=>cK .xor false k (if k.signed then -1 else k.max) j fun y=>K y ⟨e,h,b⟩:=rfl
theorem kF {sz j:Nat} {z:List Value} {x:Operand}:aOp cx (.eff (.clr sz z) j [x]) ⟨e,h,b⟩ K=No cx.bn sz z (ev e x) ⟨e,h,b⟩ K:=rfl
theorem kG {ks:List (Nat × TypeDesc)} {z:Value} {ok:Bool} {j:Nat} {m k:Operand}:aOp cx (.eff (.look ks z ok) j [m,k]) ⟨e,h,b⟩ K=An ks (ev e k) fun us=>rB h ks us z ok (ev e m) fun x=>K x ⟨e,h,b⟩:=rfl
theorem kH {ks:List (Nat × TypeDesc)} {j:Nat} {m k x:Operand}:aOp cx (.eff (.mset ks) j [m,k,x]) ⟨e,h,b⟩ K=An ks (ev e k) fun us=>iM h (ev e m) fun c es t=>(c∉cx.bn∧Bo ks es)∧gZ (some (iD us es 0)) (.agg us.toArray) (ev e x) es t fun B=>K (.v (.tuple #[])) ⟨e,h.set c B,b⟩:=rfl
theorem kI {j:Nat} {x:Operand}:aOp cx (.eff .b2s j [x]) ⟨e,h,b⟩ K=iG h (ev e x) fun sz els=>(els=[]∨sz=1)∧cW (bytesOf els) fun l=>K (.v (.string ⟨l.toArray⟩)) ⟨e,h,b⟩:=rfl
theorem kJ {g n j:Nat}:aOp cx (.eff (.gload g n) j []) ⟨e,h,b⟩ K=cW (Lv g n) fun cs=>K (.agg (cs.map .v)) ⟨e,h,b⟩:=rfl
theorem kK {j:Nat} {x y:Operand}:aOp cx (.eff .cps j [x,y]) ⟨e,h,b⟩ K=iA (ev e y) fun t=>uE cx.bn 1 ⟨e,h,b⟩ (ev e x) (eM t) K:=rfl
theorem kL {bytes j:Nat} {x y:Operand}:aOp cx (.eff (.aps bytes) j [x,y]) ⟨e,h,b⟩ K=iA (ev e y) fun t=>Cm cx.fx cx.bn (b+j) 1 bytes ⟨e,h,b⟩ (ev e x) (eM t) K:=rfl
theorem kM {sz n j:Nat} {z:List Value} {ix:List Nat} {xs:List Operand}:aOp cx (.eff (.litv sz n z ix) j xs) ⟨e,h,b⟩ K=((xs.map (ev e)).length=ix.length∧Mw sz (yab n (z.map .v)) (ix.zip (xs.map (ev e))) fun els=>aF h (b+j)∧K (.sl (b+j) 0 n) ⟨e,h.set (b+j) (.arv sz els),b⟩):=rfl
theorem kN {sz bytes j:Nat} {x y:Operand}:aOp cx (.eff (.appv sz bytes) j [x,y]) ⟨e,h,b⟩ K=Jm h (ev e y) fun sz' new=>(sz'=sz∧new≠[]∧(new.all fun r=>r.all isC)=true)∧Sj cx.fx cx.bn (b+j) sz bytes ⟨e,h,b⟩ (ev e x) new K:=rfl
theorem kO {f:FuncId} {xs:List Operand}:aOp cx (.call f xs) ⟨e,h,b⟩ K=aR cx f (xs.map (ev e)) ⟨e,h,b⟩ K:=rfl
theorem qM {x:Operand} {i:Nat} {bn:List Nat}:rdB (.ext x i) e bn=bn:=rfl
theorem qN {x:Operand} {bn:List Nat}:rdB (.nilc x) e bn=bn:=rfl
theorem qO {t:Bool} {x y:Operand} {bn:List Nat}:rdB (.eqn t x y) e bn=bn:=rfl
theorem qP {n:Option Nat} {x:Operand} {bn:List Nat}:rdB (.load n x) e bn=rdK (ev e x) bn:=by
 show (match ev e x with|.ptr k _ _=>k::bn|_=>bn)=_
 unfold rdK
 cases ev e x<;>rfl
theorem kP {x:Operand} {i:Nat}:aOp cx (.ext x i) ⟨e,h,b⟩ K=Ut (ev e x) fun vs=>cW vs[i]? fun y=>K y ⟨e,h,b⟩:=by
 simp only [aOp,Ut];split<;>simp_all
theorem kQ {x:Operand}:aOp cx (.nilc x) ⟨e,h,b⟩ K=Te (ev e x) fun y=>K y ⟨e,h,b⟩:=by
 simp only [aOp,Te];split<;>simp_all
theorem kR {f:Operand} {xs:List Operand}:aOp cx (.callv f xs) ⟨e,h,b⟩ K=Yw (ev e f) fun g cs=>aR cx g (xs.map (ev e)++cs) ⟨e,h,b⟩ K:=by
 simp only [aOp,Yw];split<;>simp_all
theorem qX:aw cx .skip N X R ⟨e,h,b⟩=N ⟨e,h,b⟩:=rfl
theorem qY {n:Nat} {l:List aH}:aw cx (.reg n l) N X R ⟨e,h,b⟩=eV cx l ⟨e,h++yab n .dead,h.length⟩ N:=rfl
theorem qZ {m n:Nat} {l:List aH}:aw cx (.tail m n l) N X R ⟨e,h,b⟩=eV cx l ⟨e,h++yab n .dead,h.length⟩ N:=rfl
theorem za {n:Nat} {l:List aH}:aw cx (.qui n l) N X R ⟨e,h,b⟩=eV cx l ⟨e,h++yab n .dead,h.length⟩ N:=rfl
theorem qQ {n:Nat} {p:LPlan}:aw cx (.tree n p) N X R ⟨e,h,b⟩=awP cx p [] N ⟨e,h++yab n .dead,h.length⟩:=rfl
theorem qR {bn:List Nat}:awP cx .done bn Ks ⟨e,h,b⟩=Ks ⟨e,h,b⟩:=rfl
theorem qS {bn:List Nat}:awP cx .none bn Ks ⟨e,h,b⟩=True:=rfl
theorem qT {i:Nat} {D bn:List Nat} {p:LPlan}:awP cx (.take i D ⟨d,op,none⟩ p) bn Ks ⟨e,h,b⟩=aOp cx op ⟨e,h,b⟩ fun x s'=>awP cx p (rdB op e bn) Ks (s'.put d x):=rfl
theorem qU {i g:Nat} {w:Bool} {D bn:List Nat} {p:LPlan}:awP cx (.take i D ⟨d,op,some (g,w)⟩ p) bn Ks ⟨e,h,b⟩=aZ (get e g) w
   (aOp cx op ⟨(g,.b w)::e,h,b⟩ fun x s'=>awP cx p (rdB op e bn) Ks (s'.put d x))
   (awP cx p (rdB op e bn) Ks (St.put ⟨(g,.b !w)::e,h,b⟩ d (.v (.tuple #[]))))
   (awP cx p (rdB op e bn) Ks (St.put ⟨e,h,b⟩ d (.v (.tuple #[])))):=rfl
theorem qV {i:Nat} {r:Bool} {bn:List Nat} {p q:LPlan}:awP cx (.alt i ⟨d,op,none⟩ r p q) bn Ks ⟨e,h,b⟩ =
   ((aOp ⟨cx.C,cx.fx,if r then bn else [],cx.it,cx.y,cx.rk⟩ op ⟨e,h,b⟩ fun x s'=>awP cx p (if r then bn else []) Ks (s'.put d x))∧awP cx q bn Ks ⟨e,h,b⟩):=rfl
theorem qW {i g:Nat} {w r:Bool} {bn:List Nat} {p q:LPlan}:awP cx (.alt i ⟨d,op,some (g,w)⟩ r p q) bn Ks ⟨e,h,b⟩ =
   ((aZ (get e g) w
     (aOp ⟨cx.C,cx.fx,if r then bn else [],cx.it,cx.y,cx.rk⟩ op ⟨(g,.b w)::e,h,b⟩ fun x s'=>awP cx p (if r then bn else []) Ks (s'.put d x))
     (awP cx p (if r then bn else []) Ks (St.put ⟨(g,.b !w)::e,h,b⟩ d (.v (.tuple #[]))))
     (awP cx p (if r then bn else []) Ks (St.put ⟨e,h,b⟩ d (.v (.tuple #[])))))∧awP cx q bn Ks ⟨e,h,b⟩):=rfl
theorem zb {x y:LCode}:aw cx (.seq x y) N X R ⟨e,h,b⟩=aw cx x (fun s'=>aw cx y N X R s') X R ⟨e,h,b⟩:=rfl
theorem zc {c:Operand} {x y:LCode}:aw cx (.cond c x y) N X R ⟨e,h,b⟩=brV (ev e c) (aw cx x N X R ⟨e,h,b⟩) (aw cx y N X R ⟨e,h,b⟩):=rfl
theorem zd {i:Nat} {x:LCode}:aw cx (.block i x) N X R ⟨e,h,b⟩=aw cx x N (fun j s'=>if j=i then N s' else X j s') R ⟨e,h,b⟩:=rfl
theorem ze {x:LCode}:aw cx (.loop x) N X R ⟨e,h,b⟩=Ew cx.fx (fun N=>aw cx x N X R) ⟨e,h,b⟩:=rfl
theorem zf {i:Nat}:aw cx (.exit i) N X R ⟨e,h,b⟩=X i ⟨e,h,b⟩:=rfl
theorem zg:aw cx .ret N X R ⟨e,h,b⟩=R ⟨e,h,b⟩:=rfl
theorem we {A B:Prop}:br true A B=A:=by simp [br]
theorem wg {A B:Prop}:br false A B=B:=by simp [br]
theorem wd {t:Bool} {A B:Prop}:brV (.v (.bool t)) A B=br t A B:=rfl
theorem wh {t:Bool} {w:Bool} {A B C:Prop}:aZ (.v (.bool t)) w A B C=if w then br t A B else br t B A:=rfl
theorem wi {w:Bool} {A B C:Prop}:aZ (.v (.tuple #[])) w A B C=C:=rfl
theorem wb {k:IntKind} {a:Int} {K:IntKind→Int→Prop}:cE (.v (.int k a)) K=K k a:=rfl
theorem wc {a:Bool} {K:Bool→Prop}:rJ (.v (.bool a)) K=K a:=rfl
theorem cC {fx:List Nat} {n:Nat} {rs:List eK} {R:V→List Blk→Prop}:dD fx n rs R ⟨e,h,b⟩=aY h e rs [] fun xs=>∃ p,(leH h p∧aD fx p∧n≤p.length∧wfV p (a7 xs)∧wfB p p)∧R (a7 xs) p:=rfl
theorem wl {fx:List Nat} {p:Env} {q:List Blk} {b':Nat}:leS fx ⟨e,h,b⟩ ⟨p,q,b'⟩=(leE e p∧leH h q∧aD fx q∧wfE q p∧wfB q q):=rfl
end
section
variable {cx:Cx} {h:List Blk} {e:Env} {s:St} {fx bn:List Nat}
def Is (x:V):V→List Blk→Prop:=fun r h=>r=x∧h=[]
theorem wj {e:Env} {h:List Blk} {b:Nat} {rs:List eK} {x:V}:dD [] 0 rs (Is x) ⟨e,h,b⟩=aY h e rs [] fun xs=>wfV [] (a7 xs)∧a7 xs=x:=by
 unfold dD Is
 simp only
 congr 1
 funext xs
 apply propext
 constructor
 ·rintro ⟨p,⟨_,_,_,h4,_⟩,h5,rfl⟩
  exact ⟨h4,h5⟩
 ·rintro ⟨h4,h5⟩
  exact ⟨[],⟨by unfold leH;trivial,trivial,yad _,h4,trivial⟩,h5,rfl⟩
theorem kU {t:Nat}:ev e (.tmp t)=get e t:=rfl
theorem kV {c:Value}:ev e (.const c)=aA c:=rfl
theorem kX {f:FuncId}:ev e (.func f)=.clo f []:=rfl
theorem kY {i:Nat}:get [] i=.any:=rfl
theorem kZ {j i:Nat} {x:V} {r:Env}:get ((j,x)::r) i=if i=j then x else get r i:=rfl
theorem wa {k:Nat}:blk h k=h.getD k .dead:=rfl
@[congr] theorem arP {α:Type} {o o':Option α} {K:α→Prop} (q:o=o'):cW o K=cW o' K:=by rw [q]
@[congr] theorem arY {x x':V} {K:IntKind→Int→Prop} (q:x=x'):cE x K=cE x' K:=by rw [q]
@[congr] theorem aoJ {x x':V} {K:Bool→Prop} (q:x=x'):rJ x K=rJ x' K:=by rw [q]
@[congr] theorem asW {x x':V} {A B:Prop} (q:x=x'):brV x A B=brV x' A B:=by rw [q]
@[congr] theorem anC {x x':V} {w:Bool} {A B C:Prop} (q:x=x'):aZ x w A B C=aZ x' w A B C:=by rw [q]
@[congr] theorem anZ {n:Option Nat} {p p':V} {K:V→Prop} (q:p=p'):hJ h n p K=hJ h n p' K:=by rw [q]
@[congr] theorem aoA {n:Option Nat} {i f:Nat} {b b':Blk} {K:V→Prop} (q:b=b'):pQ n i f b K=pQ n i f b' K:=by rw [q]
@[congr] theorem anB {n:Option Nat} {f:Nat} {cs cs':List V} {K:V→Prop} (q:cs=cs'):bX n f cs K=bX n f cs' K:=by rw [q]
@[congr] theorem amY {n:Nat} {p p':V} {cs cs':List V} {K:List Blk→Prop} (q:p=p') (q2:cs=cs'):y9 bn h n p cs K=y9 bn h n p' cs' K:=by rw [q,q2]
@[congr] theorem amZ {n i f:Nat} {cs:List V} {b b':Blk} {K:Blk→Prop} (q:b=b'):o0 n i f cs b K=o0 n i f cs b' K:=by rw [q]
@[congr] theorem asD {n:Nat} {x x':V} {K:V→Prop} (q:x=x'):Ha n x K=Ha n x' K:=by rw [q]
@[congr] theorem arZ {z:Nat} {n n':Int} {x x':V} {K:V→Prop} (q:x=x') (q2:n=n'):Fk h z n x K=Fk h z n' x' K:=by rw [q,q2]
@[congr] theorem arU {x x':V} {K:V→Prop} (q:x=x'):Fa x K=Fa x' K:=by rw [q]
@[congr] theorem aoC {x x':V} {K:V→Prop} (q:x=x'):Ie x K=Ie x' K:=by rw [q]
@[congr] theorem anP {x x':V} {K:Nat→List (List V)→Prop} (q:x=x'):iG h x K=iG h x' K:=by rw [q]
@[congr] theorem arQ {x x':Option V} {K:Option Int→Prop} (q:x=x'):Al x K=Al x' K:=by rw [q]
@[congr] theorem arK {z:Nat} {x x':V} {l u m:Option Int} {K:V→Prop} (q:x=x'):z7 h z x l u m K=z7 h z x' l u m K:=by rw [q]
@[congr] theorem anD {acc acc':List V} {ps:List (Nat × Nat × Operand)} {K:V→Prop} (q:acc=acc'):bJ e acc ps K=bJ e acc' ps K:=by rw [q]
@[congr] theorem aoB {sz:Nat} {acc acc':List (List V)} {ps:List (Nat × Operand)} {K:List (List V)→Prop} (q:acc=acc'):bR e sz acc ps K=bR e sz acc' ps K:=by rw [q]
@[congr] theorem asE {x x':V} {K:Bool→Prop} (q:x=x'):Hb x K=Hb x' K:=by rw [q]
@[congr] theorem asL {id sz bytes:Nat} {x x':V} {new new':List (List V)} {K:V→St→Prop} (q:x=x') (q2:new=new'):Cm fx bn id sz bytes s x new K=Cm fx bn id sz bytes s x' new' K:=by rw [q,q2]
@[congr] theorem asM {k i n sz bytes:Nat} {new:List (List V)} {b b':Blk} {K:V→St→Prop} (q:b=b'):Pw fx bn k i n sz bytes s new b K=Pw fx bn k i n sz bytes s new b' K:=by rw [q]
@[congr] theorem anF {id sz bytes:Nat} {old old' new:List (List V)} {K:V→St→Prop} (q:old=old'):rM id sz bytes s old new K=rM id sz bytes s old' new K:=by rw [q]
@[congr] theorem aoF {sz:Nat} {x x':V} {new:List (List V)} {K:V→St→Prop} (q:x=x'):uE bn sz s x new K=uE bn sz s x' new K:=by rw [q]
@[congr] theorem arI {x x':V} {K:List V→Prop} (q:x=x'):Ut x K=Ut x' K:=by rw [q]
@[congr] theorem arR {x x':V} {K:V→Prop} (q:x=x'):Te x K=Te x' K:=by rw [q]
@[congr] theorem asK {x x':V} {K:FuncId→List V→Prop} (q:x=x'):Yw x K=Yw x' K:=by rw [q]
@[congr] theorem asN {x x':V} {K:List V→Prop} (q:x=x'):He x K=He x' K:=by rw [q]
@[congr] theorem aoI {f:FuncId} {xs xs':List V} {s s':St} {K:V→St→Prop} (q:xs=xs') (q2:s=s'):aR cx f xs s K=aR cx f xs' s' K:=by rw [q,q2]
@[congr] theorem anE {op:BinOp} {ex:Bool} {k:IntKind} {a a' b b':Int} {K:V→Prop} (q:a=a') (q2:b=b'):cK op ex k a b K=cK op ex k a' b' K:=by rw [q,q2]
@[congr] theorem asF {xs xs' ys ys':List V} {ks:List (Nat × TypeDesc)} {K:Bool→Prop} (q:xs=xs') (q2:ys=ys'):dU xs ys ks K=dU xs' ys' ks K:=by rw [q,q2]
@[congr] theorem asV {kd:TypeDesc} {x x' y y':Option V} {K:Bool→Prop} (q:x=x') (q2:y=y'):eqC kd x y K=eqC kd x' y' K:=by rw [q,q2]
@[congr] theorem arM {ls:List eK} {acc acc':List V} {K:List V→Prop} (q:acc=acc'):aY h e ls acc K=aY h e ls acc' K:=by rw [q]
@[congr] theorem asX {p:LPlan} {s s':St} {Ks:St→Prop} (q:s=s'):awP cx p bn Ks s=awP cx p bn Ks s':=by rw [q]
@[congr] theorem asO {l:List aH} {s s':St} {Ks:St→Prop} (q:s=s'):eV cx l s Ks=eV cx l s' Ks:=by rw [q]
@[congr] theorem asZ {c:LCode} {s s':St} {N R:St→Prop} {X:Nat→St→Prop} (q:s=s'):aw cx c N X R s=aw cx c N X R s':=by rw [q]
@[congr] theorem asY {o:LOp} {s s':St} {K:V→St→Prop} (q:s=s'):aOp cx o s K=aOp cx o s' K:=by rw [q]
end
theorem cX {fx:List Nat} {f:(St→Prop)→St→Prop} {s:St} {G:Type} (pat:G→St) (I:G→Prop) (μ:G→Nat) (g:G) (h0:I g) (h1:leS fx s (pat g))
  (h:∀ g,I g→f (fun s'=>∃ g',(I g'∧μ g'<μ g)∧leS fx s' (pat g')) (pat g)):Ew fx f s :=
 ⟨G,pat,I,μ,leS fx,fun a _ h=>⟨a,.refl a,h⟩,⟨g,h0,_,.refl s,h1⟩,h⟩
theorem fS {fx:List Nat} {f:(St→Prop)→St→Prop} {s s0:St} {G:Type} (hg:eL fx s s0) (pat:G→St) (I:G→Prop) (μ:G→Nat) (g:G) (h0:I g) (h1:leS fx s0 (pat g))
  (h:∀ g,I g→f (fun s'=>∃ g',(I g'∧μ g'<μ g)∧leS fx s' (pat g')) (pat g)):Ew fx f s :=
 ⟨G,pat,I,μ,leS fx,fun a _ h=>⟨a,.refl a,h⟩,⟨g,h0,s0,hg,h1⟩,h⟩
theorem u4 {cx:Cx} {f:FuncId} {args:List V} {e:Env} {h:List Blk} {b:Nat} {K:V→St→Prop} (zas:List V) (R:V→List Blk→Prop) (h1:aE h (fun _=>none) args∧wkL zas (aL h (fun _=>none) args)) (h2:cx.C f zas [] [] R)
  (h3:∀ r h',R r h'→aD cx.fx (h++h'.map (bA (fun j=>some (h.length+j))))∧K (ren (fun j=>some (h.length+j)) r) ⟨e,h++h'.map (bA (fun j=>some (h.length+j))),b⟩):aR cx f args ⟨e,h,b⟩ K:=by
 have hp:pos []=fun _=>none:=rfl
 have hb:back [] h.length=fun j=>some (h.length+j):=by funext j;simp [back]
 have hk:∀ l:List Blk,l.map (aK [])=l:=tR
 refine ⟨[],zas,[],R,⟨⟨List.nodup_nil,by simp⟩,by simp⟩,?_,?_,by simpa using h2,?_⟩
 ·rw [hp];exact h1.1
 ·rw [hp];exact h1.2
 ·intro r h' hR _
  have:=h3 r h' hR
  simp only [hb,aN,List.filterMap_nil,hk,i4]
  exact this
section
variable {h:List Blk} {e:Env} {s:St} {fx bn:List Nat} {b:Nat}
def Lr (b:Blk) (i n:Nat) (K:Nat→List (List V)→Prop):Prop :=
 match b with
 | .arr sz els=>i+n≤els.length∧K sz ((els.drop i).take n)
 | .var cs=>(i+n≤cs.length∧((cs.drop i).take n).all isD=true)∧K 1 (((cs.drop i).take n).map fun c=>[c])
 | _=>False
theorem qat {α:Type} {x:α} {K:α→Prop}:cW (some x) K=K x:=rfl
theorem qau {α:Type} {K:α→Prop}:cW none K=False:=rfl
theorem qav {n:Option Nat} {k i f:Nat} {K:V→Prop}:hJ h n (.ptr k i f) K=pQ n i f (blk h k) K:=rfl
theorem qaw {n:Option Nat} {z i f:Nat} {els:List (List V)} {K:V→Prop}:hJ h n (.rp z els i f) K=∃ hi:i<els.length,bX n f (els[i]'hi) K:=rfl
theorem qax {n:Option Nat} {f:Nat} {cs:List V} {K:V→Prop}:pQ n 0 f (.var cs) K=bX n f cs K:=by
 show bX n (0+f) cs K=_
 rw [yap]
theorem qay {n:Option Nat} {i:Nat} {cs:List V} {K:V→Prop}:pQ n i 0 (.var cs) K=bX n i cs K:=rfl
theorem qaz {n:Option Nat} {i f z:Nat} {els:List (List V)} {K:V→Prop}:pQ n i f (.arr z els) K=∃ hi:i<els.length,bX n f (els[i]'hi) K:=rfl
theorem qaA {n:Option Nat} {i f z:Nat} {els:List (List V)} {K:V→Prop}:pQ n i f (.arv z els) K=∃ hi:i<els.length,bX n f (els[i]'hi) K:=rfl
theorem qaB {f:Nat} {cs:List V} {K:V→Prop}:bX none f cs K=cW cs[f]? K:=rfl
theorem qaC {m f:Nat} {cs:List V} {K:V→Prop}:bX (some m) f cs K=(f+m≤cs.length∧K (.agg ((cs.drop f).take m))):=rfl
theorem qaD {n k i f:Nat} {cs:List V} {K:List Blk→Prop}:y9 bn h n (.ptr k i f) cs K=((cs.length=n∧k∉bn)∧cs.all isC=true∧o0 n i f cs (blk h k) fun b=>K (h.set k b)):=rfl
theorem qaE {n f:Nat} {cs old:List V} {K:Blk→Prop}:o0 n 0 f cs (.var old) K=((f+n≤old.length)∧K (.var (splice old f cs))):=by
 show ((0+f+n≤old.length)∧K (.var (splice old (0+f) cs)))=_
 rw [yap]
theorem qaF {n i:Nat} {cs old:List V} {K:Blk→Prop}:o0 n i 0 cs (.var old) K=((i+n≤old.length)∧K (.var (splice old i cs))):=rfl
theorem qaG {n i f z:Nat} {cs:List V} {els:List (List V)} {K:Blk→Prop}:o0 n i f cs (.arr z els) K=((f+n≤z∧cs.all isD=true)∧∃ hi:i<els.length,K (.arr z (els.set i (splice (els[i]'hi) f cs)))):=rfl
theorem qaH {n i f z:Nat} {cs:List V} {els:List (List V)} {K:Blk→Prop}:o0 n i f cs (.arv z els) K=((f+n≤z)∧∃ hi:i<els.length,K (.arv z (els.set i (splice (els[i]'hi) f cs)))):=rfl
theorem qaI {o k i f:Nat} {K:V→Prop}:Ha o (.ptr k i f) K=K (.ptr k i (f+o)):=rfl
theorem qaJ {o z i f:Nat} {els:List (List V)} {K:V→Prop}:Ha o (.rp z els i f) K=K (.rp z els i (f+o)):=rfl
theorem qaK {z k i m:Nat} {n:Int} {K:V→Prop}:Fk h z n (.sl k i m) K=(dB z (blk h k)∧(0≤n∧n<m)∧K (.ptr k (i+n.toNat) 0)):=rfl
theorem qaL {z y:Nat} {els:List (List V)} {n:Int} {K:V→Prop}:Fk h z n (.ro y els) K=(y=z∧(0≤n∧n<els.length)∧K (.rp y els n.toNat 0)):=rfl
theorem qaM {z y:Nat} {els:List (List V)} {n:Int} {K:V→Prop}:Fk h z n (.bro y els) K=(y=z∧(0≤n∧n<els.length)∧K (.rp y els n.toNat 0)):=rfl
theorem qaN {z y:Nat} {els:List (List V)} {n:Int} {K:V→Prop}:Fk h z n (.full y els) K=(y=z∧(0≤n∧n<els.length)∧K (.rp y els n.toNat 0)):=rfl
theorem qaO {z:Nat} {n:Int} {K:V→Prop}:Fk h z n (.v (.slice none 0 0)) K=False:=rfl
theorem qaP {k i n:Nat} {K:V→Prop}:Fa (.sl k i n) K=(n≤maxLen→K (.i n)):=rfl
theorem qaQ {y:Nat} {els:List (List V)} {K:V→Prop}:Fa (.ro y els) K=(els.length≤maxLen→K (.i els.length)):=rfl
theorem qaR {y:Nat} {els:List (List V)} {K:V→Prop}:Fa (.bro y els) K=(els.length≤maxLen→K (.i els.length)):=rfl
theorem qaS {y:Nat} {els:List (List V)} {K:V→Prop}:Fa (.full y els) K=(els.length≤maxLen→K (.i els.length)):=rfl
theorem qaT {K:V→Prop}:Fa (.v (.slice none 0 0)) K=K (.i 0):=rfl
theorem qaU {t:ByteArray} {K:V→Prop}:Ie (.v (.string t)) K=K (.i t.size):=rfl
theorem qaV {vs:List V} {K:List V→Prop}:Ut (.tup vs) K=K vs:=rfl
theorem qaW {k i f:Nat} {K:V→Prop}:Te (.ptr k i f) K=K (.ptr k i f):=rfl
theorem qaX {f:FuncId} {cs:List V} {K:V→Prop}:Te (.clo f cs) K=K (.clo f cs):=rfl
theorem qaY {f:FuncId} {cs:List V} {K:FuncId→List V→Prop}:Yw (.clo f cs) K=K f cs:=rfl
theorem qaZ {cs:List V} {K:List V→Prop}:He (.agg cs) K=K cs:=rfl
theorem qba {k i n:Nat} {K:Nat→List (List V)→Prop}:iG h (.sl k i n) K=Lr (blk h k) i n K:=rfl
theorem qbb {i n z:Nat} {els:List (List V)} {K:Nat→List (List V)→Prop}:Lr (.arr z els) i n K=(i+n≤els.length∧K z ((els.drop i).take n)):=rfl
theorem qbc {z:Nat} {els:List (List V)} {K:Nat→List (List V)→Prop}:iG h (.ro z els) K=K z els:=rfl
theorem qbd {z:Nat} {els:List (List V)} {K:Nat→List (List V)→Prop}:iG h (.bro z els) K=K z els:=rfl
theorem qbe {z:Nat} {els:List (List V)} {K:Nat→List (List V)→Prop}:iG h (.full z els) K=K z els:=rfl
theorem qbf {K:Nat→List (List V)→Prop}:iG h (.v (.slice none 0 0)) K=K 0 []:=rfl
theorem qbg {K:Option Int→Prop}:Al none K=K none:=rfl
theorem qbh {k:IntKind} {n:Int} {K:Option Int→Prop}:Al (some (.v (.int k n))) K=K (some n):=rfl
theorem qbi {z k i n:Nat} {l u m:Option Int} {K:V→Prop}:z7 h z (.sl k i n) l u m K=(dB z (blk h k)∧bN n l u m∧K (.sl k (i+(l.getD 0).toNat) ((u.getD n).toNat-(l.getD 0).toNat))):=rfl
theorem qbj {z y:Nat} {els:List (List V)} {l u:Option Int} {K:V→Prop}:z7 h z (.ro y els) l u none K=(y=z∧bN els.length l u none∧K (.ro y ((els.drop (l.getD 0).toNat).take ((u.getD els.length).toNat-(l.getD 0).toNat)))):=rfl
theorem qbk {z y:Nat} {els:List (List V)} {l u:Option Int} {K:V→Prop}:z7 h z (.bro y els) l u none K=(y=z∧bN els.length l u none∧K (.bro y ((els.drop (l.getD 0).toNat).take ((u.getD els.length).toNat-(l.getD 0).toNat)))):=rfl
theorem qbl {z:Nat} {l u m:Option Int} {K:V→Prop}:z7 h z (.v (.slice none 0 0)) l u m K=(bN 0 l u m∧K (.v (.slice none 0 0))):=rfl
theorem qbm {k i n:Nat} {K:Bool→Prop}:Hb (.sl k i n) K=((0<n→K false)∧(n=0→K true∧K false)):=rfl
theorem qbn {z:Nat} {els:List (List V)} {K:Bool→Prop}:Hb (.ro z els) K=((els≠[]→K false)∧(els=[]→K true∧K false)):=rfl
theorem qbo {z:Nat} {els:List (List V)} {K:Bool→Prop}:Hb (.bro z els) K=((els≠[]→K false)∧(els=[]→K true∧K false)):=rfl
theorem qbp {K:Bool→Prop}:Hb (.v (.slice none 0 0)) K=K true:=rfl
theorem qbq {id sz bytes:Nat} {old new:List (List V)} {K:V→St→Prop}:rM id sz bytes ⟨e,h,b⟩ old new K=((old.length+new.length)*bytes≤140737488355328∧aF h id∧K (.sl id 0 (old.length+new.length)) ⟨e,h.set id (.arr sz (old++new)),b⟩):=rfl
theorem qbr {k i n sz bytes z:Nat} {new els:List (List V)} {K:V→St→Prop}:Pw fx bn k i n sz bytes ⟨e,h,b⟩ new (.arr z els) K=((z=sz∧i+n≤els.length∧(n+new.length)*bytes≤140737488355328)∧(k∉fx∧k∉bn)∧K (.sl k 0 (n+new.length)) ⟨aM [k] e,(h.map (aK [k])).set k (.arr sz ((els.drop i).take n++new)),b⟩):=rfl
theorem qbs {k i n id sz bytes:Nat} {new:List (List V)} {K:V→St→Prop}:Cm fx bn id sz bytes ⟨e,h,b⟩ (.sl k i n) new K=Pw fx bn k i n sz bytes ⟨e,h,b⟩ new (blk h k) K:=rfl
theorem qbt {id sz bytes:Nat} {new:List (List V)} {K:V→St→Prop}:Cm fx bn id sz bytes s (.v (.slice none 0 0)) new K=rM id sz bytes s [] new K:=rfl
theorem qbu {id sz bytes z:Nat} {els new:List (List V)} {K:V→St→Prop}:Cm fx bn id sz bytes s (.full z els) new K=((z=sz∧new≠[])∧rM id sz bytes s els new K):=rfl
theorem qbv {k i n sz z:Nat} {new els:List (List V)} {K:V→St→Prop}:Bt bn k i n sz ⟨e,h,b⟩ new (.arr z els) K=((z=sz∧i+n≤els.length∧k∉bn)∧K (.i (min new.length n:Nat)) ⟨e,h.set k (.arr sz (els.take i++new.take n++els.drop (i+min new.length n))),b⟩):=rfl
theorem qbw {k i n sz:Nat} {new:List (List V)} {cs:List V} {K:V→St→Prop}:Bt bn k i n sz ⟨e,h,b⟩ new (.var cs) K=((1=sz∧i+n≤cs.length∧k∉bn)∧K (.i (min new.length n:Nat)) ⟨e,h.set k (.var (splice cs i (new.take n).flatten)),b⟩):=rfl
theorem qbx {i n:Nat} {cs:List V} {K:Nat→List (List V)→Prop}:Lr (.var cs) i n K=((i+n≤cs.length∧((cs.drop i).take n).all isD=true)∧K 1 (((cs.drop i).take n).map fun c=>[c])):=rfl
theorem qby {n k i f:Nat} {l u m:Option Int} {K:V→Prop}:gG h n (.ptr k i f) l u m K=Ho n k (i+f) (blk h k) l u m K:=rfl
theorem qbz {n z i f:Nat} {els:List (List V)} {l u m:Option Int} {K:V→Prop}:gG h n (.rp z els i f) l u m K=(bN n l u m∧∃ hi:i<els.length,f+n≤(els[i]'hi).length ∧
   K (.bro 1 (((((els[i]'hi).drop f).drop (l.getD 0).toNat).take ((u.getD n).toNat-(l.getD 0).toNat)).map fun c=>[c]))):=rfl
theorem qbA {n k i:Nat} {cs:List V} {l u m:Option Int} {K:V→Prop}:Ho n k i (.var cs) l u m K=((i+n≤cs.length∧bN n l u m)∧K (.sl k (i+(l.getD 0).toNat) ((u.getD n).toNat-(l.getD 0).toNat))):=rfl
theorem qbB {K:Bool→Prop}:Gz (.v (.pointer none)) (.v (.pointer none)) K=K true:=rfl
theorem qbC {k i f:Nat} {K:Bool→Prop}:Gz (.ptr k i f) (.v (.pointer none)) K=K false:=rfl
theorem qbD {z i f:Nat} {els:List (List V)} {K:Bool→Prop}:Gz (.rp z els i f) (.v (.pointer none)) K=K false:=rfl
theorem qbE {t:ByteArray} {K:ByteArray→Prop}:iA (.v (.string t)) K=K t:=rfl
theorem qbF {t:ByteArray} {l u:Option Int} {K:V→Prop}:pP t l u K=(bN t.size l u none∧K (.v (.string (t.extract (l.getD 0).toNat (u.getD t.size).toNat)))):=rfl
theorem qbG {n k i m:Nat} {K:V→Prop}:Oi n (.sl k i m) K=((0<n∧n≤m)∧K (.ptr k i 0)):=rfl
theorem qbH {t u:ByteArray} {K:V→Prop}:nS .add t u K=(t.size+u.size≤9223372036854775807∧K (.v (.string (t++u)))):=rfl
theorem qbI {t u:ByteArray} {K:V→Prop}:nS .eql t u K=K (.b (t.toList==u.toList)):=rfl
theorem qbJ {t u:ByteArray} {K:V→Prop}:nS .neq t u K=K (.b (!(t.toList==u.toList))):=rfl
theorem qbK {t u:ByteArray} {K:V→Prop}:nS .lss t u K=K (.b (Op.bytesLess t.toList u.toList)):=rfl
theorem qbL {t u:ByteArray} {K:V→Prop}:nS .leq t u K=K (.b (Op.bytesLess t.toList u.toList||t.toList==u.toList)):=rfl
theorem qbM {t u:ByteArray} {K:V→Prop}:nS .gtr t u K=K (.b (!(Op.bytesLess t.toList u.toList||t.toList==u.toList))):=rfl
theorem qbN {t u:ByteArray} {K:V→Prop}:nS .geq t u K=K (.b (!(Op.bytesLess t.toList u.toList))):=rfl
theorem qbO {mx:Bool} {x:V} {K:V→Prop}:mmP mx x [] K=K x:=rfl
theorem qbP {mx:Bool} {k k':IntKind} {a c:Int} {r:List V} {K:V→Prop}:mmP mx (.v (.int k a)) (.v (.int k' c)::r) K=(k'=k∧mmP mx (.v (.int k (if mx then max a c else min a c))) r K):=rfl
theorem qbQ {sz k i n:Nat} {z:List Value} {K:V→St→Prop}:No bn sz z (.sl k i n) ⟨e,h,b⟩ K=Ts bn k i n sz z ⟨e,h,b⟩ (blk h k) K:=rfl
theorem qbR {sz:Nat} {z:List Value} {K:V→St→Prop}:No bn sz z (.v (.slice none 0 0)) s K=K (.v (.tuple #[])) s:=rfl
theorem qbS {k i n sz y:Nat} {z:List Value} {els:List (List V)} {K:V→St→Prop}:Ts bn k i n sz z ⟨e,h,b⟩ (.arr y els) K=((y=sz∧i+n≤els.length∧k∉bn)∧K (.v (.tuple #[])) ⟨e,h.set k (.arr sz (els.take i++yab n (z.map .v)++els.drop (i+n))),b⟩):=rfl
theorem qbT {ks:List (Nat × TypeDesc)} {x y:Value} {K:List Value→Prop}:An ks (.agg [.v x,.v y]) K=(([x,y].length=ks.length∧([x,y].zip ks).all (fun p=>isKey p.2.2 p.1)=true)∧K [x,y]):=rfl
theorem qbU {ks:List (Nat × TypeDesc)} {x y z:Value} {K:List Value→Prop}:An ks (.agg [.v x,.v y,.v z]) K=(([x,y,z].length=ks.length∧([x,y,z].zip ks).all (fun p=>isKey p.2.2 p.1)=true)∧K [x,y,z]):=rfl
theorem qbV {ks:List (Nat × TypeDesc)} {us:List Value} {z:Value} {ok:Bool} {k:Nat} {K:V→Prop}:rB h ks us z ok (.mp k) K=Ms (blk h k) fun es _=>Bo ks es∧eF (some (iD us es 0)) z ok K:=rfl
theorem qbW {ks:List (Nat × TypeDesc)} {us:List Value} {z:Value} {ok:Bool} {K:V→Prop}:rB h ks us z ok (.v (.map none)) K=eF (some none) z ok K:=rfl
theorem qbX {k i n sz:Nat} {new:List (List V)} {K:V→St→Prop}:uE bn sz ⟨e,h,b⟩ (.sl k i n) new K=Bt bn k i n sz ⟨e,h,b⟩ new (blk h k) K:=rfl
theorem qbY {kd:TypeDesc} {y:Value} {K:Value→Prop}:Ff kd (.v y) K=(isKey kd y=true∧K y):=rfl
theorem qbZ {k:Nat} {K:Nat→List (Value × V × Nat)→Nat→Prop}:iM h (.mp k) K=Ms (blk h k) (K k):=rfl
theorem qca {es:List (Value × V × Nat)} {c:Nat} {K:List (Value × V × Nat)→Nat→Prop}:Ms (.map es c) K=K es c:=rfl
theorem qcb {kd:TypeDesc} {key z:Value} {ok:Bool} {k:Nat} {K:V→Prop}:Mt h kd key z ok (.mp k) K=Ms (blk h k) fun es _=>eF (dF kd key es 0) z ok K:=rfl
theorem qcc {kd:TypeDesc} {key z:Value} {ok:Bool} {K:V→Prop}:Mt h kd key z ok (.v (.map none)) K=eF (some none) z ok K:=rfl
theorem qcd {i:Nat} {x:V} {z:Value} {K:V→Prop}:eF (some (some (i,x))) z true K=K (.tup [x,.b true]):=rfl
theorem qce {i:Nat} {x:V} {z:Value} {K:V→Prop}:eF (some (some (i,x))) z false K=K x:=rfl
theorem qcf {z:Value} {K:V→Prop}:eF (some none) z true K=K (.tup [aA z,.b false]):=rfl
theorem qcg {z:Value} {K:V→Prop}:eF (some none) z false K=K (aA z):=rfl
theorem qch {i c:Nat} {y x:V} {key:Value} {es:List (Value × V × Nat)} {K:Blk→Prop}:gZ (some (some (i,y))) key x es c K=K (.map (es.modify i fun e=>(key,x,e.2.2)) c):=rfl
theorem qci {c:Nat} {x:V} {key:Value} {es:List (Value × V × Nat)} {K:Blk→Prop}:gZ (some none) key x es c K=K (.map (es++[(key,x,c)]) (c+1)):=rfl
theorem qcj {q:Value × V × Nat} {K:V→Prop}:To (some q) K=K (.tup [.v q.1,q.2.1]):=rfl
theorem qck {kd:TypeDesc} {key:Value} {i:Nat}:dF kd key [] i=some none:=rfl
theorem qcl {k:IntKind} {a:Int}:isKey (.int k) (.int k a)=true:=by simp [isKey]
theorem qcm {k:Nat} {K:Nat→V→Nat→List Nat→Nat→Prop}:itK h (.ptr k 0 0) K=itB (blk h k) (K k):=rfl
theorem qcn {m:V} {si la:Nat} {se:List Nat} {K:V→Nat→List Nat→Nat→Prop}:itB (.it m si se la) K=K m si se la:=rfl
section
variable {k:IntKind} {a c:Int} {K:V→Prop}
theorem qco:cK .add true k a c K=((lo k≤a+c∧a+c≤hi k)∧K (.v (.int k (a+c)))):=rfl
theorem qcp:cK .add false k a c K=K (.v (.int k (k.wrap (a+c)))):=rfl
theorem qcq:cK .sub true k a c K=((lo k≤a-c∧a-c≤hi k)∧K (.v (.int k (a-c)))):=rfl
theorem qcr:cK .sub false k a c K=K (.v (.int k (k.wrap (a-c)))):=rfl
theorem qcs:cK .mul true k a c K=((lo k≤a*c∧a*c≤hi k)∧K (.v (.int k (a*c)))):=rfl
theorem qct:cK .mul false k a c K=K (.v (.int k (k.wrap (a*c)))):=rfl
theorem qcu {x:Bool}:cK .eql x k a c K=K (.b (a==c)):=rfl
theorem qcv {x:Bool}:cK .neq x k a c K=K (.b (a != c)):=rfl
theorem qcw {x:Bool}:cK .lss x k a c K=K (.b (decide (a<c))):=rfl
theorem qcx {x:Bool}:cK .leq x k a c K=K (.b (decide (a≤c))):=rfl
theorem qcy {x:Bool}:cK .gtr x k a c K=K (.b (decide (c<a))):=rfl
theorem qcz {x:Bool}:cK .geq x k a c K=K (.b (decide (c≤a))):=rfl
theorem qcA:cK .quo true k a c K=(c≠0∧(lo k≤a.tdiv c∧a.tdiv c≤hi k)∧K (.v (.int k (a.tdiv c)))):=rfl
theorem qcB:cK .quo false k a c K=(c≠0∧K (.v (.int k (k.wrap (a.tdiv c))))):=rfl
theorem qcC {x:Bool}:cK .rem x k a c K=(c≠0∧K (.v (.int k (a.tmod c)))):=rfl
end
@[congr] theorem anS {n:Nat} {x x':V} {l u m:Option Int} {K:V→Prop} (q:x=x'):gG h n x l u m K=gG h n x' l u m K:=by rw [q]
@[congr] theorem anT {n k i i':Nat} {b b':Blk} {l u m:Option Int} {K:V→Prop} (q:b=b') (q2:i=i'):Ho n k i b l u m K=Ho n k i' b' l u m K:=by rw [q,q2]
@[congr] theorem arO {x x' y y':V} {K:Bool→Prop} (q:x=x') (q2:y=y'):Gz x y K=Gz x' y' K:=by rw [q,q2]
@[congr] theorem arJ {x x':V} {K:ByteArray→Prop} (q:x=x'):iA x K=iA x' K:=by rw [q]
@[congr] theorem arL {n:Nat} {x x':V} {K:V→Prop} (q:x=x'):Oi n x K=Oi n x' K:=by rw [q]
@[congr] theorem anR {t t':ByteArray} {l u:Option Int} {K:V→Prop} (q:t=t'):pP t l u K=pP t' l u K:=by rw [q]
@[congr] theorem anU {o:BinOp} {t t' u u':ByteArray} {K:V→Prop} (q:t=t') (q2:u=u'):nS o t u K=nS o t' u' K:=by rw [q,q2]
@[congr] theorem asS {mx:Bool} {x x':V} {r r':List V} {K:V→Prop} (q:x=x') (q2:r=r'):mmP mx x r K=mmP mx x' r' K:=by rw [q,q2]
@[congr] theorem asI {sz:Nat} {z:List Value} {x x':V} {K:V→St→Prop} (q:x=x'):No bn sz z x s K=No bn sz z x' s K:=by rw [q]
@[congr] theorem asJ {k i n sz:Nat} {z:List Value} {b b':Blk} {K:V→St→Prop} (q:b=b'):Ts bn k i n sz z s b K=Ts bn k i n sz z s b' K:=by rw [q]
@[congr] theorem arW {ks:List (Nat × TypeDesc)} {x x':V} {K:List Value→Prop} (q:x=x'):An ks x K=An ks x' K:=by rw [q]
@[congr] theorem anA {ks:List (Nat × TypeDesc)} {us:List Value} {z:Value} {ok:Bool} {m m':V} {K:V→Prop} (q:m=m'):rB h ks us z ok m K=rB h ks us z ok m' K:=by rw [q]
@[congr] theorem aoG {k i n sz:Nat} {new:List (List V)} {b b':Blk} {K:V→St→Prop} (q:b=b'):Bt bn k i n sz s new b K=Bt bn k i n sz s new b' K:=by rw [q]
@[congr] theorem arV {kd:TypeDesc} {x x':V} {K:Value→Prop} (q:x=x'):Ff kd x K=Ff kd x' K:=by rw [q]
@[congr] theorem arS {x x':V} {K:Nat→List (Value × V × Nat)→Nat→Prop} (q:x=x'):iM h x K=iM h x' K:=by rw [q]
@[congr] theorem arT {x x':Blk} {K:List (Value × V × Nat)→Nat→Prop} (q:x=x'):Ms x K=Ms x' K:=by rw [q]
@[congr] theorem anX {kd:TypeDesc} {key key' z:Value} {ok:Bool} {m m':V} {K:V→Prop} (q:m=m') (q2:key=key'):Mt h kd key z ok m K=Mt h kd key' z ok m' K:=by rw [q,q2]
@[congr] theorem anY {r r':Option (Option (Nat × V))} {z:Value} {ok:Bool} {K:V→Prop} (q:r=r'):eF r z ok K=eF r' z ok K:=by rw [q]
@[congr] theorem anW {r r':Option (Option (Nat × V))} {key key':Value} {x x':V} {es es':List (Value × V × Nat)} {c c':Nat} {K:Blk→Prop} (q:r=r') (q1:key=key') (q2:x=x') (q3:es=es') (q4:c=c'):gZ r key x es c K=gZ r' key' x' es' c' K:=by rw [q,q1,q2,q3,q4]
@[congr] theorem anV {es es':List (Value × V × Nat)} {si si' la la':Nat} {se se':List Nat} {D:Prop} {K:Value→V→Nat→Prop} (q:es=es') (q1:si=si') (q2:se=se') (q3:la=la'):Mo es si se la D K=Mo es' si' se' la' D K:=by rw [q,q1,q2,q3]
@[congr] theorem asG {r r':Option (Value × V × Nat)} {K:V→Prop} (q:r=r'):To r K=To r' K:=by rw [q]
@[congr] theorem asT {x x':V} {K:Nat→V→Nat→List Nat→Nat→Prop} (q:x=x'):itK h x K=itK h x' K:=by rw [q]
@[congr] theorem asU {x x':Blk} {K:V→Nat→List Nat→Nat→Prop} (q:x=x'):itB x K=itB x' K:=by rw [q]
@[congr] theorem anQ {i n:Nat} {x x':Blk} {K:Nat→List (List V)→Prop} (q:x=x'):Lr x i n K=Lr x' i n K:=by rw [q]
end
section
variable {α:Type} {a:α} {l:List α} {x:α} {y:Nat}
theorem lg0:(a::l)[1]?=l[0]?:=rfl
theorem wm:(a::l).set 1 x=a::l.set 0 x:=rfl
theorem wq:(a::l).drop 1=l.drop 0:=rfl
theorem wt:(a::l).take 1=a::l.take 0:=rfl
theorem wu:yab 1 x=x::yab 0 x:=rfl
theorem lg1:(a::l)[2]?=l[1]?:=rfl
theorem wv:(a::l).set 2 x=a::l.set 1 x:=rfl
theorem ww:(a::l).drop 2=l.drop 1:=rfl
theorem wx:(a::l).take 2=a::l.take 1:=rfl
theorem wy:yab 2 x=x::yab 1 x:=rfl
theorem lg2:(a::l)[3]?=l[2]?:=rfl
theorem wz:(a::l).set 3 x=a::l.set 2 x:=rfl
theorem wB:(a::l).drop 3=l.drop 2:=rfl
theorem wC:(a::l).take 3=a::l.take 2:=rfl
theorem wD:yab 3 x=x::yab 2 x:=rfl
theorem lg3:(a::l)[4]?=l[3]?:=rfl
theorem wE:(a::l).set 4 x=a::l.set 3 x:=rfl
theorem wF:(a::l).drop 4=l.drop 3:=rfl
theorem wG:(a::l).take 4=a::l.take 3:=rfl
theorem wH:yab 4 x=x::yab 3 x:=rfl
theorem lg4:(a::l)[5]?=l[4]?:=rfl
theorem wI:(a::l).set 5 x=a::l.set 4 x:=rfl
theorem wJ:(a::l).drop 5=l.drop 4:=rfl
theorem wK:(a::l).take 5=a::l.take 4:=rfl
theorem wL:yab 5 x=x::yab 4 x:=rfl
theorem lg5:(a::l)[6]?=l[5]?:=rfl
theorem wM:(a::l).set 6 x=a::l.set 5 x:=rfl
theorem wN:(a::l).drop 6=l.drop 5:=rfl
theorem wO:(a::l).take 6=a::l.take 5:=rfl
theorem wP:yab 6 x=x::yab 5 x:=rfl
theorem lg6:(a::l)[7]?=l[6]?:=rfl
theorem wQ:(a::l).set 7 x=a::l.set 6 x:=rfl
theorem wR:(a::l).drop 7=l.drop 6:=rfl
theorem wS:(a::l).take 7=a::l.take 6:=rfl
theorem wT:yab 7 x=x::yab 6 x:=rfl
theorem lg7:(a::l)[8]?=l[7]?:=rfl
theorem wU:(a::l).set 8 x=a::l.set 7 x:=rfl
theorem wV:(a::l).drop 8=l.drop 7:=rfl
theorem wW:(a::l).take 8=a::l.take 7:=rfl
theorem wX:yab 8 x=x::yab 7 x:=rfl
theorem lg8:(a::l)[9]?=l[8]?:=rfl
theorem wY:(a::l).set 9 x=a::l.set 8 x:=rfl
theorem wZ:(a::l).drop 9=l.drop 8:=rfl
theorem ja:(a::l).take 9=a::l.take 8:=rfl
theorem jb:yab 9 x=x::yab 8 x:=rfl
theorem lg9:(a::l)[10]?=l[9]?:=rfl
theorem jc:(a::l).set 10 x=a::l.set 9 x:=rfl
theorem jd:(a::l).drop 10=l.drop 9:=rfl
theorem je:(a::l).take 10=a::l.take 9:=rfl
theorem jf:yab 10 x=x::yab 9 x:=rfl
theorem jg:(a::l)[11]?=l[10]?:=rfl
theorem jh:(a::l).set 11 x=a::l.set 10 x:=rfl
theorem ji:(a::l).drop 11=l.drop 10:=rfl
theorem jj:(a::l).take 11=a::l.take 10:=rfl
theorem jk:yab 11 x=x::yab 10 x:=rfl
theorem jl:(a::l)[12]?=l[11]?:=rfl
theorem jm:(a::l).set 12 x=a::l.set 11 x:=rfl
theorem jn:(a::l).drop 12=l.drop 11:=rfl
theorem jo:(a::l).take 12=a::l.take 11:=rfl
theorem jp:yab 12 x=x::yab 11 x:=rfl
theorem jq:(a::l)[13]?=l[12]?:=rfl
theorem jr:(a::l).set 13 x=a::l.set 12 x:=rfl
theorem jt:(a::l).drop 13=l.drop 12:=rfl
theorem ju:(a::l).take 13=a::l.take 12:=rfl
theorem jv:yab 13 x=x::yab 12 x:=rfl
theorem jx:(a::l)[14]?=l[13]?:=rfl
theorem jy:(a::l).set 14 x=a::l.set 13 x:=rfl
theorem jz:(a::l).drop 14=l.drop 13:=rfl
theorem jA:(a::l).take 14=a::l.take 13:=rfl
theorem jB:yab 14 x=x::yab 13 x:=rfl
theorem jC:(a::l)[15]?=l[14]?:=rfl
theorem jD:(a::l).set 15 x=a::l.set 14 x:=rfl
theorem jE:(a::l).drop 15=l.drop 14:=rfl
theorem jF:(a::l).take 15=a::l.take 14:=rfl
theorem jG:yab 15 x=x::yab 14 x:=rfl
theorem jH:(a::l)[16]?=l[15]?:=rfl
theorem jI:(a::l).set 16 x=a::l.set 15 x:=rfl
theorem jJ:(a::l).drop 16=l.drop 15:=rfl
theorem jK:(a::l).take 16=a::l.take 15:=rfl
theorem jL:yab 16 x=x::yab 15 x:=rfl
theorem jM:(a::l)[17]?=l[16]?:=rfl
theorem jN:(a::l).set 17 x=a::l.set 16 x:=rfl
theorem jO:(a::l)[18]?=l[17]?:=rfl
theorem jP:(a::l).set 18 x=a::l.set 17 x:=rfl
theorem jQ:(a::l)[19]?=l[18]?:=rfl
theorem jR:(a::l).set 19 x=a::l.set 18 x:=rfl
theorem jS:(a::l)[20]?=l[19]?:=rfl
theorem jT:(a::l).set 20 x=a::l.set 19 x:=rfl
theorem jU:(a::l)[21]?=l[20]?:=rfl
theorem jV:(a::l).set 21 x=a::l.set 20 x:=rfl
theorem jW:(a::l)[22]?=l[21]?:=rfl
theorem jX:(a::l).set 22 x=a::l.set 21 x:=rfl
theorem jY:(a::l)[23]?=l[22]?:=rfl
theorem jZ:(a::l).set 23 x=a::l.set 22 x:=rfl
theorem qaa:(a::l)[24]?=l[23]?:=rfl
theorem qab:(a::l).set 24 x=a::l.set 23 x:=rfl
theorem qac:(a::l)[25]?=l[24]?:=rfl
theorem qad:(a::l)[26]?=l[25]?:=rfl
theorem qae:(a::l)[27]?=l[26]?:=rfl
theorem qaf:(a::l)[28]?=l[27]?:=rfl
theorem qag:(a::l)[29]?=l[28]?:=rfl
theorem qah:(a::l)[30]?=l[29]?:=rfl
theorem qai:(a::l)[31]?=l[30]?:=rfl
theorem qaj:(a::l)[32]?=l[31]?:=rfl
theorem qak:(a::l)[33]?=l[32]?:=rfl
theorem qal:(a::l)[34]?=l[33]?:=rfl
theorem qam:(a::l)[35]?=l[34]?:=rfl
theorem qan:(a::l)[36]?=l[35]?:=rfl
theorem qao:(a::l)[37]?=l[36]?:=rfl
theorem qap:(a::l)[38]?=l[37]?:=rfl
theorem qaq:(a::l)[39]?=l[38]?:=rfl
theorem qar:(a::l)[40]?=l[39]?:=rfl
theorem qas:yab 0 x=[]:=rfl
end
end Go.Fx
namespace Go.Fx
open Go.RowKit
theorem Mi {ρ:Nat→Loc} {X:Nat→Prop} {w:World} {h:List Blk} (hr:Rep ρ X w h):Rep (dW ρ fun _=>true) X w [] :=
 ⟨fun j k _ h1=>by simp [dW] at h1,fun k _=>by simp [dW],fun k b hb=>by simp at hb,fun b ho=>hr.disj b (Ph ho),fun k h1=>by simp [dW] at h1,hr.xlt⟩
theorem Sk {P:Program} {f:FuncId} {args:List V} {mv:List Nat} {R:V→List Blk→Prop} {y:V} (h:Fn P f args [] mv R) (hy:∀ r hs,R r hs→wk y (gvV (fun _=>true) hs r)):Fn P f args [] mv (Is y):=by
 intro ρ X w vals h1 h2
 refine Calls.mono (h ρ X w vals h1 h2) ?_
 rintro e w' ⟨val,r,h',ρ',q1,q2,q3,q4,q5,q6⟩
 exact ⟨val,y,[],_,q1,⟨⟨rfl,rfl⟩,yad _⟩,q3.trans Bp,Mi q4,Uk _ _ _ (hy r h' q2.1) (Ar q4 _ _ q5),fun k hk=>by simp at hk⟩
theorem Zs {P:Program} {f:FuncId} {args:List V} {mv:List Nat} {R R':V→List Blk→Prop} (h:Fn P f args [] mv R) (hR:∀ r hs,R r hs→∃ r' hs',R' r' hs'∧leG [] ⟨[(0,r)],hs,0⟩ ⟨[(0,r')],hs',0⟩):Fn P f args [] mv R':=by
 intro ρ X w vals h1 h2
 refine Calls.mono (h ρ X w vals h1 h2) ?_
 rintro e w' ⟨val,r,h',ρ',q1,q2,q3,q4,q5,q6⟩
 obtain ⟨r',hs',g1,g2⟩:=hR r h' q2.1
 have hg:Good ρ X w [] 1 ⟨[(0,r)],h',0⟩ ⟨#[val],[]⟩ w':=by
  refine ⟨ρ',⟨⟨q3,fun k hk=>by simp at hk⟩,trivial⟩,⟨q4,fun i=>?_⟩,rfl,Marks.nil⟩
  by_cases hi:i=0
  ·subst hi;exact q5
  ·have:get [(0,r)] i=.any:=by simp [get,hi]
   rw [this];trivial
 obtain ⟨ρ2,⟨⟨p1,_⟩,_⟩,⟨p2,p3⟩,_⟩:=hg.leG g2
 exact ⟨val,r',hs',ρ2,q1,⟨g1,yat _⟩,p1,p2,p3 0,fun k hk=>by simp at hk⟩
end Go.Fx
namespace Go.Fx
open Go.RowKit
section
variable (P:Program)
def C0:Ctr:=fun f xs h0 mv R=>dY P f∧Fn P f xs h0 mv R
def I0:Itr:=fun f zas fx k Y h K=>dY P f∧acZ P f zas fx k Y h K
def Y0:Nat→Yt:=fun _ _ _ _=>False
def cxN (fx:List Nat):Cx:=⟨C0 P,fx,[],I0 P,Y0,none⟩
theorem Pm (fx:List Nat):(cxN P fx).ok P:=⟨fun _ _ _ _ _ h=>h,fun _ _ _ _ _ _ _ h=>h⟩
def OkN (f:FuncId) (xs:List V) (h0:List Blk) (mv:List Nat) (R:V→List Blk→Prop):Prop:=C0 P f xs h0 mv R
variable {P}
theorem cO (hP:P.follows .mixedOrders=true) {f:FuncId} {l0 l:LCode} {rs:List eK} {nt:Nat} (fx:List Nat) (hl:rlF P f l0=some (l,rs,nt)) {args:List V} {h0:List Blk} {mv:List Nat} {R:V→List Blk→Prop} (hlen:args.length≤nt) (hb:aD fx h0)
  (hfx:∀ k,k<h0.length→k∉mv→k∈fx) (h:aw (cxN P fx) l (dD fx h0.length rs R) (fun _ _=>False) (dD fx h0.length rs R) ⟨aO 0 args,h0,0⟩):OkN P f args h0 mv R :=
 ⟨o6 hl,anM hP (Pm P fx) hl hlen hb hfx h⟩
theorem Ao (hP:P.follows .mixedOrders=true) {f:FuncId} {l0 l:LCode} {nt:Nat} (fx:List Nat) (hl:rlF P f l0=some (l,[],nt)) {args:List V} {h0:List Blk} {k:Nat} {Y:Yt} {K:List Blk→Prop} (hlen:args.length≤nt)
  (h:aw ⟨C0 P,fx,[],I0 P,fun k' xs s Z=>k'=k∧Y xs s Z,none⟩ l (fun s=>K s.h) (fun _ _=>False) (fun s=>K s.h) ⟨aO 0 args,h0,0⟩):I0 P f args fx k Y h0 K :=
 ⟨o6 hl,acX (cx:=⟨C0 P,fx,[],I0 P,fun k' xs s Z=>k'=k∧Y xs s Z,none⟩) hP ⟨fun _ _ _ _ _ h=>h,fun _ _ _ _ _ _ _ h=>h⟩ hl hlen h rfl rfl⟩
theorem f9 {f:FuncId} {xs:List V} {h0:List Blk} {mv:List Nat} {R R':V→List Blk→Prop} (h:OkN P f xs h0 mv R) (hR:∀ r h',R r h'→R' r h'):OkN P f xs h0 mv R':=by
 refine ⟨h.1,?_⟩
 intro ρ X w vals h1 h2
 refine Calls.mono (h.2 ρ X w vals h1 h2) ?_
 rintro e w' ⟨val,r,h',ρ',q1,q2,q3,q4,q5,q6⟩
 exact ⟨val,r,h',ρ',q1,⟨hR r h' q2.1,q2.2⟩,q3,q4,q5,q6⟩
theorem vS {f:FuncId} {xs:List V} {y:V} {R:V→List Blk→Prop} (h:OkN P f xs [] [] R) (hy:∀ r hs,R r hs→wk y (gvV (fun _=>true) hs r)):OkN P f xs [] [] (Is y):=⟨h.1,Sk h.2 hy⟩
theorem Hw {f:FuncId} {xs:List V} {R R':V→List Blk→Prop} (h:OkN P f xs [] [] R) (hR:∀ r hs,R r hs→∃ r' hs',R' r' hs'∧leG [] ⟨[(0,r)],hs,0⟩ ⟨[(0,r')],hs',0⟩):OkN P f xs [] [] R':=⟨h.1,Zs h.2 hR⟩
end
def IsA (x:V) (h0:List Blk):V→List Blk→Prop:=fun r h=>r=x∧h=h0
theorem bC {fx:List Nat} {n:Nat} {e:Env} {h:List Blk} {b:Nat} {rs:List eK} {x:V} {h0:List Blk}:dD fx n rs (IsA x h0) ⟨e,h,b⟩=aY h e rs [] fun xs=>(leH h h0∧aD fx h0∧n≤h0.length∧wfV h0 (a7 xs)∧wfB h0 h0)∧a7 xs=x:=by
 rw [cC]
 congr 1
 funext xs
 apply propext
 constructor
 ·rintro ⟨p,h1,h2,rfl⟩
  exact ⟨h1,h2⟩
 ·rintro ⟨h1,h2⟩
  exact ⟨h0,h1,h2,rfl⟩
def IsQ {G:Type} (Q:G→Prop) (x:G→V) (h0:G→List Blk):V→List Blk→Prop:=fun r h=>∃ g,Q g∧r=x g∧h=h0 g
theorem Vq {G:Type} {Q:G→Prop} {fx:List Nat} {n:Nat} {e:Env} {h:List Blk} {b:Nat} {rs:List eK} {x:G→V} {h0:G→List Blk} (g:G) (hq:Q g)
  (hr:aY h e rs [] fun xs=>(leH h (h0 g)∧aD fx (h0 g)∧n≤(h0 g).length∧wfV (h0 g) (a7 xs)∧wfB (h0 g) (h0 g))∧a7 xs=x g):dD fx n rs (IsQ Q x h0) ⟨e,h,b⟩:=by
 have hm:∀ {h:List Blk} {e:Env} (rs:List eK) (acc:List V) {K K':List V→Prop},(∀ xs,K xs→K' xs)→aY h e rs acc K→aY h e rs acc K':=by
  intro h e rs
  induction rs with
  | nil=>intro acc K K' hk h;exact hk _ h
  | cons r rs ih =>
   intro acc K K' hk hh
   cases r with
   | tmp t=>exact ih _ hk hh
   | cell a n =>
    simp only [aY] at hh ⊢
    have hcs:∀ (n:Option Nat) (f:Nat) (cs:List V) {A B:V→Prop},(∀ x,A x→B x)→bX n f cs A→bX n f cs B:=by
     intro n f cs A B hab hl
     unfold bX at hl ⊢
     split at hl
     ·unfold cW at hl ⊢
      split at hl
      ·exact hab _ hl
      ·exact hl.elim
     ·exact ⟨hl.1,hab _ hl.2⟩
    unfold hJ at hh ⊢
    split at hh
    ·unfold pQ at hh ⊢
     split at hh
     ·exact hcs _ _ _ (fun x=>ih _ hk) hh
     ·obtain ⟨hi,hh⟩:=hh;exact ⟨hi,hcs _ _ _ (fun x=>ih _ hk) hh⟩
     ·obtain ⟨hi,hh⟩:=hh;exact ⟨hi,hcs _ _ _ (fun x=>ih _ hk) hh⟩
     ·exact hh.elim
    ·obtain ⟨hi,hh⟩:=hh;exact ⟨hi,hcs _ _ _ (fun x=>ih _ hk) hh⟩
    ·exact hh.elim
 rw [cC]
 refine hm rs [] ?_ hr
 rintro xs ⟨h1,h2⟩
 exact ⟨h0 g,h1,g,hq,h2,rfl⟩
section
variable {cx:Cx} {f:FuncId} {args:List V} {e:Env} {h:List Blk} {b:Nat} {K:V→St→Prop}
theorem aJ {xs:List V} {x:V} (hC:cx.C f xs [] [] (Is x)) (h1:aE h (fun _=>none) args∧wkL xs (aL h (fun _=>none) args)) (hx:ren (fun j=>some (h.length+j)) x=x) (keep:aD cx.fx h) (h3:K x ⟨e,h,b⟩):aR cx f args ⟨e,h,b⟩ K:=by
 refine u4 xs (Is x) h1 hC ?_
 rintro r h' ⟨rfl,rfl⟩
 simp only [List.map_nil,List.append_nil]
 exact ⟨keep,by rw [hx];exact h3⟩
theorem gD (xs:List V) (x x':V) (h0 h0':List Blk) (hC:cx.C f xs [] [] (IsA x h0)) (h1:aE h (fun _=>none) args∧wkL xs (aL h (fun _=>none) args))
  (hx:ren (fun j=>some (h.length+j)) x=x') (hh:h0.map (bA (fun j=>some (h.length+j)))=h0') (keep:aD cx.fx (h++h0')) (h3:K x' ⟨e,h++h0',b⟩):aR cx f args ⟨e,h,b⟩ K:=by
 refine u4 xs (IsA x h0) h1 hC ?_
 rintro r h' ⟨rfl,rfl⟩
 rw [hx,hh]
 exact ⟨keep,h3⟩
theorem l6 (ι:List Nat) (xs:List V) (x x':V) (h0 h1 h':List Blk) (hC:cx.C f xs h0 [] (IsA x h1))
  (hι:ι.Nodup∧∀ k∈ι,k<h.length∧k∉cx.bn) (r0:ι.map (fun k=>bA (pos ι) (blk h k))=h0) (ha:aE h (pos ι) args∧wkL xs (aL h (pos ι) args)) (hlen:ι.length≤h1.length)
  (hh:aN ι (h1.map (bA (back ι h.length))) h=h') (hx:ren (back ι h.length) x=x') (keep:aD cx.fx h') (h3:K x' ⟨e,h',b⟩):aR cx f args ⟨e,h,b⟩ K:=by
 have hkb:∀ l:List Blk,l.map (aK [])=l:=tR
 refine ⟨ι,xs,[],IsA x h1,⟨hι,by simp⟩,ha.1,ha.2,by rw [r0];exact hC,?_⟩
 rintro r h2 ⟨rfl,rfl⟩ _
 simp only [List.filterMap_nil,hkb,i4,hh,hx]
 exact ⟨keep,h3⟩
theorem Zb {G:Type} (Q:G→Prop) (ι mv M:List Nat) (xs:List V) (x:G→V) (h0:List Blk) (h1:G→List Blk) (hC:cx.C f xs h0 mv (IsQ Q x h1))
  (hι:ι.Nodup∧∀ k∈ι,k<h.length∧k∉cx.bn) (hM:mv.filterMap (ι[·]?)=M∧∀ j∈mv,∀ k,ι[j]?=some k→k∉cx.fx) (r0:ι.map (fun k=>bA (pos ι) (blk h k))=h0) (ha:aE h (pos ι) args∧wkL xs (aL h (pos ι) args))
  (h3:∀ g,Q g→aD cx.fx (aN ι ((h1 g).map (bA (back ι h.length))) (h.map (aK M)))∧K (ren (back ι h.length) (x g)) ⟨aM M e,aN ι ((h1 g).map (bA (back ι h.length))) (h.map (aK M)),b⟩):aR cx f args ⟨e,h,b⟩ K:=by
 refine ⟨ι,xs,mv,IsQ Q x h1,⟨hι,hM.2⟩,ha.1,ha.2,by rw [r0];exact hC,?_⟩
 rintro r h2 ⟨g,hq,rfl,rfl⟩ _
 rw [hM.1]
 exact h3 g hq
end
end Go.Fx
