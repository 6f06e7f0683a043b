import Derived.Test.YtpnikndmidcedaaDoorFxTree
import Derived.OrdersIn
import Derived.TacticsIn
import Derived.Sort.LoopGhostIn
import Derived.Test.YtpnikndmidcedaaDoorFxFrz
import Derived.OpenShut
import Derived.ChangeOld
import Derived.Below
import Derived.ProofKit
import Derived.JoinedCond
import Derived.Test.YtpnikndmidcedaaDoorProg
set_option linter.unusedVariables false
set_option linter.unusedSimpArgs false
set_option linter.unusedSectionVars false
open Option.some renaming injEq → yaa
open List renaming replicate → yab, mem_cons_of_mem → yae, getElem?_eq_some_iff → yag, mem_cons_self → yah, getElem?_set_ne → yai, getElem?_cons_zero → yaj, all_eq_true → yak, mem_cons → yal, getElem?_append_left → yam, mem_of_getElem? → yao, getElem?_set_self → yap, length_eq_one_iff → yas, nodup_cons → yav, getElem?_eq_none → yaw, contains_iff_mem → yay, append_nil → yaB, length_replicate → yaC, getElem?_append_right → yaD, getElem?_eq_getElem → yaE, getD_eq_getElem?_getD → yaF, mem_append_left → yaH, mem_append_right → yaI
open Bool renaming and_eq_true → yac, not_eq_true' → yaz, not_true → yaA
open Nat renaming le_refl → yad, zero_add → yan, lt_or_ge → yaq, zero_le → yat, lt_of_lt_of_le → yau
open Array renaming replicate → yaf, getD_eq_getD_getElem? → yar, getElem?_eq_some_iff → yax, getElem?_eq_none → yaG
namespace Go.Fx
open Go.RowKit
def rlY (P:Program) (op:Op) (l0:LOp):Option LOp :=
 match l0 with
 | .yld _ _=>match op with
  | .call c=>match c.callee with
   | .value f=>some (.yld f c.args.toList)
   | _=>none
  | _=>none
 | l0=>match rl P op l0 with
  | some (.yld _ _)=>none
  | r=>r
def dR (P:Program) (ops:Array Oper) (N:Nat):List Oper→List bH→Option (List bH)
 | [],[]=>some []
 | o::os,l::ls=>match rlY P o.op l.op,gOk ops N o.guard,dOk N o.dst,dR P ops N os ls with
  | some op,some g,true,some r=>some (⟨o.dst,op,g⟩::r)
  | _,_,_,_=>none
 | _,_=>none
def dZ (o:Oper):Bool:=match o.op with
 | .defer _=>false
 | _=>true
def cO:Code→Bool
 | .region _ ops _=>ops.toList.all dZ
 | .seq a b=>cO a&&cO b
 | .cond _ a b=>cO a&&cO b
 | .block _ a=>cO a
 | .loop a=>cO a
 | .rangeFunc _ _ a b=>cO a&&cO b
 | .skip|.label _|.ret|.exit _=>true
 | _=>false
def fF:LCode→Bool
 | .skip|.reg _ _|.tree _ _|.exit _|.ret|.bad=>true
 | .tail _ _ _|.qui _ _|.yreg _ _ _|.ytree _ _ _ _=>false
 | .seq a b=>fF a&&fF b
 | .cond _ a b=>fF a&&fF b
 | .block _ a=>fF a
 | .loop a=>fF a
 | .frz _ a=>fF a
 | .rfn _ _ a b=>fF a&&fF b
def pC (P:Program) (N:Nat) (ops:Array Oper) (rs:Nat→Bool) (m:Nat):LPlan→Array Bool→Nat→Option (List Nat)→Option LPlan
 | .done,listed,fuel,none=>if fuel=0∧m<ops.size∧Region.seqB .any ops (ops.size-m) m listed=true then some .done else none
 | .take i D l p,listed,fuel+1,none=>match ops[i]? with
  | some o=>match rl P o.op l.op,gOk ops N o.guard,dOk N o.dst,pC P N ops rs m p (listed.setIfInBounds i true) fuel none with
   | some op,some g,true,some p'=>if rD ops rs listed i D op&&D.contains m then some (.take i D ⟨o.dst,op,g⟩ p') else none
   | _,_,_,_=>none
  | none=>none
 | .alt i l r p q,listed,fuel+1,rem=>match rem.getD (Region.ready .any ops listed),ops[i]? with
  | j::js,some o=>match rl P o.op l.op,gOk ops N o.guard,dOk N o.dst,pC P N ops rs m p (listed.setIfInBounds i true) fuel none,pC P N ops rs m q listed (fuel+1) (some js) with
   | some op,some g,true,some p',some q'=>if j=i∧r=rs i then some (.alt i ⟨o.dst,op,g⟩ r p' q') else none
   | _,_,_,_,_=>none
  | _,_=>none
 | .none,_,_,some []=>some .none
 | _,_,_,_=>none
def Vt (P:Program) (N:Nat) (ops:Array Oper) (p:LPlan) (m:Nat):Option LPlan :=
 if Region.noSelect ops then pC P N ops (fun j=>!(Jy p).contains j) m p (yaf ops.size false) m none else none
def rlC (P:Program) (N:Nat):Code→LCode→Option LCode
 | .skip,_=>some .skip
 | .label _,_=>some .skip
 | .scope c,l=>rlC P N c l
 | .ret,_=>some .ret
 | .exit i,_=>some (.exit i)
 | .region _ ops draw,l=>match l with
  | .reg n ls=>match draw,eX P ops N ops.toList ls with
   | false,some r=>some (.reg n r)
   | _,_=>none
  | .qui n ls=>match draw,eX P ops N ops.toList ls with
   | true,some r=>if (r.all fun l=>aU l.op)&&Region.lexB .any ops then some (.qui n r) else none
   | _,_=>none
  | .tail m n ls=>match draw,eX P ops N ops.toList ls with
   | true,some r=>if ((r.take m).all fun l=>aU l.op)&&Region.lexTailB .any ops m then some (.tail m n r) else none
   | _,_=>none
  | .tree n p=>match draw,rlT P N ops p with
   | true,some r=>some (.tree n r)
   | _,_=>none
  | .yreg m n ls=>match dR P ops N ops.toList ls with
   | some r=>if !draw||((r.take m).all fun l=>aU l.op)&&Region.lexTailB .any ops m then some (.yreg (if draw then m else 0) n r) else none
   | _=>none
  | .ytree n p m ls=>match draw,Vt P N ops p m,dR P ops N (ops.toList.drop m) ls with
   | true,some p',some r=>if m<ops.size then some (.ytree n p' m r) else none
   | _,_,_=>none
  | .bad=>some .bad
  | _=>none
 | .seq a b,l=>match l with
  | .seq x y=>match rlC P N a x,rlC P N b y with
   | some x',some y'=>some (.seq x' y')
   | _,_=>none
  | .frz xs (.seq x y)=>match rlC P N a x,rlC P N b y with
   | some x',some y'=>some (.frz xs (.seq x' y'))
   | _,_=>none
  | .bad=>some .bad
  | _=>none
 | .cond c a b,l=>match l with
  | .cond _ x y=>match rlC P N a x,rlC P N b y with
   | some x',some y'=>some (.cond c x' y')
   | _,_=>none
  | _=>none
 | .block i a,l=>match l with
  | .block _ x=>match rlC P N a x with
   | some x'=>some (.block i x')
   | none=>none
  | _=>none
 | .loop a,l=>match l with
  | .loop x=>match rlC P N a x with
   | some x'=>some (.loop x')
   | none=>none
  | _=>none
 | .rangeFunc g ps asg body,l=>match l with
  | .rfn _ _ x y=>match rlC P N asg x,rlC P N body y with
   | some x',some y'=>if (ps.toList.all fun p=>decide (p<N))&&(cO asg&&cO body)&&(fF x'&&fF y') then some (.rfn g ps.toList x' y') else none
   | _,_=>none
  | _=>none
 | _,_=>none
section
variable [DBase] {P:Program} {ρ0:Nat→Loc} {X:Nat→Prop} {w0:World} {fx:List Nat} {N:Nat}
theorem Gg:∀ {p:Env} {e:Env},leE e p→∀ i,get p i=.any∨get p i=get e i
 | [],_,_,_=>.inl rfl
 | (j,x)::r,e,h,i=>by
  simp only [get]
  split
  ·rename_i hi
   subst hi
   exact .inr h.1.symm
  ·exact Gg h.2 i
theorem In:∀ {h p:List Blk},leH h p→∀ (k:Nat) (B:Blk),p[k]?=some B→∃ A,h[k]?=some A∧leB A B
 | _,[],_,k,B,hB=>by simp at hB
 | a::h,c::p,hl,0,B,hB=>by
  simp only [yaj,yaa] at hB
  subst hB
  exact ⟨a,rfl,hl.1⟩
 | a::h,c::p,hl,k+1,B,hB=>by
  obtain ⟨A,h1,h2⟩:=In (h:=h) (p:=p) hl.2 k B (by simpa using hB)
  exact ⟨A,by simpa using h1,h2⟩
 | [],_::_,hl,_,_,_=>hl.elim
theorem Eb {ρ:Nat→Loc} {w:World}:∀ {xs ys:List V} {vs:List Value},eP xs ys→bA ρ X w xs vs→bA ρ X w ys vs
 | [],[],_,_,h=>h
 | x::xs,y::ys,u::us,hl,h=>by
  refine ⟨?_,Eb hl.2 h.2⟩
  have h1:=hl.1
  unfold leV at h1
  split at h1
  ·trivial
  ·subst h1;exact h.1
 | _::_,_::_,[],_,h=>h.elim
 | [],_::_,_,hl,_=>hl.elim
 | _::_,[],_,hl,_=>hl.elim
def dC (ρ:Nat→Loc) (p:List Blk) (k:Nat):Loc :=
 match p[k]? with
 | some .dead=>{ ρ k with real:=false }
 | some _=>ρ k
 | none=>{ ρ k with real:=false }
theorem iP {ρ:Nat→Loc} {p:List Blk} {b:Nat} (h:Own (dC ρ p) b):Own ρ b:=by
 obtain ⟨k,h1,h2⟩:=h
 unfold dC at h1 h2
 split at h1
 ·cases h1
 ·exact ⟨k,h1,by simp_all⟩
 ·cases h1
theorem cL {ρ:Nat→Loc} {p:List Blk} {k:Nat} (h:aC p k):dC ρ p k=ρ k:=by
 unfold aC at h
 unfold dC
 cases hb:p[k]? with
 | none=>rw [hb] at h;exact h.elim
 | some B=>rw [hb] at h;cases B<;>first|rfl|exact h.elim
theorem nA {ρ:Nat→Loc} {w:World} {p:List Blk}:∀ b,Sta ρ X w b→Sta (dC ρ p) X w b∧w.heap[b]?=w.heap[b]? :=
 fun _ h=>⟨⟨h.1,fun ho=>h.2.1 (iP ho),h.2.2⟩,rfl⟩
theorem xG {ρ:Nat→Loc} {w:World} {p:List Blk} {b:Nat} (h:Len ρ w b):Len (dC ρ p) w b:=⟨h.1,fun ho=>h.2 (iP ho)⟩
mutual
theorem f9 {ρ:Nat→Loc} {w:World} {p:List Blk}:∀ (x:V) (val:Value),wfV p x→aM ρ X w x val→aM (dC ρ p) X w x val
 | .any,_,_,_=>trivial
 | .v _,_,_,hx=>hx
 | .ro sz els,val,_,hx=>cS nA (.ro sz els) val hx
 | .bro sz els,val,_,hx=>by
  obtain ⟨a,len,cap,h1,h2,h3,h4,h5⟩:=hx
  refine ⟨a,len,cap,h1,h2,h3,h4,h5.imp id ?_⟩
  rintro ⟨b,off,h6,h7,h8⟩
  exact ⟨b,off,h6,xG h7,aL nA sz b rfl off els h8⟩
 | .full sz els,val,_,hx=>by
  obtain ⟨a,len,h1,h2,h4,h5⟩:=hx
  refine ⟨a,len,h1,h2,h4,h5.imp id ?_⟩
  rintro ⟨b,off,h6,h7,h8⟩
  exact ⟨b,off,h6,xG h7,aL nA sz b rfl off els h8⟩
 | .rp sz els i f,val,_,hx=>by
  obtain ⟨b,off,h6,h7,h8⟩:=hx
  exact ⟨b,off,h6,xG h7,aL nA sz b rfl off els h8⟩
 | .sl k i n,val,hw,hx=>by
  obtain ⟨cap,h1,h2,h3⟩:=hx
  refine ⟨cap,h1,h2,?_⟩
  rw [cL hw]
  exact h3
 | .ptr k i f,val,hw,hx=>by
  simp only [aM]
  rw [cL hw]
  exact hx
 | .agg cs,val,hw,hx=>by
  obtain ⟨arr,h1,h2⟩:=hx
  exact ⟨arr,h1,gZ cs _ hw h2⟩
 | .tup cs,val,hw,hx=>by
  obtain ⟨arr,h1,h2⟩:=hx
  exact ⟨arr,h1,gZ cs _ hw h2⟩
 | .clo f cs,val,hw,hx=>by
  obtain ⟨arr,h1,h2⟩:=hx
  exact ⟨arr,h1,gZ cs _ hw h2⟩
 | .mp k,val,hw,hx=>by
  simp only [aM]
  rw [cL hw]
  exact hx
 | .itr k,val,hw,hx=>by
  simp only [aM]
  rw [cL hw]
  exact hx
theorem gZ {ρ:Nat→Loc} {w:World} {p:List Blk}:∀ (xs:List V) (vs:List Value),wfL p xs→bA ρ X w xs vs→bA (dC ρ p) X w xs vs
 | [],[],_,_=>trivial
 | x::r,u::us,hw,hx=>⟨f9 x u hw.1 hx.1,gZ r us hw.2 hx.2⟩
 | [],_::_,_,hx=>hx.elim
 | _::_,[],_,hx=>hx.elim
end
theorem tV {h:List Blk}:∀ {e:Env},wfE h e→∀ i,wfV h (get e i)
 | [],_,_=>trivial
 | (j,x)::r,hw,i=>by
  simp only [get]
  split
  ·exact hw.1
  ·exact tV hw.2 i
theorem Hk {h:List Blk}:∀ {l:List Blk},wfB h l→∀ (k:Nat) (cs:List V),l[k]?=some (Blk.var cs)→wfL h cs
 | b::r,hw,0,cs,hk=>by
  simp only [yaj,yaa] at hk
  subst hk
  exact hw.1
 | b::r,hw,k+1,cs,hk=>by
  have:wfB h r:=by cases b<;>first|exact hw|exact hw.2
  exact Hk this k cs (by simpa using hk)
 | [],_,_,_,hk=>by simp at hk
theorem Hh {h:List Blk}:∀ {xs:List V},wfL h xs→∀ {x:V},x∈xs→wfV h x
 | y::r,hw,x,hx=>by
  rcases yal.1 hx with rfl|hx
  ·exact hw.1
  ·exact Hh hw.2 hx
 | [],_,_,hx=>by simp at hx
theorem o0 {h:List Blk} {b:Blk} {r:List Blk} (hw:wfB h (b::r)):wfB h r:=by cases b<;>first|exact hw|exact hw.2
theorem Hl {h:List Blk}:∀ {l:List Blk},wfB h l→∀ (k:Nat) (sz:Nat) (els:List (List V)),l[k]?=some (Blk.arv sz els)→wfL h els.flatten
 | b::r,hw,0,sz,els,hk=>by
  simp only [yaj,yaa] at hk
  subst hk
  exact hw.1
 | b::r,hw,k+1,sz,els,hk=>Hl (o0 hw) k sz els (by simpa using hk)
 | [],_,_,_,_,hk=>by simp at hk
theorem Hj {h:List Blk}:∀ {l:List Blk},wfB h l→∀ (k:Nat) (es:List (Value × V × Nat)) (c:Nat),l[k]?=some (Blk.map es c)→wfL h (es.map (·.2.1))
 | b::r,hw,0,sz,els,hk=>by
  simp only [yaj,yaa] at hk
  subst hk
  exact hw.1
 | b::r,hw,k+1,sz,els,hk=>Hj (o0 hw) k sz els (by simpa using hk)
 | [],_,_,_,_,hk=>by simp at hk
theorem Ls {h:List Blk}:∀ {l:List Blk},wfB h l→∀ (k:Nat) (m:V) (s:Nat) (sn:List Nat) (c:Nat),l[k]?=some (Blk.it m s sn c)→wfV h m
 | b::r,hw,0,m,s,sn,c,hk=>by
  simp only [yaj,yaa] at hk
  subst hk
  exact hw.1
 | b::r,hw,k+1,m,s,sn,c,hk=>Ls (o0 hw) k m s sn c (by simpa using hk)
 | [],_,_,_,_,_,_,hk=>by simp at hk
theorem Hi {h:List Blk}:∀ {l:List Blk},wfB h l→∀ (k:Nat) (t:RS) (e:Env),l[k]?=some (Blk.rcd t e)→wfE h e
 | b::r,hw,0,t,e,hk=>by
  simp only [yaj,yaa] at hk
  subst hk
  exact hw.1
 | b::r,hw,k+1,t,e,hk=>Hi (o0 hw) k t e (by simpa using hk)
 | [],_,_,_,_,hk=>by simp at hk
theorem pX {ρ:Nat→Loc} {w:World} {p:List Blk}:Fr ρ w (dC ρ p) w:=⟨rfl,rfl,rfl,yad _,fun _ _ ho=>⟨rfl,fun h=>ho (iP h)⟩⟩
theorem Bu {ρ:Nat→Loc} {w:World} {h p:List Blk} (hr:Rep ρ X w h) (hl:leH h p) (hw:wfB p p):Rep (dC ρ p) X w p:=by
 have hreal:∀ k,(dC ρ p k).real=true→aC p k:=by
  intro k hk
  unfold dC at hk
  unfold aC
  cases hb:p[k]? with
  | none=>rw [hb] at hk;cases hk
  | some B=>rw [hb] at hk;cases B<;>first|trivial|cases hk
 refine ⟨?_,?_,?_,?_,?_,hr.xlt⟩
 ·intro i j hij hi hj
  have h1:=hreal i hi
  have h2:=hreal j hj
  rw [cL h1] at hi ⊢
  rw [cL h2] at hj ⊢
  exact hr.inj i j hij hi hj
 ·intro k hk
  have:p[k]?=none:=by simpa using hk
  simp [dC,this]
 ·intro k B hB
  obtain ⟨A,hA,hAB⟩:=In hl k B hB
  have hrA:=hr.blk k A hA
  cases B with
  | dead=>simp [aQ,dC,hB]
  | arr sz els =>
   have hAB':A=.arr sz els:=hAB
   subst hAB'
   have hlive:aC p k:=by simp [aC,hB]
   simp only [aQ] at hrA ⊢
   rw [cL hlive]
   refine ⟨hrA.1,hrA.2.imp id ?_⟩
   rintro ⟨h1,c,T,h2,h3,h4,h5⟩
   exact ⟨h1,c,T,h2,h3,h4,aL nA sz _ rfl _ _ h5⟩
  | var ys =>
   cases A with
   | var xs =>
    have hlive:aC p k:=by simp [aC,hB]
    simp only [aQ] at hrA ⊢
    rw [cL hlive]
    obtain ⟨h1,c,T,h2,h3⟩:=hrA
    exact ⟨h1,c,T,h2,gZ _ _ (Hk hw k ys hB) (Eb hAB h3.1),h3.2⟩
   | _=>exact hAB.elim
  | arv sz els =>
   have hAB':A=.arv sz els:=hAB
   subst hAB'
   have hlive:aC p k:=by simp [aC,hB]
   simp only [aQ] at hrA ⊢
   rw [cL hlive]
   obtain ⟨h0,h1,c,T,h2,h3,h4,h5⟩:=hrA
   refine ⟨h0,h1,c,T,h2,h3,h4,fun i e he=>⟨(h5 i e he).1,fun f x hx=>?_⟩⟩
   obtain ⟨u,h6,h7⟩:=(h5 i e he).2 f x hx
   exact ⟨u,h6,f9 _ _ (Hh (Hl hw k sz els hB) (List.mem_flatten.2 ⟨e,yao he,yao hx⟩)) h7⟩
  | map es cl =>
   have hAB':A=.map es cl:=hAB
   subst hAB'
   have hlive:aC p k:=by simp [aC,hB]
   simp only [aQ] at hrA ⊢
   rw [cL hlive]
   obtain ⟨h1,arr,h2,h3,h4⟩:=hrA
   exact ⟨h1,arr,h2,h3,gZ _ _ (Hj hw k es cl hB) h4⟩
  | it m s sn l =>
   have hAB':A=.it m s sn l:=hAB
   subst hAB'
   have hlive:aC p k:=by simp [aC,hB]
   simp only [aQ] at hrA ⊢
   rw [cL hlive]
   obtain ⟨h1,x,h2,h3⟩:=hrA
   exact ⟨h1,x,h2,f9 _ _ (Ls hw k m s sn l hB) h3⟩
  | rcd t p' =>
   cases A with
   | rcd t' e =>
    obtain ⟨rfl,hle⟩:t'=t∧(e=p'∨leE e p'):=hAB
    have hlive:aC p k:=by simp [aC,hB]
    simp only [aQ] at hrA ⊢
    rw [cL hlive]
    refine ⟨hrA.1,fun i=>?_⟩
    have hwf:=tV (Hi hw k t' p' hB) i
    rcases hle with rfl|hle
    ·exact f9 _ _ hwf (hrA.2 i)
    rcases Gg hle i with hg|hg
    ·rw [hg];trivial
    ·exact f9 _ _ hwf (by rw [hg];exact hrA.2 i)
   | _=>exact hAB.elim
 ·rintro b ho hx
  exact hr.disj b (iP ho) hx
 ·intro k hk
  have hl':=hreal k hk
  rw [cL hl'] at hk ⊢
  exact hr.lt k hk
theorem Good.le {s p:St} {a:Act} {w:World} (h:Good ρ0 X w0 fx N s a w) (hl:leS fx s p):Good ρ0 X w0 fx N p a w:=by
 obtain ⟨ρ,⟨⟨hf,h1⟩,hk⟩,⟨hr,he⟩,h5,h5m⟩:=h
 obtain ⟨l1,l2,l3,l4,l5⟩:=hl
 refine ⟨dC ρ p.h,⟨⟨hf.trans pX,fun k hk'=>by rw [cL (aP l3 k hk')];exact h1 k hk'⟩,l3⟩,⟨Bu hr l2 l5,fun i=>?_⟩,h5,h5m.fr pX⟩
 have hwf:=tV l4 i
 rcases Gg l1 i with hg|hg
 ·rw [hg];trivial
 ·exact f9 _ _ hwf (by rw [hg];exact he i)
theorem gW:∀ xs:List V,eP xs xs
 | []=>trivial
 | x::xs=>⟨by unfold leV;split<;>trivial,gW xs⟩
theorem aO (b:Blk):leB b b:=by
 cases b with
 | dead=>trivial
 | var xs=>exact gW xs
 | rcd t e=>exact ⟨rfl,.inl rfl⟩
 | _=>rfl
theorem aF:∀ h:List Blk,leH h h
 | []=>trivial
 | b::h=>⟨aO b,aF h⟩
theorem Ec:∀ (h:List Blk) (n:Nat) (B:Blk),leH (h.set n B) (h.set n .dead)
 | [],_,_=>trivial
 | b::h,0,B=>⟨trivial,aF h⟩
 | b::h,n+1,B=>⟨aO b,Ec h n B⟩
theorem Good.leH {s:St} {p:List Blk} {a:Act} {w:World} (h:Good ρ0 X w0 fx N s a w) (l2:leH s.h p) (l3:aJ fx p) (l4:wfE p s.e) (l5:wfB p p):Good ρ0 X w0 fx N { s with h:=p } a w:=by
 obtain ⟨ρ,⟨⟨hf,h1⟩,hk⟩,⟨hr,he⟩,h5,h5m⟩:=h
 exact ⟨dC ρ p,⟨⟨hf.trans pX,fun k hk'=>by rw [cL (aP l3 k hk')];exact h1 k hk'⟩,l3⟩,⟨Bu hr l2 l5,fun i=>f9 _ _ (tV l4 i) (he i)⟩,h5,h5m.fr pX⟩
theorem Good.give {s:St} {M:Nat→Bool} {a:Act} {w:World} (h:Good ρ0 X w0 fx N s a w) (hM:∀ k∈fx,M k=false):Good ρ0 X w0 fx N (s.give M) a w:=by
 obtain ⟨ρ,⟨⟨g1,g2⟩,g3⟩,⟨g4,g5⟩,g6⟩:=h
 exact ⟨dE ρ M,⟨⟨g1.trans v8,fun j hj=>by rw [mJ (by rw [hM j hj];simp)];exact g2 j hj⟩,dB fun j hj=>Km (aP g3 j hj) (hM j hj)⟩,
  ⟨Sl g4,fun i=>by show aM _ _ _ (get (gvE M s.h s.e) i) _;rw [Bq];exact rU g4 _ _ (g5 i)⟩,g6.1,g6.2.fr v8⟩
theorem vK {ρ:Nat→Loc} {w:World} {x y:V} {val:Value} (hc:Ic x y) (h:aM ρ X w x val):aM ρ X w y val:=by
 rcases hc with rfl|⟨rfl,k,rfl⟩
 ·exact h
 ·have:val=.slice none 0 0:=h
  subst this
  exact ⟨0,yad _,yat _,.inl ⟨rfl,none,rfl⟩⟩
theorem Ib {ρ:Nat→Loc} {w:World}:∀ {xs ys:List V} {vs:List Value},Bg xs ys→bA ρ X w xs vs→bA ρ X w ys vs
 | [],ys,[],hr,h=>by
  have:ys=[]:=List.eq_nil_of_length_eq_zero hr.1
  subst this;trivial
 | x::xs,[],v::vs,hr,h=>by have:=hr.1;simp at this
 | x::xs,y::ys,v::vs,hr,h =>
  ⟨vK (hr.2 0 x y rfl rfl) h.1,Ib (xs:=xs) (ys:=ys) ⟨by simpa using hr.1,fun i a b h1 h2=>hr.2 (i+1) a b (by simpa using h1) (by simpa using h2)⟩ h.2⟩
 | [],_,_::_,_,h=>h.elim
 | _::_,_,[],_,h=>h.elim
theorem xV {ρ ρ':Nat→Loc} {w:World} (hf:Fr ρ w ρ' w) (hag:∀ k,(ρ k).real=true→ρ' k=ρ k) {k:Nat} (hk:ρ' k=ρ k) {B:Blk} (h:aQ ρ X w k B):aQ ρ' X w k B:=by
 cases B with
 | dead=>simp only [aQ] at h ⊢;rw [hk];exact h
 | arr s es =>
  simp only [aQ] at h ⊢
  rw [hk]
  refine ⟨h.1,h.2.imp id ?_⟩
  rintro ⟨h1,c,T,h2,h3,h4,h5⟩
  exact ⟨h1,c,T,h2,h3,h4,aL hf.sta s _ rfl _ _ h5⟩
 | var cs =>
  simp only [aQ] at h ⊢
  rw [hk]
  obtain ⟨h1,c,T,h2,h3⟩:=h
  exact ⟨h1,c,T,h2,dK hf hag _ _ h3.1,h3.2⟩
 | arv s es =>
  simp only [aQ] at h ⊢
  rw [hk]
  obtain ⟨h0,h1,c,T,h2,h3,h4,h5⟩:=h
  exact ⟨h0,h1,c,T,h2,h3,h4,fun i e he=>⟨(h5 i e he).1,fun f x hx=>by obtain ⟨u,h6,h7⟩:=(h5 i e he).2 f x hx;exact ⟨u,h6,bG hf hag _ _ h7⟩⟩⟩
 | map es cl =>
  simp only [aQ] at h ⊢
  rw [hk]
  obtain ⟨h1,arr,h2,h3,h4⟩:=h
  exact ⟨h1,arr,h2,h3,dK hf hag _ _ h4⟩
 | it m s sn l =>
  simp only [aQ] at h ⊢
  rw [hk]
  obtain ⟨h1,x,h2,h3⟩:=h
  exact ⟨h1,x,h2,bG hf hag _ _ h3⟩
 | rcd t e =>
  simp only [aQ] at h ⊢
  rw [hk]
  exact ⟨h.1,fun i=>bG hf hag _ _ (h.2 i)⟩
theorem Good.setB {s:St} {a:Act} {w:World} {j:Nat} {B C:Blk} (h:Good ρ0 X w0 fx N s a w) (hb:s.h[j]?=some B) (hl:aC [C] 0) (hC:∀ ρ,aQ ρ X w j B→aQ ρ X w j C):Good ρ0 X w0 fx N { s with h:=s.h.set j C } a w:=by
 obtain ⟨ρ,⟨⟨g1,g2⟩,g3⟩,⟨g4,g5⟩,g6⟩:=h
 have hjl:=(yag.1 hb).1
 refine ⟨ρ,⟨⟨g1,g2⟩,dB fun k hk=>?_⟩,⟨⟨g4.inj,fun k hk=>g4.out k (by simpa using hk),fun k D hD=>?_,g4.disj,g4.lt,g4.xlt⟩,g5⟩,g6⟩
 ·have:=aP g3 k hk
  unfold aC at this ⊢
  by_cases hkj:j=k
  ·subst hkj
   rw [yap hjl]
   cases C<;>first|exact hl.elim|trivial
  ·rw [yai hkj];exact this
 ·by_cases hkj:j=k
  ·subst hkj
   rw [yap hjl] at hD
   simp only [yaa] at hD
   subst hD
   exact hC ρ (g4.blk j B hb)
  ·rw [yai hkj] at hD
   exact g4.blk k D hD
def eM (ρ:Nat→Loc) (n m sz k:Nat):Loc:=if n≤k∧k<n+m then { ρ k with real:=false,sz:=sz } else ρ k
theorem Good.virt {s:St} {a:Act} {w:World} (m sz:Nat) (hz:0<sz) (h:Good ρ0 X w0 fx N s a w):Good ρ0 X w0 fx N { s with h:=s.h++yab m (.arr sz []) } a w:=by
 obtain ⟨ρ,⟨⟨g1,g2⟩,g3⟩,⟨g4,g5⟩,g6⟩:=h
 have hreal:∀ k,(eM ρ s.h.length m sz k).real=true→(ρ k).real=true∧eM ρ s.h.length m sz k=ρ k:=by
  intro k hk
  unfold eM at hk ⊢
  split at hk
  ·cases hk
  ·rename_i hn;rw [if_neg hn];exact ⟨hk,rfl⟩
 have hag:∀ k,(ρ k).real=true→eM ρ s.h.length m sz k=ρ k:=by
  intro k hk
  unfold eM
  rw [if_neg]
  rintro ⟨h1,_⟩
  rw [g4.out k h1] at hk
  cases hk
 have hown:∀ b,Own (eM ρ s.h.length m sz) b→Own ρ b:=by
  rintro b ⟨k,h1,h2⟩
  have:=hreal k h1
  rw [this.2] at h2
  exact ⟨k,this.1,h2⟩
 have hf:Fr ρ w (eM ρ s.h.length m sz) w:=⟨rfl,rfl,rfl,yad _,fun _ _ ho=>⟨rfl,fun h=>ho (hown _ h)⟩⟩
 have hlt:∀ k,k<s.h.length→eM ρ s.h.length m sz k=ρ k:=fun k hk=>by unfold eM;rw [if_neg (by omega)]
 refine ⟨eM ρ s.h.length m sz,⟨⟨g1.trans hf,fun k hk=>?_⟩,dB fun k hk=>?_⟩,⟨⟨?_,fun k hk=>?_,fun k D hD=>?_,fun b ho=>g4.disj b (hown b ho),fun k hk=>?_,g4.xlt⟩,fun i=>bG hf hag _ _ (g5 i)⟩,g6.1,g6.2.fr hf⟩
 ·have hl:=aP g3 k hk
  have:k<s.h.length:=by
   unfold aC at hl
   cases hb:s.h[k]? with
   | none=>rw [hb] at hl;exact hl.elim
   | some B=>exact (yag.1 hb).1
  rw [hlt k this];exact g2 k hk
 ·have hl:=aP g3 k hk
  unfold aC at hl ⊢
  cases hb:s.h[k]? with
  | none=>rw [hb] at hl;exact hl.elim
  | some B =>
   show (match (s.h++yab m (Blk.arr sz []))[k]? with|some Blk.dead=>False|some _=>True|none=>False)
   rw [yam (yag.1 hb).1]
   rw [hb] at hl ⊢
   exact hl
 ·intro i j hij hi hj
  have h1:=hreal i hi
  have h2:=hreal j hj
  rw [h1.2,h2.2]
  exact g4.inj i j hij h1.1 h2.1
 ·simp only [List.length_append,yaC] at hk
  have:=g4.out k (by omega)
  unfold eM
  split
  ·rfl
  ·exact this
 ·by_cases hkl:k<s.h.length
  ·rw [yam hkl] at hD
   exact xV hf hag (hlt k hkl) (g4.blk k D hD)
  ·rw [yaD (by omega),List.getElem?_replicate] at hD
   split at hD
   ·rename_i hm
    simp only [yaa] at hD
    subst hD
    simp only [aQ,eM]
    rw [if_pos (by omega)]
    exact ⟨⟨rfl,hz⟩,.inl ⟨rfl,trivial⟩⟩
   ·cases hD
 ·have h1:=hreal k hk
  rw [h1.2];exact g4.lt k h1.1
theorem Good.virtAt {s:St} {a:Act} {w:World} (k sz:Nat) (hz:0<sz) (hk:s.h[k]?=some .dead) (h:Good ρ0 X w0 fx N s a w):Good ρ0 X w0 fx N { s with h:=s.h.set k (.arr sz []) } a w:=by
 obtain ⟨ρ,⟨⟨g1,g2⟩,g3⟩,⟨g4,g5⟩,g6⟩:=h
 have hkl:=(yag.1 hk).1
 have hkd:(ρ k).real=false:=by simpa [aQ] using g4.blk k _ hk
 have hne:∀ j,j≠k→upd ρ k { ρ k with sz:=sz } j=ρ j:=fun j hj=>aK _ _ hj
 have hreal:∀ j,(upd ρ k { ρ k with sz:=sz } j).real=(ρ j).real:=by
  intro j
  by_cases hj:j=k
  ·subst hj;rw [upd_same]
  ·rw [hne j hj]
 have hag:∀ j,(ρ j).real=true→upd ρ k { ρ k with sz:=sz } j=ρ j:=by
  intro j hj
  refine hne j fun e=>?_
  rw [e,hkd] at hj;cases hj
 have hown:∀ b,Own (upd ρ k { ρ k with sz:=sz }) b→Own ρ b:=by
  rintro b ⟨j,h1,h2⟩
  rw [hreal] at h1
  rw [hag j h1] at h2
  exact ⟨j,h1,h2⟩
 have hf:Fr ρ w (upd ρ k { ρ k with sz:=sz }) w:=⟨rfl,rfl,rfl,yad _,fun _ _ ho=>⟨rfl,fun h=>ho (hown _ h)⟩⟩
 have hnf:∀ j∈fx,j≠k:=by
  intro j hj e
  have:=aP g3 j hj
  rw [e] at this
  unfold aC at this
  rw [hk] at this
  exact this
 refine ⟨_,⟨⟨g1.trans hf,fun j hj=>(hne j (hnf j hj)).trans (g2 j hj)⟩,dB fun j hj=>?_⟩,⟨⟨?_,fun j hj=>?_,fun j D hD=>?_,fun b ho=>g4.disj b (hown b ho),fun j hj=>?_,g4.xlt⟩,fun i=>bG hf hag _ _ (g5 i)⟩,g6.1,g6.2.fr hf⟩
 ·have:=aP g3 j hj
  unfold aC at this ⊢
  rw [yai (fun e=>hnf j hj e.symm)];exact this
 ·intro a b hab ha hb
  rw [hreal] at ha hb
  rw [hag a ha,hag b hb]
  exact g4.inj a b hab ha hb
 ·rw [hreal]
  exact g4.out j (by simpa using hj)
 ·by_cases hkj:k=j
  ·subst hkj
   rw [yap hkl] at hD
   simp only [yaa] at hD
   subst hD
   simp only [aQ,upd_same]
   exact ⟨⟨trivial,hz⟩,.inl ⟨hkd,trivial⟩⟩
  ·rw [yai hkj] at hD
   exact xV hf hag (hne j fun e=>hkj e.symm) (g4.blk j D hD)
 ·rw [hreal] at hj
  rw [hag j hj];exact g4.lt j hj
theorem Good.mv {s:St} {a:Act} {w:World} (i j:Nat) (B:Blk) (hij:i≠j) (hi:s.h[i]?=some .dead) (hj:s.h[j]?=some B) (hjf:j∉fx) (h:Good ρ0 X w0 fx N s a w) :
  Good ρ0 X w0 fx N { s with e:=mvE i j s.e,h:=((s.h.map (mvB i j)).set i (mvB i j B)).set j .dead } a w:=by
 obtain ⟨ρ,⟨⟨g1,g2⟩,g3⟩,⟨g4,g5⟩,g6⟩:=h
 have hid:(ρ i).real=false:=by simpa [aQ] using g4.blk i _ hi
 have hnf:∀ k∈fx,k≠i∧k≠j:=by
  intro k hk
  refine ⟨fun e=>?_,fun e=>hjf (e▸hk)⟩
  have:=aP g3 k hk
  rw [e] at this
  unfold aC at this
  rw [hi] at this
  exact this
 refine ⟨dH ρ i j,⟨⟨g1.trans (yQ hid),fun k hk=>?_⟩,dB fun k hk=>?_⟩,⟨acB g4 hij hi hj,fun t=>?_⟩,g6.1,g6.2.fr (yQ hid)⟩
 ·have:=hnf k hk
  unfold dH
  rw [if_neg this.1,if_neg this.2];exact g2 k hk
 ·have h1:=hnf k hk
  have:=aP g3 k hk
  unfold aC at this ⊢
  rw [yai (fun e=>h1.2 e.symm),yai (fun e=>h1.1 e.symm),List.getElem?_map]
  cases hb:s.h[k]? with
  | none=>rw [hb] at this;exact this.elim
  | some C=>rw [hb] at this;cases C<;>first|exact this.elim|trivial
 ·show aM _ _ _ (get (mvE i j s.e) t) _
  rw [Bp];exact vN hid _ _ (g5 t)
theorem Good.ghost {s s':St} {a:Act} {w:World} (hg:dM fx s s') (h:Good ρ0 X w0 fx N s a w):Good ρ0 X w0 fx N s' a w:=by
 induction hg with
 | refl s=>exact h
 | le hl _ ih=>exact ih (h.le hl)
 | give M hM _ ih=>exact ih (h.give hM)
 | virtAt k sz hz hk _ ih=>exact ih (h.virtAt k sz hz hk)
 | mv i j B hij hi hj hf _ ih=>exact ih (h.mv i j B hij hi hj hf)
 | virt n sz hz _ ih=>exact ih (h.virt n sz hz)
 | nilE i k hn _ ih =>
  refine ih ?_
  obtain ⟨ρ,g1,⟨g4,g5⟩,g6⟩:=h
  refine ⟨ρ,g1,⟨g4,fun j=>?_⟩,g6⟩
  show aM ρ X w (if j=i then .sl k 0 0 else get _ j) _
  by_cases hj:j=i
  ·subst hj
   rw [if_pos rfl]
   exact vK (.inr ⟨rfl,k,rfl⟩) (hn▸g5 j)
  ·rw [if_neg hj];exact g5 j
 | nilB j xs ys hb hr _ ih =>
  refine ih (h.setB hb trivial fun ρ hB=>?_)
  simp only [aQ] at hB ⊢
  obtain ⟨h1,c,T,h2,h3⟩:=hB
  exact ⟨h1,c,T,h2,Ib hr h3.1,h3.2⟩
 | nilW j sz xs ys hb hr _ ih =>
  refine ih (h.setB hb trivial fun ρ hB=>?_)
  simp only [aQ] at hB ⊢
  obtain ⟨h0,h1,c,T,h2,h3,h4,h5⟩:=hB
  refine ⟨h0,h1,c,T,h2,h3,by rw [hr.1];exact h4,fun i e he=>?_⟩
  have hil:i<xs.length:=by rw [←hr.1];exact (yag.1 he).1
  have hx:xs[i]?=some xs[i]:=yaE hil
  have hrow:=hr.2 i _ _ hx he
  obtain ⟨h6,h7⟩:=h5 i _ hx
  refine ⟨hrow.1.trans h6,fun f y hy=>?_⟩
  have hfl:f<xs[i].length:=by rw [←hrow.1];exact (yag.1 hy).1
  have hxf:xs[i][f]?=some xs[i][f]:=yaE hfl
  obtain ⟨u,h8,h9⟩:=h7 f _ hxf
  exact ⟨u,h8,vK (hrow.2 f _ _ hxf hy) h9⟩
 | opn j sz els hb hn _ ih =>
  refine ih (h.setB hb trivial fun ρ hB=>?_)
  simp only [aQ] at hB ⊢
  obtain ⟨h0,⟨_,h1⟩|⟨h1,c,T,h2,h3,h4,h5⟩⟩:=hB
  ·exact absurd h1 hn
  refine ⟨h0,h1,c,T,h2,h3,h4,fun i e he=>?_⟩
  obtain ⟨q1,q2⟩:=dQ h5 he
  refine ⟨q1,fun f x hx=>?_⟩
  obtain ⟨u,q3,q4⟩:=fR q2 hx
  exact ⟨u,by simpa [World.cell?,h2] using q3,lC q4⟩
 | cls j sz els hb hd _ ih =>
  refine ih (h.setB hb trivial fun ρ hB=>?_)
  simp only [aQ] at hB ⊢
  obtain ⟨h0,h1,c,T,h2,h3,h4,h5⟩:=hB
  refine ⟨h0,.inr ⟨h1,c,T,h2,h3,h4,dL fun i e he=>?_⟩⟩
  obtain ⟨q1,q2⟩:=h5 i e he
  refine ⟨q1,lF fun f x hx=>?_⟩
  obtain ⟨u,q3,q4⟩:=q2 f x hx
  exact ⟨u,by simpa [World.cell?,h2] using q3,lE (yak.1 (hd e (yao he)) x (yao hx)) q4⟩
 | shr j sz n els hb _ ih =>
  refine ih (h.setB hb trivial fun ρ hB=>?_)
  simp only [aQ] at hB ⊢
  obtain ⟨h0,⟨h1,h2⟩|⟨h1,c,T,h2,h3,h4,h5⟩⟩:=hB
  ·exact ⟨h0,.inl ⟨h1,by rw [h2];simp⟩⟩
  ·refine ⟨h0,.inr ⟨h1,c,T,h2,h3,Nat.le_trans (Nat.add_le_add_left (Nat.mul_le_mul_right _ (by rw [List.length_take];omega)) _) h4,?_⟩⟩
   have:=tH (i:=0) (n:=n) h5
   simpa using this
theorem Good.leG {s p:St} {a:Act} {w:World} (h:Good ρ0 X w0 fx N s a w) (hl:leG fx s p):Good ρ0 X w0 fx N p a w:=by
 obtain ⟨s',h1,h2⟩:=hl
 exact (h.ghost h1).le h2
theorem nQ {a:Act} {w:World} {K:St→Prop}:∀ (xs:List Nat) (s:St),w5 fx xs s K→Good ρ0 X w0 fx N s a w→∃ s',K s'∧Good ρ0 X w0 fx N s' a w
 | [],s,h,hg=>⟨s,h,hg⟩
 | x::r,s,h,hg=>by
  simp only [w5] at h
  split at h
  ·rename_i k i n hx
   unfold Ko at h
   split at h
   ·rename_i sz els hb
    obtain ⟨hk,h⟩:=h
    have hb':s.h[k]?=some (.arr sz els):=by
     unfold blk at hb
     rw [yaF] at hb
     cases hk:s.h[k]? with
     | none=>simp [hk] at hb
     | some B=>rw [hk] at hb;simpa using hb
    refine nQ r _ h ?_
    obtain ⟨ρ,⟨⟨g1,g2⟩,g3⟩,⟨g4,g5⟩,g6⟩:=hg
    have hne:∀ j∈fx,j≠k:=fun j hj e=>hk (e▸hj)
    exact ⟨dF ρ k,⟨⟨g1.trans lU,fun j hj=>by rw [dY (hne j hj)];exact g2 j hj⟩,dB fun j hj=>Dw (aP g3 j hj) (hne j hj)⟩,
     ⟨Ow g4 hb',fun i=>by rw [pR];exact nP g4 hb' _ _ (g5 i)⟩,g6.1,g6.2.fr lU⟩
   ·exact nQ r s h hg
  ·exact nQ r s h hg
theorem Tm {c:V} {A B:Prop} (h:brV c A B):∃ t,c=.v (.bool t)∧(t=true→A)∧(t=false→B):=by
 unfold brV at h
 split at h
 ·exact ⟨_,rfl,h⟩
 ·exact h.elim
end
end Go.Fx
namespace Go.Fx
open Go.RowKit
def FR (r:Option Nat):Fence:={ Fence.wide with round:=r }
section
variable {P:Program} {r:Option Nat}
theorem Ji {n:Nat} {f:FuncId} {args:Array Value} {w:World} {R:Ending→World→Prop} (h:Calls P f args w R):CallsIn (FR r) n P f args w R:=(callsIn_wide (n:=n)).2 h
theorem Vs {n:Nat} {row:String} {args:Array Value} {w:World} {R:Value→World→Prop} (h:Rows P row args w R):RowsIn (FR r) n P row args w R :=
 fun c cs _=>let ⟨v,w',hr,hs⟩:=h c cs;⟨v,w',hr,stepsIn_wide.2 hs⟩
theorem Fv {o:Oper} (hd:r=none∨dZ o=true) {Q:Exit→Act→World→Prop} {a:Act} {w:World} {next:Act→World→Prop} (h:o.wp P a w next Q):o.wpIn (FR r) 0 P a w next Q:=by
 refine ⟨fun _ _=>trivial,?_⟩
 have hs:o.semAt (FR r).round a.eval=execOp a.eval o:=by
  rcases hd with rfl|hd
  ·rfl
  ·exact Oper.semAt_eq _ _ _ fun c hc=>by simp [dZ,hc] at hd
 rw [hs]
 unfold Oper.wp at h
 generalize (execOp a.eval o).run P w=res at h ⊢
 unfold Oper.upon at h
 split at h
 ·exact h
 ·exact h
 ·exact h
 ·refine ⟨fun h=>(by cases h),Ji (h.mono ?_)⟩
  rintro e w' he
  cases e<;>exact he
 ·exact ⟨fun h=>(by cases h),Vs h⟩
 ·exact h
 ·exact h.elim
theorem Vz {ops:Array Oper} (hd:r=none∨∀ (i:Nat) (o:Oper),ops[i]?=some o→dZ o=true) {Q:Exit→Act→World→Prop} (hQ:¬LetsOut Q) {i:Nat} {K:Act→World→Prop} {a:Act} {w:World} (h:wpOp P ops Q i K a w) :
  wpOpIn (FR r) 0 P ops Q i K a w:=by
 unfold wpOp at h
 unfold wpOpIn
 split at h
 ·rename_i ho;simp only [ho];exact h
 ·rename_i o ho
  simp only [ho]
  split at h
  ·rename_i hw
   rw [if_pos hw]
   rcases h with h|h
   ·exact Fv (hd.imp id fun h=>h i o ho) h
   ·exact absurd h.2 hQ
  ·rename_i hw
   rw [if_neg hw]
   exact ⟨fun _ _=>trivial,h⟩
theorem Us {ops:Array Oper} (hd:r=none∨∀ (i:Nat) (o:Oper),ops[i]?=some o→dZ o=true) {Q:Exit→Act→World→Prop} (hQ:¬LetsOut Q) {md:Region.Mode} :
  ∀ (fuel:Nat) (listed:Array Bool) (a:Act) (w:World),wpAny P md ops Q fuel listed a w→wpAnyIn (FR r) 0 P md ops Q fuel listed a w
 | 0,_,_,_,h=>h
 | fuel+1,_,_,_,h=>⟨h.1,fun i hi=>wpOpIn_mono (fun a w=>Us hd hQ fuel _ a w) (Vz hd hQ (h.2 i hi))⟩
theorem Ge {ops:Array Oper} {Q:Exit→Act→World→Prop} (hQ:¬LetsOut Q):∀ (os:List Oper),(r=none∨∀ o∈os,dZ o=true)→∀ (a:Act) (w:World),wpList P ops Q os a w→wpListIn (FR r) 0 P ops Q os a w
 | [],_,_,_,h=>h
 | o::os,hd,a,w,h=>by
  unfold wpList at h
  unfold wpListIn
  have hd':r=none∨∀ o∈os,dZ o=true:=hd.imp id fun h o ho=>h o (yae _ ho)
  split at h
  ·rename_i hw
   rw [if_pos hw]
   rcases h with h|h
   ·exact Oper.wpIn_mono (fun a w=>Ge hQ os hd' a w) (Fv (hd.imp id fun h=>h o yah) h)
   ·exact absurd h.2 hQ
  ·rename_i hw
   rw [if_neg hw]
   exact ⟨fun _ _=>trivial,Ge hQ os hd' _ _ h⟩
theorem mC {ops:Array Oper} {Q:Exit→Act→World→Prop} {md:Region.Mode}:∀ (l:List Oper) (k:Nat) (listed:Array Bool) (a:Act) (w:World),(∀ j,l[j]?=ops[k+j]?) →
  Region.seqB md ops l.length k listed=true→wpListIn (FR r) 0 P ops Q l a w→wpAnyIn (FR r) 0 P md ops Q l.length listed a w
 | [],_,_,_,_,_,hB,h=>⟨by simpa [Region.seqB] using hB,h⟩
 | o::l,k,listed,a,w,hl,hB,h=>by
  have h0:ops[k]?=some o:=by simpa using (hl 0).symm
  simp only [List.length_cons,Region.seqB,yac,decide_eq_true_eq] at hB
  refine ⟨fun h1=>(by rw [hB.1] at h1;cases h1),fun i hi=>?_⟩
  rw [hB.1] at hi
  obtain rfl:i=k:=by simpa using hi
  have hw:wpOpIn (FR r) 0 P ops Q i (wpListIn (FR r) 0 P ops Q l) a w:=by unfold wpOpIn;simp only [h0];exact h
  exact wpOpIn_mono (fun a' w' h'=>mC l (i+1) _ a' w' (fun j=>by have:=hl (j+1);simpa [Nat.add_assoc,Nat.add_comm 1 j] using this) hB.2 h') hw
theorem n9 {ops:Array Oper} {Q:Exit→Act→World→Prop} (hQ:¬LetsOut Q) {md:Region.Mode} {w:World} {n g:Nat} {L:Array Bool→Act→Prop} (hL:∀ listed a,L listed a→wpAnyIn (FR none) 0 P md ops Q g listed a w) :
  ∀ (f:Nat) (listed:Array Bool) (a:Act),wpAnyL P md ops w n L f listed a→wpAnyIn (FR none) 0 P md ops Q (f+g) listed a w
 | 0,listed,a,h=>by rw [yan];exact hL _ _ h
 | f+1,listed,a,h=>by
  rw [show f+1+g=(f+g)+1 by omega]
  exact ⟨fun h0=>absurd h0 h.1,fun i hi=>Vz (.inl rfl) hQ (wpOp_of_stOp (fun a' h'=>n9 hQ hL f _ a' h') (h.2 i hi).2)⟩
end
end Go.Fx
namespace Go.Fx
open Go.RowKit
section
variable [DBase] {P:Program} {X:Nat→Prop} {ρ:Nat→Loc} {w w':World}
theorem Mx {h:List Blk} (hr:Rep ρ X w h):Rep ρ X w (h++[.dead]):=by
 refine ⟨hr.inj,fun k hk=>hr.out k (by simp at hk;omega),fun k B hB=>?_,hr.disj,hr.lt,hr.xlt⟩
 rcases yaq k h.length with hlt|hge
 ·rw [yam hlt] at hB
  exact hr.blk k B hB
 ·rw [yaD hge] at hB
  have:B=.dead:=by
   cases hk:k-h.length with
   | zero=>rw [hk] at hB;simpa using hB.symm
   | succ m=>rw [hk] at hB;simp at hB
  subst this
  exact hr.out k hge
theorem Mi (h:List Blk) (A B:Blk):(h++[A]).set h.length B=h++[B]:=by
 rw [List.set_append_right _ _ (yad _)];simp
theorem Eg (h:List Blk) (A:Blk):(h++[A])[h.length]?=some A:=by simp
theorem Ie {h:List Blk} (hr:Rep ρ X w h) {lp:Loop} (hm:Made w w' (.loop { lp with state:=.ready,pending:=none })) {e:Env} (he:bX ρ X w e lp.tmps) :
  ∃ ρ',Fr ρ w ρ' w'∧(∀ j,j≠h.length→ρ' j=ρ j)∧(∀ j,(ρ j).real=true→ρ' j=ρ j)∧Rep ρ' X w' (h++[.rcd .ready e])∧ρ' h.length=⟨true,w.heap.size,0,0,0,lp⟩:=by
 have hkr:(ρ h.length).real=false:=hr.out _ (yad _)
 have hf:Fr ρ w (upd ρ h.length ⟨true,w.heap.size,0,0,0,lp⟩) w':=mT hm (k:=h.length) rfl
 have hag:=mU hkr ⟨true,w.heap.size,0,0,0,lp⟩
 refine ⟨_,hf,fun j hj=>aK _ _ hj,hag,?_,upd_same _ _ _⟩
 have:=pM (Mx hr) hm (Eg h .dead) (l:=⟨true,w.heap.size,0,0,0,lp⟩) rfl (B:=.rcd .ready e) (by
  simp only [aQ,upd_same]
  exact ⟨⟨⟨rfl,rfl,rfl⟩,hm.new⟩,aR hf hag he⟩)
 rwa [Mi] at this
theorem Ki {h:List Blk} (hr:Rep ρ X w h) {e:Env} {t:Array Value} (he:bX ρ X w e t) :
  ∃ ρ',Fr ρ w ρ' w∧Fr ρ' w ρ w∧(∀ j,j≠h.length→ρ' j=ρ j)∧(∀ j,(ρ j).real=true→ρ' j=ρ j)∧Rep ρ' X w (h++[.rcd .ghost e])∧(ρ' h.length).lp.tmps=t:=by
 have hkr:(ρ h.length).real=false:=hr.out _ (yad _)
 let L:Loc:={ ρ h.length with real:=false,lp:={ (default:Loop) with tmps:=t } }
 have hag:∀ j,(ρ j).real=true→upd ρ h.length L j=ρ j:=mU hkr L
 have hre:∀ j,(upd ρ h.length L j).real=true→(ρ j).real=true∧upd ρ h.length L j=ρ j:=by
  intro j hj
  by_cases hjn:j=h.length
  ·subst hjn;rw [upd_same] at hj;cases hj
  ·rw [aK _ _ hjn] at hj ⊢;exact ⟨hj,rfl⟩
 have hown:∀ b,Own (upd ρ h.length L) b↔Own ρ b:=by
  intro b
  constructor
  ·rintro ⟨j,h1,h2⟩
   have:=hre j h1
   rw [this.2] at h2
   exact ⟨j,this.1,h2⟩
  ·rintro ⟨j,h1,h2⟩
   exact ⟨j,by rw [hag j h1];exact h1,by rw [hag j h1];exact h2⟩
 have hf:Fr ρ w (upd ρ h.length L) w:=⟨rfl,rfl,rfl,yad _,fun b _ ho=>⟨rfl,fun h=>ho ((hown b).1 h)⟩⟩
 have hf':Fr (upd ρ h.length L) w ρ w:=⟨rfl,rfl,rfl,yad _,fun b _ ho=>⟨rfl,fun h=>ho ((hown b).2 h)⟩⟩
 refine ⟨upd ρ h.length L,hf,hf',fun j hj=>aK _ _ hj,hag,⟨?_,?_,?_,fun b ho=>hr.disj b ((hown b).1 ho),?_,hr.xlt⟩,by rw [upd_same]⟩
 ·intro i j hij hi hj
  have h1:=hre i hi
  have h2:=hre j hj
  rw [h1.2,h2.2]
  exact hr.inj i j hij h1.1 h2.1
 ·intro k hk
  have:k≠h.length:=by simp at hk;omega
  rw [aK _ _ this]
  exact hr.out k (by simp at hk;omega)
 ·intro k B hB
  rcases yaq k h.length with hlt|hge
  ·rw [yam hlt] at hB
   exact xV hf hag (aK _ _ (by omega)) (hr.blk k B hB)
  ·have hk:k=h.length:=by
    have:=(yag.1 hB).1
    simp at this;omega
   subst hk
   rw [Eg] at hB
   simp only [yaa] at hB
   subst hB
   simp only [aQ,upd_same]
   exact ⟨rfl,aR hf hag he⟩
 ·intro k hk
  have:=hre k hk
  rw [this.2]
  exact hr.lt k this.1
theorem i5 {k:Nat} (hk:(ρ k).real=true) (o:Obj):Fr ρ w ρ (w.putObj (ρ k).blk o):=Aw hk o rfl rfl rfl rfl
theorem vE {h:List Blk} (hr:Rep ρ X w h) {k:Nat} {t t':RS} {e:Env} (hb:h[k]?=some (.rcd t e)) (hk:(ρ k).real=true) {o:Obj} (ho:vF (w.putObj (ρ k).blk o) (ρ k) t') :
  Rep ρ X (w.putObj (ρ k).blk o) (h.set k (.rcd t' e)):=by
 have hB:=hr.blk k _ hb
 simp only [aQ] at hB
 refine uQ hr hk (o:=o) (i5 hk o) rfl ?_
 simp only [aQ]
 exact ⟨ho,aR (i5 hk o) (fun _ _=>rfl) hB.2⟩
theorem Dm {k:Nat} (hk:(ρ k).real=true) {h:List Blk} (hr:Rep ρ X w h) (o:Obj):(w.putObj (ρ k).blk o).heap[(ρ k).blk]?=some o:=World.putObj_heap_same (hr.lt k hk)
theorem Pm {h:List Blk} (hr:Rep ρ X w h) {w0:World} (h0:w0.heap.size≤w.heap.size) {ds:List Deferred} (hM:Marks ρ w0 w ds) (r:Option Nat) (hrd:∀ l0,r=some l0→∃ r0,w.heap[l0]?=some (.loop r0))
  (fn:FuncId) (tmps:Array Value) (ps:Array Tmp) (asg body:Code) {e:Env} (he:bX ρ X w e tmps) :
  ∃ (l:Nat) (mark:List Deferred) (w1:World) (lp:Loop) (ρ':Nat→Loc),(Instr.enterLoop fn tmps ps asg body r).run P w=.ok (l,mark) w1 ∧
   (lp.fn=fn∧lp.tmps=tmps∧lp.params=ps∧lp.assign=asg∧lp.body=body)∧Fr ρ w ρ' w1∧(∀ j,j≠h.length→ρ' j=ρ j)∧(∀ j,(ρ j).real=true→ρ' j=ρ j)∧Rep ρ' X w1 (h++[.rcd .ready e]) ∧
   ρ' h.length=⟨true,l,0,0,0,lp⟩∧Marks ρ' w0 w1 (mark++ds):=by
 cases r with
 | none =>
  have hm1:Made w (w.alloc (.deferred (some []))) (.deferred (some [])):=Made.alloc _ _
  have hf1:Fr ρ w ρ (w.alloc (.deferred (some []))):=⟨rfl,rfl,rfl,by rw [hm1.size];omega,fun b hb ho=>⟨hm1.old hb,ho⟩⟩
  have hr1:Rep ρ X (w.alloc (.deferred (some []))) h :=
   ⟨hr.inj,hr.out,fun k B hB=>fS hf1 (fun _ _=>rfl) rfl (fun hk=>hm1.old (hr.lt k hk)) (hr.blk k B hB),hr.disj,fun k hk=>yau (hr.lt k hk) hf1.size,hr.xfr hf1⟩
  let lp:Loop:={ state:=.ready,pending:=none,fn,tmps,params:=ps,assign:=asg,body,defers:=w.heap.size }
  obtain ⟨ρ',g1,g2,g3,g4,g5⟩:=Ie hr1 (lp:=lp) (Made.alloc _ _) (aR hf1 (fun _ _=>rfl) he)
  refine ⟨_,_,_,lp,ρ',run_enterLoop_outer fn tmps ps asg body,⟨rfl,rfl,rfl,rfl,rfl⟩,hf1.trans g1,g2,g3,g4,by rw [g5,hm1.size],?_⟩
  obtain ⟨Ds,⟨h1,h2⟩,h3⟩:=hM.fr (hf1.trans g1)
  refine ⟨w.heap.size::Ds,⟨by rw [h1];rfl,yav.2 ⟨fun hD=>?_,h2⟩⟩,fun D hD=>?_⟩
  ·obtain ⟨Ds',⟨h1',_⟩,h3'⟩:=hM
   have:Ds=Ds':=by
    have hinj:∀ (xs ys:List Nat),xs.map vQ=ys.map vQ→xs=ys:=by
     intro xs
     induction xs with
     | nil=>intro ys h;cases ys with|nil=>rfl|cons _ _=>simp at h
     | cons x xs ih =>
      intro ys h
      cases ys with
      | nil=>simp at h
      | cons y ys =>
       simp only [List.map_cons,List.cons.injEq,vQ,Deferred.mk.injEq,Target.collected.injEq,and_true] at h
       rw [h.1,ih ys h.2]
    exact hinj _ _ (List.append_cancel_right (h1.symm.trans h1'))
   subst this
   have:=(h3' _ hD).1.2
   omega
  ·rcases yal.1 hD with rfl|hD
   ·refine ⟨⟨h0,yau (by rw [hm1.size];omega) g1.size⟩,?_,?_⟩
    ·rintro ⟨j,hj1,hj2⟩
     by_cases hjn:j=h.length
     ·subst hjn;rw [g5] at hj2;simp only [hm1.size] at hj2;omega
     ·rw [g2 j hjn] at hj1 hj2
      have:=hr.lt j hj1
      omega
    ·rw [(Made.alloc (w.alloc (.deferred (some []))) _).old (by rw [hm1.size];omega)]
     exact hm1.new
   ·exact h3 D hD
 | some l0 =>
  obtain ⟨r0,hr0⟩:=hrd l0 rfl
  let lp:Loop:={ state:=.ready,pending:=none,fn,tmps,params:=ps,assign:=asg,body,defers:=r0.defers }
  obtain ⟨ρ',g1,g2,g3,g4,g5⟩:=Ie hr (lp:=lp) (Made.alloc _ _) he
  exact ⟨_,_,_,lp,ρ',run_enterLoop_inner hr0 fn tmps ps asg body,⟨rfl,rfl,rfl,rfl,rfl⟩,g1,g2,g3,g4,g5,hM.fr g1⟩
end
end Go.Fx
namespace Go.Fx
open Go.RowKit
section
variable [DBase] {P:Program} {ρ0:Nat→Loc} {X:Nat→Prop} {w0:World} {N:Nat}
theorem oH {ops:Array Oper} {N:Nat} {o:Oper} {os:List Oper} {ls0:List bH} {l:bH} {ls:List bH} (h:dR P ops N (o::os) ls0=some (l::ls)) :
  ∃ l0 r0 op g,ls0=l0::r0∧rlY P o.op l0.op=some op∧gOk ops N o.guard=some g∧(∀ d,o.dst=some d→d<N)∧l=⟨o.dst,op,g⟩∧dR P ops N os r0=some ls:=by
 cases ls0 with
 | nil=>simp [dR] at h
 | cons l0 r0 =>
  simp only [dR] at h
  split at h
  ·rename_i op g r h1 h2 h3 h4
   simp only [yaa,List.cons.injEq] at h
   obtain ⟨rfl,rfl⟩:=h
   refine ⟨l0,r0,op,g,rfl,h1,h2,fun d hd=>?_,rfl,h4⟩
   simpa [dOk,hd] using h3
  ·cases h
theorem rJ {ops:Array Oper} {N:Nat} {os:List Oper} {ls0:List bH} (h:dR P ops N os ls0=some []):os=[]:=by
 cases os with
 | nil=>rfl
 | cons o os =>
  cases ls0 with
  | nil=>simp [dR] at h
  | cons l0 r0 =>
   simp only [dR] at h
   split at h<;>simp at h
theorem rH {op:Op} {l0 l:LOp} (h:rlY P op l0=some l):(∃ f c,l=.yld f c.args.toList∧op=.call c∧c.callee=.value f)∨(rl P op l0=some l∧∀ f xs,l≠.yld f xs):=by
 unfold rlY at h
 split at h
 ·split at h
  ·rename_i c
   split at h
   ·rename_i f hf
    simp only [yaa] at h
    exact .inl ⟨f,c,h.symm,rfl,hf⟩
   ·cases h
  ·cases h
 ·split at h
  ·cases h
  ·rename_i hn
   exact .inr ⟨h,fun f xs e=>hn f xs (by rw [h,e])⟩
theorem Ll {cx:Cx} {o:Oper} {c:Call} {f:Operand} (hop:o.op=.call c) (hcal:c.callee=.value f) {a:Act} {s:St} {ρ:Nat→Loc} {w:World} {K:V→St→Prop} {Q:Exit→Act→World→Prop}
  (hf:Fr ρ0 w0 ρ w∧∀ j∈cx.fx,ρ j=ρ0 j) (hk:aJ cx.fx s.h) (hr:Rep ρ X w s.h) (he:bX ρ X w s.e a.tmps) (hy:∀ k,YOk P ρ0 X w0 cx.fx k (cx.y k)) (h:Ar cx f c.args.toList s K) :
  o.wpIn (FR none) 0 P a w (fun a' w'=>∃ val,a'=a.put o.dst val∧mL cx.fx [] ρ X w a.tmps K val w') Q:=by
 unfold Ar at h
 split at h
 ·rename_i k hev
  have hv:=aH he f
  rw [hev] at hv
  obtain ⟨_,hv⟩:=hv
  obtain ⟨fn,tm,asg,body,hy1,hy2⟩:=hy k ρ w s a.tmps _ _ K hf hk hr he (lR he c.args.toList) h
  refine ⟨fun _ _=>trivial,?_⟩
  show o.uponIn (FR none) 0 P a _ Q ((execOp a.eval o).run P w)
  have ha:(c.args.map a.eval)=(c.args.toList.map a.eval).toArray:=by apply Array.ext';simp
  have hrun:(execOp a.eval o).run P w=.ok (.round (ρ k).blk fn tm asg body) w:=by
   unfold execOp
   simp only [hop,resolve,hcal,ha,hv,Deferred.ofValue,Sem.run_bind,Sem.run_pure,Result.andThen_ok,invoke,Array.empty_append,Array.append_empty]
   exact hy1
  rw [hrun,Oper.uponIn_round]
  refine ⟨fun h=>(by cases h),hy2.mono ?_⟩
  rintro e w' ⟨val,rfl,hs⟩
  exact ⟨val,rfl,hs⟩
 ·exact h.elim
theorem iR {cx:Cx} (hcx:cx.ok P) (hy:∀ k,YOk P ρ0 X w0 cx.fx k (cx.y k)) {ops:Array Oper} {Q:Exit→Act→World→Prop} {K:St→Prop} (hQ:∀ s a w,K s→Good ρ0 X w0 cx.fx N s a w→Q .normal a w) :
  ∀ (os:List Oper) (ls0 ls:List bH) (s:St) (a:Act) (w:World),dR P ops N os ls0=some ls→Good ρ0 X w0 cx.fx N s a w→gJ cx ls s K→wpListIn (FR none) 0 P ops Q os a w
 | os,ls0,[],s,a,w,hm,hg,h=>by
  have:=rJ hm
  subst this
  exact hQ s a w h hg
 | [],ls0,l::ls,s,a,w,hm,hg,h=>by
  cases ls0<;>simp [dR] at hm
 | o::os,ls0,l::ls,s,a,w,hm,hg,h=>by
  obtain ⟨l0,r0,op,g,rfl,h1,h2,hd,rfl,h4⟩:=oH hm
  obtain ⟨ρ,hpre,⟨hr,he⟩,hN,hdf⟩:=hg
  simp only [gJ] at h
  unfold wpListIn
  have key:∀ (A:St→(V→St→Prop)→Prop) (K':St→Prop),(∀ s' a' w',K' s'→Good ρ0 X w0 cx.fx N s' a' w'→wpListIn (FR none) 0 P ops Q os a' w') →
    (∀ e',bX ρ X w e' a.tmps→A { s with e:=e' } (fun x s'=>K' (s'.put o.dst x)) →
     o.wpIn (FR none) 0 P a w (fun a' w'=>∃ val,a'=a.put o.dst val∧mL cx.fx [] ρ X w a.tmps (fun x s'=>K' (s'.put o.dst x)) val w') Q)→gP g o.dst A s K' →
    if Region.wanted o (yielded ops a.tmps) then o.wpIn (FR none) 0 P a w (wpListIn (FR none) 0 P ops Q os) Q
     else (∀ f,o.about P w a.eval=some f→(FR none).fn f)∧wpListIn (FR none) 0 P ops Q os (a.put o.dst undef) w:=by
   intro A K' hK' hA h
   rcases pQ hN h2 he h with ⟨hw,e',_,he',h'⟩|⟨hw,e',_,he',h'⟩
   ·rw [if_pos hw]
    refine Oper.wpIn_mono ?_ (hA e' he' h')
    rintro a' w' ⟨val,rfl,hs⟩
    obtain ⟨x,s',hK,hgood⟩:=Good.sound (s:=s) hpre ⟨hN,hdf⟩ hd hs
    exact hK' _ _ _ hK hgood
   ·rw [if_neg (by rw [hw];exact Bool.false_ne_true)]
    have hh:(St.put { s with e:=e' } o.dst (.v (.tuple #[]))).h=s.h:=by cases o.dst<;>rfl
    refine ⟨fun _ _=>trivial,hK' _ _ _ h' ⟨ρ,⟨hpre.1,by rw [hh];exact hpre.2⟩,⟨by rw [hh];exact hr,?_⟩,by rw [size_put];exact hN,by rw [oT];exact hdf⟩⟩
    exact d2 (e:=e') (x:=.v (.tuple #[])) (val:=undef) he' rfl (fun n hn=>by rw [hN];exact hd n hn) _ rfl
  have hrest:∀ s' a' w',gJ cx ls s' K→Good ρ0 X w0 cx.fx N s' a' w'→wpListIn (FR none) 0 P ops Q os a' w':=fun s' a' w' hK hg'=>iR hcx hy hQ os r0 ls s' a' w' h4 hg' hK
  by_cases hyl:∃ f xs,op=.yld f xs
  ·obtain ⟨f,xs,rfl⟩:=hyl
   rcases rH h1 with ⟨f',c,hl,hop,hcal⟩|h1
   ·simp only [LOp.yld.injEq] at hl
    obtain ⟨rfl,rfl⟩:=hl
    refine key (Ar cx f c.args.toList) _ hrest (fun e' he' h'=>?_) h
    exact Ll hop hcal (s:={ s with e:=e' }) hpre.1 hpre.2 hr he' hy h'
   ·exact absurd rfl (h1.2 f xs)
  ·have h1':rl P o.op l0.op=some op:=by
    rcases rH h1 with ⟨f',c,hl,_,_⟩|h1
    ·exact absurd ⟨f',_,hl⟩ hyl
    ·exact h1.1
   refine key (aOp cx op) _ hrest (fun e' he' h'=>?_) ?_
   ·refine Fv (.inl rfl) (Oper.wp_mono ?_ (sK hcx h1' (s:={ s with e:=e' }) hr he' hpre.2 h'))
    rintro a' w' ⟨val,rfl,x,s',ρ',g1,⟨g2,g3,_⟩,g4⟩
    exact ⟨val,rfl,x,s',ρ',g1,⟨g2,g3,fun _ h=>by simp at h⟩,g4⟩
   ·have:xQ cx ⟨o.dst,op,g⟩ s (fun s'=>gJ cx ls s' K)=nF cx ⟨o.dst,op,g⟩ s (fun s'=>gJ cx ls s' K):=by
     unfold xQ
     split
     ·rename_i f xs hop
      exact absurd ⟨f,xs,hop⟩ hyl
     ·rfl
    rw [this] at h
    cases g<;>exact h
end
end Go.Fx
namespace Go.Fx
open Go.RowKit
section
variable {P:Program}
def ROk (r:Option Nat) (cx:Cx) (ρ0:Nat→Loc):Prop :=
 match r,cx.rk with
 | none,none=>True
 | some l,some k=>k∈cx.fx∧(ρ0 k).blk=l
 | _,_=>False
theorem i4 {h:List Blk} {k:Nat} {K:RS→Env→Prop} (hk:xZ h k K):∃ t e,h[k]?=some (.rcd t e)∧K t e:=by
 unfold xZ at hk
 split at hk
 ·exact ⟨_,_,by assumption,hk⟩
 ·exact hk.elim
theorem yI:∀ (ps:List Nat) (xs:List V) (vs:List Value) (e:Env) (t:Array Value) {ρ:Nat→Loc} {X:Nat→Prop} {w:World},(∀ p∈ps,p<t.size)→xs.length=ps.length→bA ρ X w xs vs→bX ρ X w e t →
  bX ρ X w (uT ps xs e) ((ps.zip vs).foldl (fun t (p,v)=>t.setIfInBounds p v) t)
 | [],[],[],_,_,_,_,_,_,_,_,he=>he
 | p::ps,x::xs,v::vs,e,t,ρ,X,w,hp,hl,hx,he=>by
  simp only [uT,List.zip_cons_cons,List.foldl_cons]
  refine yI ps xs vs _ _ (fun q hq=>by simpa using hp q (yae _ hq)) (by simpa using hl) hx.2 ?_
  intro i
  rw [get_put]
  split
  ·rename_i hi
   subst hi
   have:=hp i yah
   rw [yar,Array.getElem?_setIfInBounds_self_of_lt this]
   exact hx.1
  ·rename_i hi
   rw [yar,Array.getElem?_setIfInBounds_ne (Ne.symm hi),←yar]
   exact he i
 | [],_::_,_,_,_,_,_,_,_,hl,_,_=>by simp at hl
 | _::_,[],_,_,_,_,_,_,_,hl,_,_=>by simp at hl
 | _::_,_::_,[],_,_,_,_,_,_,_,hx,_=>hx.elim
 | [],[],_::_,_,_,_,_,_,_,_,hx,_=>hx.elim
theorem w7:∀ (l:List (Nat × Value)) (t:Array Value),(l.foldl (fun t (p,v)=>t.setIfInBounds p v) t).size=t.size
 | [],_=>rfl
 | (p,v)::l,t=>by rw [List.foldl_cons,w7 l];simp
theorem mG {Q:Exit→Act→World→Prop} {K:Act→World→Prop} (h:¬LetsOut Q):¬LetsOut (Exit.then K Q):=fun ⟨a,w,hq⟩=>h ⟨a,w,hq⟩
end
end Go.Fx
namespace Go.Fx
open Go.RowKit
section
variable [DBase] {P:Program} {ρ0:Nat→Loc} {X:Nat→Prop} {w0:World} {N:Nat} {r:Option Nat}
theorem acA {ops:Array Oper} (h:ops.toList.all dZ=true):∀ (i:Nat) (o:Oper),ops[i]?=some o→dZ o=true :=
 fun i o ho=>yak.1 h o (by rw [Array.mem_toList_iff];exact Array.mem_of_getElem? ho)
theorem Qy (hP:P.follows .mixedOrders=true) {cx:Cx} (hcx:cx.ok P) {ops:Array Oper} {id:Nat} {Q:Exit→Act→World→Prop} (hQo:¬LetsOut Q) {K:St→Prop} (hQ:∀ s a w,K s→Good ρ0 X w0 cx.fx N s a w→Q .normal a w)
  (hd:r=none∨ops.toList.all dZ=true) {p0 p:LPlan} {s:St} {a:Act} {w:World} (hm:rlT P N ops p0=some p) (hg:Good ρ0 X w0 cx.fx N s a w) (h:awP cx p [] K s):(Code.region id ops true).wpIn (FR r) 0 P Q a w:=by
 unfold rlT at hm
 split at hm
 ·rename_i hs
  refine wpIn_mono (Q:=oC Q) ?_ (fun e a w he=>?_)
  ·refine wpIn_region_any hP (Us (Q:=oC Q) (hd.imp (fun h=>h) acA) (fun ⟨a,w,hq⟩=>hQo ⟨a,w,hq⟩) _ _ _ _ ?_)
   obtain ⟨ρ,hG⟩:=Good.drew hg
   exact uO _ _ _ _ _ ((Ku (Q:=oC Q) hcx rfl hs (fun _ _ _ h=>h) (fun s a w hK hg=>hQ s a w hK hg) p0 p _ _ _ hm [] (fun _=>False) ρ s a _ (fun b hb=>hb.elim) hG h).1 rfl)
  ·cases e<;>first|exact he|exact he.elim
 ·cases hm
theorem sS {ops:Array Oper}:∀ (m:Nat) (os:List Oper) (ls0 ls:List bH),dR P ops N os ls0=some ls →
  dR P ops N (os.take m) (ls0.take m)=some (ls.take m)∧dR P ops N (os.drop m) (ls0.drop m)=some (ls.drop m)
 | 0,os,ls0,ls,h=>by simp [dR,h]
 | m+1,[],ls0,ls,h=>by
  cases ls0 with
  | nil=>simp [dR] at h;subst h;simp [dR]
  | cons _ _=>simp [dR] at h
 | m+1,o::os,ls0,ls,h=>by
  cases ls with
  | nil=>have:=rJ h;cases this
  | cons l ls =>
   obtain ⟨l0,r0,op,g,rfl,h1,h2,hd,rfl,h4⟩:=oH h
   obtain ⟨h5,h6⟩:=sS m os r0 ls h4
   refine ⟨?_,by simpa using h6⟩
   have hd':dOk N o.dst=true:=by
    cases hdst:o.dst with
    | none=>rfl
    | some d=>simpa [dOk,hdst] using hd d hdst
   simp [dR,h1,h2,hd',h5]
theorem sT {ops:Array Oper}:∀ (os:List Oper) (ls0 ls:List bH),dR P ops N os ls0=some ls→(∀ l∈ls,aU l.op=true)→eX P ops N os ls0=some ls
 | [],ls0,ls,h,_=>by
  cases ls0 with
  | nil=>simpa [dR,eX] using h
  | cons _ _=>simp [dR] at h
 | o::os,ls0,ls,h,hq=>by
  cases ls with
  | nil=>have:=rJ h;cases this
  | cons l ls =>
   obtain ⟨l0,r0,op,g,rfl,h1,h2,hd,rfl,h4⟩:=oH h
   have h5:=sT os r0 ls h4 (fun l hl=>hq l (yae _ hl))
   have hd':dOk N o.dst=true:=by
    cases hdst:o.dst with
    | none=>rfl
    | some d=>simpa [dOk,hdst] using hd d hdst
   have h1':rl P o.op l0.op=some op:=by
    rcases rH h1 with ⟨f,c,hl,_,_⟩|h1
    ·have:=hq _ yah
     rw [hl] at this
     simp [aU] at this
    ·exact h1.1
   simp [eX,h1',h2,hd',h5]
theorem tE {cx:Cx}:∀ (l1 l2:List bH) (s:St) (K:St→Prop),(∀ l∈l1,aU l.op=true)→gJ cx (l1++l2) s K=eR cx l1 s fun s'=>gJ cx l2 s' K
 | [],_,_,_,_=>rfl
 | o::r,l2,s,K,hq=>by
  simp only [List.cons_append,eR,gJ]
  have:xQ cx o=nF cx o:=by
   funext s K
   unfold xQ
   split
   ·rename_i f xs hop
    have:=hq o yah
    rw [hop] at this
    simp [aU] at this
   ·rfl
  rw [this]
  congr 1
  funext s'
  exact tE r l2 s' K (fun l hl=>hq l (yae _ hl))
theorem Qn (hP:P.follows .mixedOrders=true) {cx:Cx} (hcx:cx.ok P) (hy:∀ k,YOk P ρ0 X w0 cx.fx k (cx.y k)) {ops:Array Oper} {id:Nat} {Q:Exit→Act→World→Prop} (hQo:¬LetsOut Q) {K:St→Prop}
  (hQ:∀ s a w,K s→Good ρ0 X w0 cx.fx N s a w→Q .normal a w) {m:Nat} {ls0 ls:List bH} {s:St} {a:Act} {w:World} (hm:dR P ops N ops.toList ls0=some ls) (hq:(ls.take m).all (fun l=>aU l.op)=true)
  (hB:Region.lexTailB .any ops m=true) (hg:Good ρ0 X w0 cx.fx N s a w) (h:gJ cx ls s K):(Code.region id ops true).wpIn (FR none) 0 P Q a w:=by
 obtain ⟨ρ,hpre,⟨hr,he⟩,hN,hdf⟩:=Good.drew hg
 obtain ⟨h1,h2⟩:=sS m _ _ _ hm
 have hqs:∀ l∈ls.take m,aU l.op=true:=fun l hl=>yak.1 hq l hl
 have hops:ops=ops.toList.toArray:=by simp
 refine wpIn_region_any hP ?_
 rw [←List.take_append_drop m ls,tE _ _ _ _ hqs] at h
 have hst:wpStill P ops { w with drawn:=w.drawn+1 } (fun a'=>wpListIn (FR none) 0 P ops Q (ops.toList.drop m) a' { w with drawn:=w.drawn+1 }) (ops.toList.take m) a:=by
  refine oD (fx:=cx.fx) (cx:=cx) (ρ:=ρ) (K:=fun s'=>gJ cx (ls.drop m) s' K) ?_ _ _ _ s a (sT _ _ _ h1 hqs) hqs hr hpre.2 he hN rfl h
  intro s' a' hK he' hN' hdf' hr' hk'
  exact iR hcx hy hQ _ _ _ s' a' _ h2 ⟨ρ,⟨hpre.1,hk'⟩,⟨hr',he'⟩,hN',by rw [hdf'];exact hdf⟩ hK
 simp only [Region.lexTailB,yac,decide_eq_true_eq] at hB
 obtain ⟨⟨⟨⟨hsel,hn⟩,hs⟩,hc⟩,hlex⟩:=hB
 have htl:(ops.toList.take m).length=m:=by simp;omega
 have hdl:(ops.toList.drop m).length=ops.size-m:=by simp
 have inv0:HeadInv .any ops m (yaf ops.size false) :=
  ⟨by simp,fun j oj _ hl=>(by rw [getD_replicate_false] at hl;cases hl),fun t _ ht=>getD_in (by simpa using ht) (getD_replicate_false _ _)⟩
 have H:=wpAnyL_lex (md:=.any) (g:=ops.size-m) hsel hs hc hn (ops.toList.take m) 0 _ a (fun j hj=>by
  have hj':j<m:=by rw [htl] at hj;exact hj
  simp [hj']) (by simpa using htl) inv0 (by rw [htl];exact hlex) hst
 have:=n9 (P:=P) (Q:=Q) hQo (g:=ops.size-m) (fun listed a' hL=>by
  have:=mC (P:=P) (r:=none) (md:=.any) (Q:=Q) (ops.toList.drop m) m listed a' { w with drawn:=w.drawn+1 } (fun j=>by simp [List.getElem?_drop]) (by rw [hdl];exact hL.1) hL.2
  rwa [hdl] at this) _ _ _ H
 rw [htl,show m+(ops.size-m)=ops.size by omega] at this
 exact this
end
end Go.Fx
namespace Go.Fx
open Go.RowKit
section
variable {P:Program} {X:Nat→Prop} {N:Nat}
def Kz (P:Program) (X:Nat→Prop) (N:Nat) (c:Code) (rd:Prop) (A:Cx→(St→Prop)→(Nat→St→Prop)→(St→Prop)→St→Prop):Prop :=
 ∀ [DBase] (r:Option Nat) (cx:Cx) (ρ0:Nat→Loc) (w0:World),cx.ok P→(r=none∨rd)→ROk r cx ρ0→(∀ k,YOk P ρ0 X w0 cx.fx k (cx.y k)) →
  ∀ (Q:Exit→Act→World→Prop) (Nn:St→Prop) (Xx:Nat→St→Prop) (Rr:St→Prop),¬LetsOut Q →
   (∀ s a w,Nn s→Good ρ0 X w0 cx.fx N s a w→Q .normal a w)→(∀ j s a w,Xx j s→Good ρ0 X w0 cx.fx N s a w→Q (.exit j) a w)→(∀ s a w,Rr s→Good ρ0 X w0 cx.fx N s a w→Q .ret a w) →
   ∀ s a w,A cx Nn Xx Rr s→Good ρ0 X w0 cx.fx N s a w→c.wpIn (FR r) 0 P Q a w
def Tt (P:Program) (X:Nat→Prop) (N:Nat) (c:Code):Prop :=
 ∀ (l0 l:LCode),rlC P N c l0=some l→Kz P X N c (cO c=true∧fF l=true) (fun cx=>aw cx l)
theorem xR {ρ0:Nat→Loc} {w0:World} {fx:List Nat} {k:Nat}:YOk P ρ0 X w0 fx k (fun _ _ _=>False):=fun _ _ _ _ _ _ _ _ _ _ _ _ h=>h.elim
theorem Good.rcd [DBase] {ρ0:Nat→Loc} {w0:World} {fx:List Nat} {s:St} {a:Act} {w:World} {k:Nat} {t t':RS} {e:Env} (hg:Good ρ0 X w0 fx N s a w) (hk:k∈fx) (hb:s.h[k]?=some (.rcd t e)) (hreal:(ρ0 k).real=true) {o:Obj}
  (ho:vF (w.putObj (ρ0 k).blk o) (ρ0 k) t'):Good ρ0 X w0 fx N { s with h:=s.h.set k (.rcd t' e) } a (w.putObj (ρ0 k).blk o):=by
 obtain ⟨ρ,⟨⟨hf,h1⟩,hkp⟩,⟨hr,he⟩,h5,h5m⟩:=hg
 have hρ:=h1 k hk
 rw [←hρ] at ho hreal ⊢
 have hf1:=i5 (w:=w) hreal o
 refine ⟨ρ,⟨⟨hf.trans hf1,h1⟩,aT hkp (bC (by simp))⟩,⟨vE hr hb hreal ho,aR hf1 (fun _ _=>rfl) he⟩,h5,h5m.fr hf1⟩
theorem Kb {asg body:Code} {rda rdb:Prop} {Aa Ab:Cx→(St→Prop)→(Nat→St→Prop)→(St→Prop)→St→Prop} (ha:Kz P X N asg rda Aa) (hb:Kz P X N body rdb Ab) (hra:rda) (hrb:rdb)
  {cx:Cx} (hcx:cx.ok P) {ρ1:Nat→Loc} {w1:World} {n:Nat} {fx:List Nat} (hcf:cx.fx=fx) {lp:Loop} {l:Nat} (hn:ρ1 n=⟨true,l,0,0,0,lp⟩) {ps:Array Tmp} (hlp:lp.params=ps∧lp.assign=asg∧lp.body=body)
  (hps:∀ p∈ps.toList,p<N) (hsz:lp.tmps.size=N) :
  YOk P ρ1 X w1 (n::fx) n (fun xs sI K=>xZ sI.h n fun t e=>t=.ready∧xs.length=ps.toList.length ∧
     Aa { cx with fx:=sI.h.length::n::cx.fx,y:=fun _ _ _ _=>False,rk:=some n }
      (Eu n fun s1=>Ab { cx with fx:=sI.h.length::n::cx.fx,y:=fun _ _ _ _=>False,rk:=some n }
       (mK n sI.h.length sI.b K true .ready) (fun j=>mK n sI.h.length sI.b K false (.out (some j))) (mK n sI.h.length sI.b K false (.out none)) s1)
      (fun _ _=>False) (fun _=>False) ⟨uT ps.toList xs e,sI.h++[.rcd .ghost sI.e],sI.b⟩):=by
 letI:DBase:=⟨[]⟩
 subst hcf
 intro ρ w s tmps xs vals K hfr hkp hr he hx h
 obtain ⟨t,e,hbn,rfl,hlen,h⟩:=i4 h
 have hρn:ρ n=⟨true,l,0,0,0,lp⟩:=(hfr.2 n yah).trans hn
 have hB:=hr.blk n _ hbn
 simp only [aQ,hρn] at hB
 have hl:w.heap[l]?=some (.loop { lp with state:=.ready,pending:=none }):=hB.1.2
 have hnl:n<s.h.length:=(yag.1 hbn).1
 have hvl:=cW hx
 rw [hρn]
 have hy:=run_yield (P:=P) (args:=vals.toArray) hl (by simp [hlp.1];simpa [←hvl] using hlen)
 refine ⟨_,_,_,_,hy,?_⟩
 simp only [hlp.2.1,hlp.2.2]
 -- what is kept of the iterator's frame
 obtain ⟨ρ2,f2,f2',o2,ag2,hr2,ht2⟩:=Ki hr he
 have hρ2n:ρ2 n=⟨true,l,0,0,0,lp⟩:=by rw [o2 n (by omega)];exact hρn
 have hzip:(Array.zip lp.params vals.toArray).foldl (fun tmps (t,a)=>tmps.setIfInBounds t a) lp.tmps=(ps.toList.zip vals).foldl (fun t (p,v)=>t.setIfInBounds p v) lp.tmps:=by
  rw [hlp.1,←Array.foldl_toList];simp [Array.toList_zip]
 show RoundIn Fence.wide 0 P l lp.fn ((Array.zip lp.params vals.toArray).foldl (fun tmps (t,a)=>tmps.setIfInBounds t a) lp.tmps) asg body w _
 rw [hzip]
 refine roundIn_of_wpIn trivial ?_
 have hgood:Good ρ2 X w (s.h.length::n::cx.fx) N ⟨uT ps.toList xs e,s.h++[.rcd .ghost s.e],s.b⟩ { tmps:=(ps.toList.zip vals).foldl (fun t (p,v)=>t.setIfInBounds p v) lp.tmps,defers:=[] } w:=by
  refine ⟨ρ2,⟨⟨Fr.refl _ _,fun _ _=>rfl⟩,dB fun j hj=>?_⟩,⟨hr2,?_⟩,?_,Marks.nil⟩
  ·rcases yal.1 hj with rfl|hj
   ·simp [aC]
   ·have:=aP hkp j hj
    unfold aC at this ⊢
    cases hb:s.h[j]? with
    | none=>rw [hb] at this;exact this.elim
    | some B=>rw [yam (yag.1 hb).1,hb];rw [hb] at this;exact this
  ·refine yI _ _ _ _ _ (fun p hp=>by rw [hsz];exact hps p hp) hlen (dK f2 ag2 _ _ hx) (aR f2 ag2 hB.2)
  ·rw [w7];exact hsz
 have hcx':Cx.ok { cx with fx:=s.h.length::n::cx.fx,y:=fun _ _ _ _=>False,rk:=some n } P:=hcx
 have hro:ROk (some l) { cx with fx:=s.h.length::n::cx.fx,y:=fun _ _ _ _=>False,rk:=some n } ρ2:=⟨by simp,by rw [hρ2n]⟩
 have hgo:∀ (b:Bool) (t':RS) (j:Option Code) (s2:St) (a2:Act) (w2:World),mK n s.h.length s.b K b t' s2→Good ρ2 X w (s.h.length::n::cx.fx) N s2 a2 w2 →
   (∀ w',w'.heap[l]?=some (.loop { lp with state:=if j.isNone then .ready else .done,pending:=j })→vF w' ⟨true,l,0,0,0,lp⟩ t')→t'≠.ghost→b=j.isNone →
   ∃ v w',(Instr.endRound l j).run P w2=.ok v w'∧∃ val,Ending.returned v=.returned val∧mL (n::cx.fx) [] ρ X w tmps K val w':=by
  intro b t' j s2 a2 w2 hend hg2 hrec hgh hbj
  obtain ⟨t2,e2,hb2,rfl,hend⟩:=i4 hend
  obtain ⟨t3,eI,hb3,rfl,hK⟩:=i4 hend
  have hg2':=hg2
  obtain ⟨ρ3,⟨⟨g1,g2⟩,g3⟩,⟨g4,g5⟩,g6⟩:=hg2
  have h3n:ρ3 n=⟨true,l,0,0,0,lp⟩:=(g2 n (by simp)).trans hρ2n
  have hB2:=g4.blk n _ hb2
  simp only [aQ,h3n] at hB2
  have hl2:w2.heap[l]?=some (.loop { lp with state:=.busy,pending:=none }):=hB2.1.2
  have hrun:=run_endRound (P:=P) j hl2
  refine ⟨_,_,hrun,_,rfl,?_⟩
  have hput:∀ o:Obj,(w2.putObj (ρ3 n).blk o).heap[(ρ3 n).blk]?=some o:=fun o=>Dm (by rw [h3n]) g4 o
  have hwb:(ρ3 n).blk=l:=by rw [h3n]
  generalize ho:Obj.loop { ({ lp with state:=.busy,pending:=none }:Loop) with state:=if j.isNone then .ready else .done,pending:=j }=o
  have hf3:Fr ρ3 w2 ρ3 (w2.putObj l o):=by have:=i5 (w:=w2) (k:=n) (ρ:=ρ3) (by rw [h3n]) o;rwa [hwb] at this
  have hr3:Rep ρ3 X (w2.putObj l o) (s2.h.set n (.rcd t' e2)):=by
   have:=vE g4 hb2 (by rw [h3n]) (o:=o) (t':=t') (by
    rw [h3n];exact hrec _ (by have:=hput o;rw [hwb] at this;rw [this,←ho]))
   rwa [hwb] at this
  have hne:s.h.length≠n:=by omega
  have hb3':(s2.h.set n (.rcd t' e2))[s.h.length]?=some (.rcd .ghost eI):=by rw [yai (Ne.symm hne)];exact hb3
  have hBg:=hr3.blk _ _ hb3'
  simp only [aQ] at hBg
  have h3g:ρ3 s.h.length=ρ2 s.h.length:=g2 _ (by simp)
  have hdead:Rep ρ3 X (w2.putObj l o) ((s2.h.set n (.rcd t' e2)).set s.h.length .dead):=by
   refine ⟨hr3.inj,fun k hk=>hr3.out k (by simpa using hk),fun k B hB=>?_,hr3.disj,hr3.lt,hr3.xlt⟩
   by_cases hkn:k=s.h.length
   ·subst hkn
    rw [yap (yag.1 hb3').1] at hB
    simp only [yaa] at hB
    subst hB
    exact hBg.1
   ·rw [yai (Ne.symm hkn)] at hB
    exact hr3.blk k B hB
  subst hbj
  refine ⟨.b j.isNone,_,ρ3,hK,⟨dB fun k hk=>?_,fun k hk=>?_,fun k hk=>by simp at hk⟩,(f2.trans g1).trans hf3,hdead,?_,rfl⟩
  ·have hlk:=aP g3 k (yae _ hk)
   have hkl:=aP hkp k hk
   have hks:k≠s.h.length:=by
    intro e
    unfold aC at hkl
    rw [e,yaw (yad _)] at hkl
    exact hkl
   have:=bC (B:=Blk.rcd t' e2) (k:=n) (by simp) k hlk
   unfold aC at this ⊢
   rw [yai (Ne.symm hks)]
   exact this
  ·have hkl:=aP hkp k hk
   have hks:k≠s.h.length:=by
    intro e
    unfold aC at hkl
    rw [e,yaw (yad _)] at hkl
    exact hkl
   rw [g2 k (yae _ hk),o2 k hks]
  ·have:=hBg.2
   rw [h3g,ht2] at this
   exact this
 refine ha (some l) _ ρ2 w hcx' (.inr hra) hro (fun _=>xR) _ _ _ _ (fun ⟨a,w,hq⟩=>hq) ?_ (fun _ _ _ _ h _=>h.elim) (fun _ _ _ h _=>h.elim) _ _ _ h hgood
 intro s1 a1 wA hbeg hg1
 obtain ⟨t1,e1,hb1,rfl,hbody⟩:=i4 hbeg
 have hl1:wA.heap[l]?=some (.loop { lp with state:=.ready,pending:=none }):=by
  obtain ⟨ρ3,⟨⟨g1,g2⟩,g3⟩,⟨g4,g5⟩,g6⟩:=hg1
  have h3n:ρ3 n=⟨true,l,0,0,0,lp⟩:=(g2 n (by simp)).trans hρ2n
  have hB2:=g4.blk n _ hb1
  simp only [aQ,h3n] at hB2
  exact hB2.1.2
 refine ⟨_,run_beginRound hl1 rfl,?_⟩
 have hlt:l<wA.heap.size:=(yax.1 hl1).1
 have hgB:=hg1.rcd (t':=.busy) (k:=n) (by simp) hb1 (by rw [hρ2n]) (o:=.loop { lp with state:=.busy,pending:=none }) (by
  rw [hρ2n];exact ⟨⟨rfl,rfl,rfl⟩,World.putObj_heap_same hlt⟩)
 rw [hρ2n] at hgB
 refine hb (some l) _ ρ2 w hcx' (.inr hrb) hro (fun _=>xR) (roundPost P l _) _ _ _ (fun ⟨a,w,hq⟩=>hq) ?_ ?_ ?_ _ _ _ hbody hgB
 ·intro s2 a2 w2 hend hg2
  exact hgo true .ready none s2 a2 w2 hend hg2 (fun w' hw'=>⟨⟨rfl,rfl,rfl⟩,hw'⟩) (by simp) rfl
 ·intro j s2 a2 w2 hend hg2
  exact hgo false (.out (some j)) (some (.exit j)) s2 a2 w2 hend hg2 (fun w' hw'=>⟨⟨rfl,rfl,rfl⟩,hw'⟩) (by simp) rfl
 ·intro s2 a2 w2 hend hg2
  exact hgo false (.out none) (some .ret) s2 a2 w2 hend hg2 (fun w' hw'=>⟨⟨rfl,rfl,rfl⟩,hw'⟩) (by simp) rfl
end
end Go.Fx
namespace Go.Fx
open Go.RowKit
section
variable {P:Program} {X:Nat→Prop} {N:Nat}
theorem Ri {g:Operand} {ps:Array Tmp} {asg body:Code} {rda rdb:Prop} {Aa Ab:Cx→(St→Prop)→(Nat→St→Prop)→(St→Prop)→St→Prop} (ha:Kz P X N asg rda Aa) (hb:Kz P X N body rdb Ab) (hra:rda) (hrb:rdb)
  (hps':∀ p∈ps.toList,p<N):Kz P X N (.rangeFunc g ps asg body) True (fun cx Nn Xx Rr s =>
  match ev s.e g with
  | .clo gf caps=>Um cx.rk s.h∧cx.it gf (.itr s.h.length::caps) (s.h.length::cx.fx) s.h.length
    (fun xs sI K=>xZ sI.h s.h.length fun t e=>t=.ready∧xs.length=ps.toList.length ∧
     Aa { cx with fx:=sI.h.length::s.h.length::cx.fx,y:=fun _ _ _ _=>False,rk:=some s.h.length }
      (Eu s.h.length fun s1=>Ab { cx with fx:=sI.h.length::s.h.length::cx.fx,y:=fun _ _ _ _=>False,rk:=some s.h.length }
       (mK s.h.length sI.h.length sI.b K true .ready) (fun j=>mK s.h.length sI.h.length sI.b K false (.out (some j))) (mK s.h.length sI.h.length sI.b K false (.out none)) s1)
      (fun _ _=>False) (fun _=>False) ⟨uT ps.toList xs e,sI.h++[.rcd .ghost sI.e],sI.b⟩)
    (s.h++[.rcd .ready s.e]) (Jc s.h.length Nn Xx Rr)
  | _=>False):=by
 intro _ r cx ρ0 w0 hcx hrd hro hy Q Nn Xx Rr hQo hN hX hR s a w h hg
 split at h
 ·rename_i gf caps hev
  obtain ⟨hrk,hit⟩:=h
  obtain ⟨hcall,hiter⟩:=hcx.2 _ _ _ _ _ _ _ hit
  obtain ⟨ρ,⟨⟨hf,hfx⟩,hkp⟩,⟨hr,he⟩,hsz,hM⟩:=hg
  have hgv:=aH he g
  rw [hev] at hgv
  obtain ⟨arr,hgv,hcaps⟩:=hgv
  have hrd0:∀ l0,r=some l0→∃ r0,w.heap[l0]?=some (.loop r0):=by
   rintro l0 rfl
   unfold ROk at hro
   split at hro
   ·rename_i h1 _;cases h1
   ·rename_i l1 k h1 h2
    simp only [yaa] at h1
    subst h1
    rw [h2] at hrk
    obtain ⟨t,e,hb1,rfl⟩:=i4 hrk
    have hB:=hr.blk k _ hb1
    simp only [aQ] at hB
    rw [hfx k hro.1] at hB
    exact ⟨_,by rw [←hro.2];exact hB.1.2⟩
   ·exact hro.elim
  refine wpIn_rangeFunc ?_
  intro fn _
  obtain ⟨l,mark,w1,lp,ρ1,hen,hlp,f1,o1,ag1,hr1,hn1,hM1⟩:=Pm hr hf.size hM r hrd0 fn a.tmps ps asg body he
  refine ⟨l,mark,w1,{ target:=.fn (.func gf) arr,args:=#[.func (.yield l) #[] #[]] },w1,gf,#[.func (.yield l) #[] #[]]++arr,w1,hen,?_,fun _ _=>trivial,?_,fun h=>(by cases h),?_⟩
  ·simp only [resolve,hgv]
   simp [go_sem]
  ·simp [invoke,go_sem,l6 hcall]
  ·refine Ji ?_
   have hkp1:aJ (s.h.length::cx.fx) (s.h++[.rcd .ready s.e]):=dB fun j hj=>by
    rcases yal.1 hj with rfl|hj
    ·simp [aC]
    ·have:=aP hkp j hj
     unfold aC at this ⊢
     cases hb:s.h[j]? with
     | none=>rw [hb] at this;exact this.elim
     | some B=>rw [yam (yag.1 hb).1,hb];rw [hb] at this;exact this
   have hargs:bA ρ1 X w1 (.itr s.h.length::caps) ((Value.func (.yield l) #[] #[])::arr.toList):=⟨⟨by rw [hn1],by rw [hn1]⟩,dK f1 ag1 _ _ hcaps⟩
   have hyok:=Kb (w1:=w1) ha hb hra hrb hcx rfl hn1 ⟨hlp.2.2.1,hlp.2.2.2.1,hlp.2.2.2.2⟩ hps' (by rw [hlp.2.1];exact hsz)
   have hcalls:=hiter ρ1 X w1 _ hr1 hargs hkp1 hyok
   have hvals:((Value.func (.yield l) #[] #[])::arr.toList).toArray=#[.func (.yield l) #[] #[]]++arr:=by apply Array.ext';simp
   rw [hvals] at hcalls
   refine hcalls.mono ?_
   rintro e w2 ⟨val,h',ρ2,rfl,hK,⟨f2,hr2⟩,hfx2,hkp2⟩
   obtain ⟨t,e',hbn,⟨hwf1,hwf2⟩,hK⟩:=i4 hK
   have h2n:ρ2 s.h.length=⟨true,l,0,0,0,lp⟩:=(hfx2 _ yah).trans hn1
   have hB:=hr2.blk _ _ hbn
   simp only [aQ,h2n] at hB
   -- behind the iterator: the record is spent
   have fin:∀ (j:Option Code) (rr:Loop),w2.heap[l]?=some (.loop rr)→rr.state≠.busy→rr.pending=j →
     (Instr.endLoop l).run P w2=.ok j (w2.putObj l (.loop { rr with state:=.exhausted })) ∧
     Good ρ0 X w0 cx.fx N ⟨e',h'.set s.h.length .dead,0⟩ { a with defers:=mark++a.defers } (w2.putObj l (.loop { rr with state:=.exhausted })):=by
    intro j rr hrr hnb hj
    refine ⟨by rw [←hj];exact run_endLoop hrr hnb,?_⟩
    have hreal:(ρ2 s.h.length).real=true:=by rw [h2n]
    have hblk:(ρ2 s.h.length).blk=l:=by rw [h2n]
    have hf3:=i5 (w:=w2) (k:=s.h.length) (ρ:=ρ2) hreal (.loop { rr with state:=.exhausted })
    have hr3:=vE (t':=.gone) hr2 hbn hreal (o:=.loop { rr with state:=.exhausted }) (by
     rw [h2n];exact ⟨⟨rfl,rfl,rfl⟩,_,World.putObj_heap_same (yax.1 hrr).1⟩)
    rw [hblk] at hf3 hr3
    have hfx':∀ k∈cx.fx,k≠s.h.length:=by
     intro k hk e
     have:=aP hkp k hk
     unfold aC at this
     rw [e,yaw (yad _)] at this
     exact this
    have hkp3:aJ cx.fx (h'.set s.h.length (.rcd .gone e')):=aT (dB fun k hk=>aP hkp2 k (yae _ hk)) (bC (by simp))
    have hg3:Good ρ0 X w0 cx.fx N ⟨e',h'.set s.h.length (.rcd .gone e'),0⟩ { a with defers:=mark++a.defers } (w2.putObj l (.loop { rr with state:=.exhausted })):=by
     refine ⟨ρ2,⟨⟨hf.trans (f1.trans (f2.trans hf3)),fun k hk=>?_⟩,hkp3⟩,⟨hr3,?_⟩,hsz,(hM1.fr f2).fr hf3⟩
     ·rw [hfx2 k (yae _ hk),o1 k (hfx' k hk),hfx k hk]
     ·have:=aR hf3 (fun _ _=>rfl) hB.2
      rw [hlp.2.1] at this
      exact this
    refine hg3.leH (Ec _ _ _) ?_ hwf1 hwf2
    exact dB fun k hk=>by
     have:=aP hkp3 k hk
     unfold aC at this ⊢
     rw [yai (Ne.symm (hfx' k hk))] at this ⊢
     exact this
   cases t with
   | ready =>
    obtain ⟨h1,h2⟩:=fin none _ hB.1.2 (by simp) rfl
    exact ⟨none,_,h1,hN _ _ _ hK h2⟩
   | out j =>
    cases j with
    | none =>
     obtain ⟨h1,h2⟩:=fin (some .ret) _ hB.1.2 (by simp) rfl
     exact ⟨some .ret,_,h1,wpIn_ret (hR _ _ _ hK h2)⟩
    | some j =>
     obtain ⟨h1,h2⟩:=fin (some (.exit j)) _ hB.1.2 (by simp) rfl
     exact ⟨some (.exit j),_,h1,wpIn_exit (hX _ _ _ _ hK h2)⟩
   | ghost=>exact hK.elim
   | busy=>exact hK.elim
   | gone=>exact hK.elim
 ·exact h.elim
theorem Vu {g:Operand} {ps:Array Tmp} {asg body:Code} (ha:Tt P X N asg) (hb:Tt P X N body):Tt P X N (.rangeFunc g ps asg body):=by
 intro l0 l hm _ r cx ρ0 w0 hcx hrd hro hy Q Nn Xx Rr hQo hN hX hR s a w h hg
 cases l0 with
 | rfn g' ps' la0 lb0 =>
  simp only [rlC] at hm
  split at hm
  ·rename_i la lb hma hmb
   split at hm
   ·rename_i hc
    simp only [yac] at hc
    simp only [yaa] at hm
    subst hm
    obtain ⟨⟨hps,hcd⟩,hin⟩:=hc
    have hps':∀ p∈ps.toList,p<N:=fun p hp=>by simpa using yak.1 hps p hp
    exact Ri (ha la0 la hma) (hb lb0 lb hmb) ⟨(by simpa using hcd:_∧_).1,(by simpa using hin:_∧_).1⟩ ⟨(by simpa using hcd:_∧_).2,(by simpa using hin:_∧_).2⟩ hps' r cx ρ0 w0 hcx (hrd.imp id fun _=>trivial) hro hy Q Nn Xx Rr hQo hN hX hR s a w h hg
   ·cases hm
  ·cases hm
 | _=>simp [rlC] at hm
end
end Go.Fx
namespace Go.Fx
open Go.RowKit
section
variable {P:Program} {md:Region.Mode} {ops:Array Oper} {Q:Exit→Act→World→Prop} {Γ:Type} {G:Nat→Γ→World→Γ→World→Prop} {L:Array Bool→Act→World→Prop} {m:Nat}
def dV (P:Program) (md:Region.Mode) (ops:Array Oper) (Q:Exit→Act→World→Prop) (L:Array Bool→Act→World→Prop) (G:Nat→Γ→World→Γ→World→Prop):Nat→Array Bool→Γ→Act→World→Prop
 | 0,listed,_,a,w=>L listed a w
 | fuel+1,listed,g,a,w =>
  Region.ready md ops listed≠[] ∧
  ∀ i∈Region.ready md ops listed,wpOp P ops Q i (fun a' w'=>∃ g',G i g w g' w'∧dV P md ops Q L G fuel (listed.setIfInBounds i true) g' a' w') a w
theorem tC (hQ:¬LetsOut Q) {n:Nat} (hL:∀ listed a w,L listed a w→wpAnyIn (FR none) 0 P md ops Q n listed a w):∀ (fuel:Nat) (listed:Array Bool) (g:Γ) (a:Act) (w:World),
  dV P md ops Q L G fuel listed g a w→wpAnyIn (FR none) 0 P md ops Q (fuel+n) listed a w
 | 0,listed,_,a,w,h=>by rw [yan];exact hL _ _ _ h
 | f+1,listed,g,a,w,h=>by
  rw [show f+1+n=(f+n)+1 by omega]
  exact ⟨fun h0=>absurd h0 h.1,fun i hi=>wpOpIn_mono (fun a' w' ⟨g',_,h'⟩=>tC hQ hL f _ g' a' w' h') (Vz (.inl rfl) hQ (h.2 i hi))⟩
theorem At {g g2:Γ} {w:World} (h:∀ i g' w',G i g2 w g' w'→G i g w g' w'):∀ (fuel:Nat) (listed:Array Bool) (a:Act),dV P md ops Q L G fuel listed g2 a w→dV P md ops Q L G fuel listed g a w
 | 0,_,_,hh=>hh
 | _+1,_,_,hh=>⟨hh.1,fun i hi=>wpOp_mono (fun _ w' ⟨g',h1,h2⟩=>⟨g',h i g' w' h1,h2⟩) (hh.2 i hi)⟩
theorem iS (hL:∀ listed a w,L listed a w→Region.ready md ops listed=[m]) {i:Nat} {oi:Oper} {v:Value} (hi:ops[i]?=some oi) (hsel:∀ (j:Nat) (o:Oper) cs b,ops[j]?=some o→o.op≠.select cs b)
  (hQ:∀ c a w,Q (.panic c) (a.put oi.dst v) w→Q (.panic c) a w) {D:Nat→Prop} (hmD:D m) (hD:∀ j oj,D j→ops[j]?=some oj→∃ e∈oj.after,Region.binds md e=true∧(e.on=i∨D e.on))
  {Inv:Γ→World→Prop} (hGi:∀ g w,Inv g w→G i g w g w) :
  ∀ (fuel:Nat) (listed:Array Bool) (g:Γ) (a:Act) (w:World),
   (∀ j oj,ops[j]?=some oj→j≠i→listed.getD j true=false→(∀ e∈oj.after,Region.binds md e=true→e.on≠i)→oi.apart ops oj=true) →
   (∀ j,D j→listed.getD j false=false) →
   (∀ j oj,ops[j]?=some oj→j≠i→¬D j→listed.getD j true=false→∀ g w g' w',G j g w g' w'→Inv g w→Inv g' w') →
   i∈Region.ready md ops listed→YieldsIf P ops (fun w=>∃ g,Inv g w) oi v a→Inv g w →
   dV P md ops Q L G fuel (listed.setIfInBounds i true) g (a.put oi.dst v) w→dV P md ops Q L G (fuel+1) listed g a w:=by
 intro fuel
 induction fuel with
 | zero =>
  intro listed g a w hfree hun _ hr hy hS H
  refine ⟨fun h=>(by rw [h] at hr;cases hr),fun j hj=>?_⟩
  by_cases hji:j=i
  ·subst hji;exact hy.wpOp hi ⟨g,hS⟩ ⟨g,hGi g w hS,H⟩
  ·exfalso
   have hjm:=ready_mono hj hji
   rw [hL _ _ _ H] at hjm
   obtain rfl:j=m:=by simpa using hjm
   obtain ⟨hjun,oj,hoj,hall⟩:=mem_ready.1 hj
   have hiun:listed.getD i false=false:=by
    have h0:=(mem_ready.1 hr).1
    rcases yaq i listed.size with h'|h'
    ·simpa [h'] using h0
    ·simp [yaG h']
   obtain ⟨e,he,hb,h2⟩:=hD j oj hmD hoj
   have h3:=hall e he hb
   rcases h2 with h2|h2
   ·rw [h2,hiun] at h3;cases h3
   ·rw [hun _ h2] at h3;cases h3
 | succ fuel ih =>
  intro listed g a w hfree hun hinv hr hy hS H
  refine ⟨fun h=>(by rw [h] at hr;cases hr),fun j hj=>?_⟩
  by_cases hji:j=i
  ·subst hji;exact hy.wpOp hi ⟨g,hS⟩ ⟨g,hGi g w hS,H⟩
  ·have h1:=H.2 j (ready_mono hj hji)
   obtain ⟨hjun,oj,hoj,hall⟩:=mem_ready.1 hj
   have hiun:listed.getD i false=false:=by
    have h0:=(mem_ready.1 hr).1
    rcases yaq i listed.size with h'|h'
    ·simpa [h'] using h0
    ·simp [yaG h']
   have hnot:∀ e∈oj.after,Region.binds md e=true→e.on≠i:=fun e he hb heq=>by
    have h1:=hall e he hb
    rw [heq,hiun] at h1
    cases h1
   have hnD:¬D j:=fun hd=>by
    obtain ⟨e,he,hb,h2⟩:=hD j oj hd hoj
    have h3:=hall e he hb
    rcases h2 with h2|h2
    ·rw [h2,hiun] at h3;cases h3
    ·rw [hun _ h2] at h3;cases h3
   have h2:=wpOp_putIf hoj (hfree j oj hoj hji hjun hnot) (fun cs b=>hsel i oi cs b hi) (fun cs b=>hsel j oj cs b hoj) hQ hy h1
   have hset:∀ k,(listed.setIfInBounds j true).getD k true=false→listed.getD k true=false:=fun k hk=>by
    by_cases hjk:j=k
    ·subst hjk;exact hjun
    ·rw [getD_set_ne true hjk] at hk;exact hk
   have hfree':∀ k ok,ops[k]?=some ok→k≠i→(listed.setIfInBounds j true).getD k true=false →
     (∀ e∈ok.after,Region.binds md e=true→e.on≠i)→oi.apart ops ok=true:=fun k ok hk hki hu hno=>hfree k ok hk hki (hset k hu) hno
   have hun':∀ k,D k→(listed.setIfInBounds j true).getD k false=false:=fun k hk=>by
    have hne:j≠k:=fun e=>hnD (e▸hk)
    rw [getD_set_ne false hne]
    exact hun k hk
   refine wpOp_mono (fun a' w' h3=>?_) h2
   obtain ⟨hy',g',hG,h4⟩:=h3
   refine ⟨g',hG,ih (listed.setIfInBounds j true) g' a' w' hfree' hun' (fun k ok hok hki hkD hku=>hinv k ok hok hki hkD (hset k hku)) (ready_mono hr (Ne.symm hji)) hy' (hinv j oj hoj hji hnD hjun _ _ _ _ hG hS) ?_⟩
   rw [Array.setIfInBounds_comm _ _ hji]
   exact h4
end
section
variable [DBase] {P:Program} {ρ0:Nat→Loc} {X:Nat→Prop} {w0:World} {fx:List Nat} {N:Nat} {L:Array Bool→Act→World→Prop} {m:Nat}
theorem Fg {cx:Cx} {ops:Array Oper} (hLT:∀ listed a w,L listed a w→Region.ready .any ops listed=[m]) {rs:Nat→Bool} (hs:Region.noSelect ops=true) {Q:Exit→Act→World→Prop} (hQp:∀ c a w,¬Q (.panic c) a w) {i:Nat} {o:Oper} {l0 op:LOp} {g:Option (Nat × Bool)} (ho:ops[i]?=some o)
  (hm:rl P o.op l0=some op) (hg:gOk ops N o.guard=some g) (hd:dOk N o.dst=true) {listed:Array Bool} {D:List Nat} (hok:rD ops rs listed i D op=true) (hmD:m∈D)
  {bn:List Nat} {B:Nat→Prop} {ρ:Nat→Loc} {s:St} {a:Act} {w:World} (hB:BI ρ B bn w)
  (hG:GoodAt ρ0 X w0 fx N ρ s a w) {K:St→Prop} {fuel:Nat} (h:nF cx ⟨o.dst,op,g⟩ s K)
  (hZ:∀ B' s' a',K s'→BI ρ B' (rdB op s.e bn) w→GoodAt ρ0 X w0 fx N ρ s' a' w→dV P .any ops Q L (GR rs) fuel (listed.setIfInBounds i true) (ρ,B') a' w) :
  dV P .any ops Q L (GR rs) (fuel+1) listed (ρ,B) a w:=by
 obtain ⟨hpre,⟨hrep,he⟩,hN,hdf⟩:=hG
 have hd':∀ n,o.dst=some n→n<N:=fun n hn=>by simpa [dOk,hn] using hd
 simp only [rD,yac] at hok
 obtain ⟨⟨⟨hready,hfree⟩,hq⟩,hDl,hres⟩:=hok
 have hready':i∈Region.ready .any ops listed:=by simpa using hready
 have hfr:=Region.free_spec (md:=.any) ho hfree
 have hDc:∀ j oj,j∈D→ops[j]?=some oj→∃ e∈oj.after,Region.binds .any e=true∧(e.on=i∨e.on∈D):=by
  intro j oj hj hoj
  have:=yak.1 hDl j hj
  simp only [hoj,yac] at this
  obtain ⟨e,he,hb⟩:=Array.any_eq_true'.1 this.2
  simp only [yac,Bool.or_eq_true,beq_iff_eq,yay] at hb
  exact ⟨e,he,hb.1,hb.2⟩
 have hDu:∀ j,j∈D→listed.getD j false=false:=by
  intro j hj
  have:=yak.1 hDl j hj
  simp only [yac,yaz] at this
  exact this.1
 have hsel:=Region.noSelect_spec hs
 have free:∀ (v:Value) (B':Nat→Prop),(YieldsIf P ops (fun _=>True) o v a)→dV P .any ops Q L (GR rs) fuel (listed.setIfInBounds i true) (ρ,B') (a.put o.dst v) w→dV P .any ops Q L (GR rs) (fuel+1) listed (ρ,B') a w:=by
  intro v B' hy hh
  exact iS (D:=(·∈D)) hLT ho hsel (fun c a w h=>(hQp _ _ _ h).elim) hmD hDc (Inv:=fun _ _=>True) (fun g w _=>GR.refl _ _ _ _) fuel listed _ a w hfr hDu (fun _ _ _ _ _ _ _ _ _ _ _ _=>trivial) hready' (hy.imp (fun ⟨h1,h2⟩=>⟨h1,fun w _=>h2 w trivial⟩) id) trivial hh
 rcases f8 hN hg he h with ⟨hw,e',hEB,he',h'⟩|⟨hw,e',_,he',h'⟩
 ·obtain ⟨x,val,h1,h2,h3⟩:=vH (s:={ s with e:=e' }) hq hm hrep he' h'
  have hh:(St.put { s with e:=e' } o.dst x).h=s.h:=by cases o.dst<;>rfl
  have hgood:GoodAt ρ0 X w0 fx N ρ (St.put { s with e:=e' } o.dst x) (a.put o.dst val) w :=
   ⟨⟨hpre.1,by rw [hh];exact hpre.2⟩,⟨by rw [hh];exact hrep,d2 (e:=e') he' h2 (fun n hn=>by rw [hN];exact hd' n hn) _ rfl⟩,by rw [size_put];exact hN,by cases o.dst<;>exact hdf⟩
  by_cases hL:iI op=true
  ·have hres':∀ j,j≠i→j∉D→listed.getD j true=false→j<ops.size→rs j=true:=by
    intro j hji hjD hjl hlt
    simp only [hL,yaA,Bool.false_or] at hres
    have:=yak.1 hres j (by simpa using hlt)
    simp only [Bool.or_eq_true,beq_iff_eq,hji,false_or,yay,hjD,hjl,Bool.false_eq_true] at this
    exact this
   cases op with
   | load n p =>
    have hpv:=aH he' p
    cases hp:ev e' p with
    | ptr k ix f =>
     rw [hp] at hpv
     have hreal:=hpv.1
     have hlt:=hrep.lt k hreal
     have hrd:rdB (.load n p) s.e bn=k::bn:=by
      have:ev s.e p=.ptr k ix f:=by
       rcases uI hEB p with h4|⟨b,h4⟩
       ·rw [←h4];exact hp
       ·rw [h4] at hp;cases hp
      simp only [rdB,this]
     have hB':BI ρ (fun b=>B b∨b=(ρ k).blk) (rdB (.load n p) s.e bn) w:=by
      rw [hrd]
      rintro b (hb|rfl)
      ·exact ⟨(hB b hb).1,(hB b hb).2.imp (fun ⟨k',hk,hk'⟩=>⟨k',yae _ hk,hk'⟩) id⟩
      ·exact ⟨hlt,.inl ⟨k,yah,hreal,rfl⟩⟩
     refine At (g2:=(ρ,fun b=>B b∨b=(ρ k).blk)) (fun j g' w' hj=>⟨hj.1,fun hr=>⟨fun b hb=>(hj.2 hr).1 b (.inl hb),fun b hb=>(hj.2 hr).2 b (.inl hb)⟩⟩) _ _ _ ?_
     refine iS (D:=(·∈D)) hLT ho hsel (fun c a w h=>(hQp _ _ _ h).elim) hmD hDc (Inv:=Inv (ρ k).blk w.heap[(ρ k).blk]?) (fun g w _=>GR.refl _ _ _ _) fuel listed _ a w hfr hDu
      (fun j oj hoj hji hjD hjl g w g' w' hG hI=>Inv.step (hres' j hji hjD hjl (yax.1 hoj).1) hG hI) hready' ?_ ⟨⟨hlt,.inl (.inr rfl)⟩,rfl⟩ (hZ _ _ _ h1 hB' hgood)
     refine .inl ⟨hw,fun w' ⟨g,hI⟩=>h3 w' ?_⟩
     intro b hb
     rw [hp] at hb
     obtain ⟨_,rfl⟩:=hb
     exact fun _=>hI.2
    | rp sz els ix f =>
     have hrd:rdB (.load n p) s.e bn=bn:=by
      have:ev s.e p=.rp sz els ix f:=by
       rcases uI hEB p with h4|⟨b,h4⟩
       ·rw [←h4];exact hp
       ·rw [h4] at hp;cases hp
      simp only [rdB,this]
     refine iS (D:=(·∈D)) hLT ho hsel (fun c a w h=>(hQp _ _ _ h).elim) hmD hDc (Inv:=fun g w'=>∀ b,b<w.heap.size→¬Own ρ b→(b<w'.heap.size∧¬Own g.1 b)∧w'.heap[b]?=w.heap[b]?) (fun g w _=>GR.refl _ _ _ _) fuel listed _ a w hfr hDu
      (fun j oj hoj hji hjD hjl g w1 g' w2 hG hI b hb1 hb2=>?_) hready' ?_ (fun b hb1 hb2=>⟨⟨hb1,hb2⟩,rfl⟩) (hZ _ _ _ h1 (by rw [hrd];exact hB) hgood)
     ·obtain ⟨⟨h4,h5⟩,h6⟩:=hI b hb1 hb2
      have h7:=hG.1.keep b h4 h5
      exact ⟨⟨yau h4 hG.1.size,h7.2⟩,h7.1.trans h6⟩
     ·refine .inl ⟨hw,fun w' ⟨g,hI⟩=>h3 w' ?_⟩
      intro b hb
      rw [hp] at hb
      exact fun _=>(hI b hb.1 hb.2).2
    | _=>exact absurd h' (by simp [aOp,hp,f7])
   | _=>simp [iI] at hL
  ·have hL':iI op=false:=by simpa using hL
   have hrun:∀ w',(execOp a.eval o).run P w'=.ok (.value val) w':=fun w'=>h3 w' (by cases op<;>first|trivial|simp [iI] at hL')
   refine free val B (.inl ⟨hw,fun w' _=>hrun w'⟩) (hZ B _ _ h1 (by rw [Nb hL'];exact hB) hgood)
 ·have hh:(St.put { s with e:=e' } o.dst (.v (.tuple #[]))).h=s.h:=by cases o.dst<;>rfl
  have hgood:GoodAt ρ0 X w0 fx N ρ (St.put { s with e:=e' } o.dst (.v (.tuple #[]))) (a.put o.dst undef) w :=
   ⟨⟨hpre.1,by rw [hh];exact hpre.2⟩,⟨by rw [hh];exact hrep,d2 (e:=e') (x:=.v (.tuple #[])) (val:=undef) he' rfl (fun n hn=>by rw [hN];exact hd' n hn) _ rfl⟩,by rw [size_put];exact hN,by cases o.dst<;>exact hdf⟩
  have hB':BI ρ B (rdB op s.e bn) w:=fun b hb=>⟨(hB b hb).1,(hB b hb).2.imp (fun ⟨k,hk,hk'⟩=>⟨k,by
   unfold rdB
   split
   ·split
    ·exact yae _ hk
    ·exact hk
   ·exact hk,hk'⟩) id⟩
  exact free undef B (.inr ⟨hw,rfl⟩) (hZ B _ _ h' hB' hgood)
theorem Gz {cx:Cx} (hcx:cx.ok P) (hfxe:cx.fx=fx) {ops:Array Oper} {rs:Nat→Bool} (hs:Region.noSelect ops=true) {Q:Exit→Act→World→Prop} (hQp:∀ c a w,¬Q (.panic c) a w) {K:St→Prop}
  (hL:∀ listed a w,L listed a w→Region.ready .any ops listed=[m])
  (hQ:∀ listed s a w,K s→Good ρ0 X w0 fx N s a w→m<ops.size→Region.seqB .any ops (ops.size-m) m listed=true→L listed a w) :
  ∀ (p0 p:LPlan) (listed:Array Bool) (fuel:Nat) (rem:Option (List Nat)),pC P N ops rs m p0 listed fuel rem=some p→∀ (bn:List Nat) (B:Nat→Prop) (ρ:Nat→Loc) (s:St) (a:Act) (w:World),
   BI ρ B bn w→GoodAt ρ0 X w0 fx N ρ s a w→awP cx p bn K s →
   (rem=none→dV P .any ops Q L (GR rs) fuel listed (ρ,B) a w) ∧
   (∀ l,rem=some l→∀ i∈l,wpOp P ops Q i (fun a' w'=>∃ g',GR rs i (ρ,B) w g' w'∧dV P .any ops Q L (GR rs) (fuel-1) (listed.setIfInBounds i true) g' a' w') a w):=by
 intro p0
 induction p0 with
 | done =>
  intro p listed fuel rem hm bn B ρ s a w hB hG h
  cases rem with
  | some l=>simp [pC] at hm
  | none =>
   simp only [pC] at hm
   split at hm
   ·rename_i hr
    simp only [yaa] at hm
    subst hm
    obtain ⟨rfl,hr1,hr2⟩:=hr
    exact ⟨fun _=>hQ listed s a w h ⟨ρ,hG⟩ hr1 hr2,fun l hl=>by cases hl⟩
   ·cases hm
 | none =>
  intro p listed fuel rem hm bn B ρ s a w hB hG h
  cases rem with
  | none=>simp [pC] at hm
  | some l =>
   cases l with
   | nil=>exact ⟨fun h=>(by cases h),fun l hl i hi=>(by cases hl;simp at hi)⟩
   | cons _ _=>simp [pC] at hm
 | take i D l p ih =>
  intro p1 listed fuel rem hm bn B ρ s a w hB hG h
  cases rem with
  | some l=>cases fuel<;>simp [pC] at hm
  | none =>
   cases fuel with
   | zero=>simp [pC] at hm
   | succ fuel =>
    simp only [pC] at hm
    split at hm
    ·rename_i o ho
     split at hm
     ·rename_i op g p' h1 h2 h3 h4
      split at hm
      ·rename_i hok
       simp only [yaa] at hm
       subst hm
       simp only [yac,yay] at hok
       refine ⟨fun _=>?_,fun l hl=>by cases hl⟩
       refine Fg hL (cx:=cx) (K:=fun s'=>awP cx p' (rdB op s.e bn) K s') hs hQp ho h1 h2 h3 hok.1 hok.2 hB hG h ?_
       intro B' s' a' hK hB' hG'
       exact (ih p' _ _ _ h4 _ _ _ _ _ _ hB' hG' hK).1 rfl
      ·cases hm
     ·cases hm
    ·cases hm
 | alt i l r p q ihp ihq =>
  intro p1 listed fuel rem hm bn B ρ s a w hB hG h
  cases fuel with
  | zero=>cases rem<;>simp [pC] at hm
  | succ fuel =>
   simp only [pC] at hm
   split at hm
   ·rename_i j js o hrem ho
    split at hm
    ·rename_i op g p' q' h1 h2 h3 h4 h5
     split at hm
     ·rename_i hc
      obtain ⟨rfl,hr⟩:=hc
      simp only [yaa] at hm
      subst hm
      have hall:∀ i∈j::js,wpOp P ops Q i (fun a' w'=>∃ g',GR rs i (ρ,B) w g' w'∧dV P .any ops Q L (GR rs) fuel (listed.setIfInBounds i true) g' a' w') a w:=by
       intro i hi
       rcases yal.1 hi with rfl|hi
       ·refine Ey (K:=fun s'=>awP cx p' (if r then bn else []) K s') (Z:=fun g' a' w'=>dV P .any ops Q L (GR rs) fuel (listed.setIfInBounds i true) g' a' w') hcx hfxe ho h1 h2 h3 hr hB hG h.1 ?_
        intro ρ' B' s' a' w' hK hB' hG'
        exact (ihp p' _ _ _ h4 _ _ _ _ _ _ hB' hG' hK).1 rfl
       ·exact (ihq q' _ _ _ h5 _ _ _ _ _ _ hB hG h.2).2 js rfl i hi
      refine ⟨fun hn=>?_,fun l hl=>?_⟩
      ·subst hn
       simp only [Option.getD_none] at hrem
       exact ⟨fun h0=>(by rw [hrem] at h0;cases h0),by rw [hrem];exact hall⟩
      ·subst hl
       simp only [Option.getD_some] at hrem
       subst hrem
       exact hall
     ·cases hm
    ·cases hm
   ·cases hm
theorem Lk (hP:P.follows .mixedOrders=true) {cx:Cx} (hcx:cx.ok P) (hy:∀ k,YOk P ρ0 X w0 cx.fx k (cx.y k)) {ops:Array Oper} {id:Nat} {Q:Exit→Act→World→Prop} (hQo:¬LetsOut Q) {K:St→Prop}
  (hQ:∀ s a w,K s→Good ρ0 X w0 cx.fx N s a w→Q .normal a w) {p0 p:LPlan} {ls0 ls:List bH} {s:St} {a:Act} {w:World} (hm:Vt P N ops p0 m=some p) (hmt:dR P ops N (ops.toList.drop m) ls0=some ls) (hlt:m<ops.size)
  (hg:Good ρ0 X w0 cx.fx N s a w) (h:awP cx p [] (fun s'=>gJ cx ls s' K) s):(Code.region id ops true).wpIn (FR none) 0 P Q a w:=by
 unfold Vt at hm
 split at hm
 ·rename_i hs
  refine wpIn_mono (Q:=oC Q) ?_ (fun e a w he=>?_)
  ·refine wpIn_region_any hP ?_
   obtain ⟨ρ,hG⟩:=Good.drew hg
   have hno:¬LetsOut (oC Q):=fun ⟨a,w,hq⟩=>hQo ⟨a,w,hq⟩
   have hdl:(ops.toList.drop m).length=ops.size-m:=by simp
   have:=tC (P:=P) (md:=.any) (ops:=ops) (Q:=oC Q) (n:=ops.size-m) (G:=GR fun j=>!(Jy p0).contains j)
    (L:=fun listed a w=>(m<ops.size∧Region.seqB .any ops (ops.size-m) m listed=true)∧wpListIn (FR none) 0 P ops (oC Q) (ops.toList.drop m) a w) hno (fun listed a w hL=>by
     have:=mC (P:=P) (r:=none) (md:=.any) (Q:=oC Q) (ops.toList.drop m) m listed a w (fun j=>by simp [List.getElem?_drop]) (by rw [hdl];exact hL.1.2) hL.2
     rwa [hdl] at this) m _ _ _ _
    ((Gz (Q:=oC Q) (m:=m) hcx rfl hs (fun _ _ _ h=>h) (fun listed a w hL=>by
      obtain ⟨⟨h1,h2⟩,_⟩:=hL
      obtain ⟨q,hq⟩:∃ q,ops.size-m=q+1:=⟨ops.size-m-1,by omega⟩
      rw [hq] at h2
      simp only [Region.seqB,yac,decide_eq_true_eq] at h2
      exact h2.1) (fun listed s a w hK hg h1 h2=>⟨⟨h1,h2⟩,iR (Q:=oC Q) hcx hy (fun s a w hK hg=>hQ s a w hK hg) _ _ _ s a w hmt hg hK⟩) p0 p _ _ _ hm [] (fun _=>False) ρ s a _ (fun b hb=>hb.elim) hG h).1 rfl)
   rw [show m+(ops.size-m)=ops.size by omega] at this
   exact this
  ·cases e<;>first|exact he|exact he.elim
 ·cases hm
end
end Go.Fx
namespace Go.Fx
open Go.RowKit
section
variable {P:Program} {X:Nat→Prop} {N:Nat}
theorem Xg [DBase] {cx:Cx} {a:Act} {w:World} {K:St→Prop} {ρ0:Nat→Loc} {w0:World} (xs:List Nat) (s:St) (h:w5 cx.fx xs s K) (hg:Good ρ0 X w0 cx.fx N s a w):∃ s',K s'∧Good ρ0 X w0 cx.fx N s' a w:=nQ xs s h hg
theorem Qd (hP:P.follows .mixedOrders=true):∀ c:Code,Tt P X N c:=by
 intro c
 induction c with
 | skip =>
  intro l0 l hm _ r cx ρ0 w0 hcx hrd hro hy Q Nn Xx Rr hQo hN hX hR s a w h hg
  simp only [rlC,yaa] at hm
  subst hm
  exact wpIn_skip (hN s a w h hg)
 | ret =>
  intro l0 l hm _ r cx ρ0 w0 hcx hrd hro hy Q Nn Xx Rr hQo hN hX hR s a w h hg
  simp only [rlC,yaa] at hm
  subst hm
  exact wpIn_ret (hR s a w h hg)
 | label i =>
  intro l0 l hm _ r cx ρ0 w0 hcx hrd hro hy Q Nn Xx Rr hQo hN hX hR s a w h hg
  simp only [rlC,yaa] at hm
  subst hm
  exact wpIn_label (hN s a w h hg)
 | exit i =>
  intro l0 l hm _ r cx ρ0 w0 hcx hrd hro hy Q Nn Xx Rr hQo hN hX hR s a w h hg
  simp only [rlC,yaa] at hm
  subst hm
  exact wpIn_exit (hX i s a w h hg)
 | region id ops draw =>
  intro l0 l hm _ r cx ρ0 w0 hcx hrd hro hy Q Nn Xx Rr hQo hN hX hR s a w h hg
  have hd:r=none∨ops.toList.all dZ=true:=hrd.imp (fun h=>h) fun h=>h.1
  simp only [rlC] at hm
  split at hm
  ·split at hm
   ·rename_i x hr
    simp only [yaa] at hm
    subst hm
    exact wpIn_region_list (Ge hQo _ (hd.imp (fun h=>h) fun h=>yak.1 h) _ _ (mE hcx rfl hN _ _ _ _ a w hr (hg.reserve _ _) h))
   ·cases hm
  ·split at hm
   ·rename_i x hr
    split at hm
    ·rename_i hc
     simp only [yac] at hc
     simp only [yaa] at hm
     subst hm
     rcases hrd with rfl|hrd
     ·exact (wpIn_wide (n:=0)).2 (Kf hP hN hr hc.1 hc.2 (hg.reserve _ _) h)
     ·exact absurd hrd.2 (by simp [fF])
    ·cases hm
   ·cases hm
  ·split at hm
   ·rename_i x hr
    split at hm
    ·rename_i hc
     simp only [yac] at hc
     simp only [yaa] at hm
     subst hm
     rcases hrd with rfl|hrd
     ·exact (wpIn_wide (n:=0)).2 (Fh hP hcx rfl hN hr hc.1 hc.2 (hg.reserve _ _) h)
     ·exact absurd hrd.2 (by simp [fF])
    ·cases hm
   ·cases hm
  ·split at hm
   ·rename_i x hr
    simp only [yaa] at hm
    subst hm
    exact Qy hP hcx hQo hN hd hr (hg.reserve _ _) h
   ·cases hm
  ·split at hm
   ·rename_i x hr
    split at hm
    ·rename_i hc
     simp only [yaa] at hm
     subst hm
     rcases hrd with rfl|hrd
     ·cases draw with
      | false=>exact wpIn_region_list (iR hcx hy hN _ _ _ _ a w hr (hg.reserve _ _) h)
      | true =>
       simp only [yaA,Bool.false_or,yac] at hc
       exact Qn hP hcx hy hQo hN hr hc.1 hc.2 (hg.reserve _ _) h
     ·exact absurd hrd.2 (by simp [fF])
    ·cases hm
   ·cases hm
  ·split at hm
   ·rename_i p' x hp hr
    split at hm
    ·rename_i hlt
     simp only [yaa] at hm
     subst hm
     rcases hrd with rfl|hrd
     ·exact Lk hP hcx hy hQo hN hp hr hlt (hg.reserve _ _) h
     ·exact absurd hrd.2 (by simp [fF])
    ·cases hm
   ·cases hm
  ·simp only [yaa] at hm
   subst hm
   exact h.elim
  ·cases hm
 | seq a b iha ihb =>
  intro l0 l hm _ r cx ρ0 w0 hcx hrd hro hy Q Nn Xx Rr hQo hN hX hR s ac w h hg
  simp only [rlC] at hm
  split at hm
  ·split at hm
   ·rename_i x' y' h1 h2
    simp only [yaa] at hm
    subst hm
    have hra:r=none∨(cO a=true∧fF x'=true):=hrd.imp (fun h=>h) fun h=>by simp only [cO,fF,yac] at h;exact ⟨h.1.1,h.2.1⟩
    have hrb:r=none∨(cO b=true∧fF y'=true):=hrd.imp (fun h=>h) fun h=>by simp only [cO,fF,yac] at h;exact ⟨h.1.2,h.2.2⟩
    refine wpIn_seq (iha _ _ h1 r cx ρ0 w0 hcx hra hro hy _ (fun s'=>aw cx y' Nn Xx Rr s') Xx Rr (mG hQo) ?_ ?_ ?_ s ac w h hg)
    ·intro s' a' w' h' hg'
     exact ihb _ _ h2 r cx ρ0 w0 hcx hrb hro hy Q Nn Xx Rr hQo hN hX hR s' a' w' h' hg'
    ·exact hX
    ·exact hR
   ·cases hm
  ·split at hm
   ·rename_i x' y' h1 h2
    simp only [yaa] at hm
    subst hm
    have hra:r=none∨(cO a=true∧fF x'=true):=hrd.imp (fun h=>h) fun h=>by simp only [cO,fF,yac] at h;exact ⟨h.1.1,h.2.1⟩
    have hrb:r=none∨(cO b=true∧fF y'=true):=hrd.imp (fun h=>h) fun h=>by simp only [cO,fF,yac] at h;exact ⟨h.1.2,h.2.2⟩
    simp only [aw] at h
    obtain ⟨s1,h,hg⟩:=Xg _ s h hg
    refine wpIn_seq (iha _ _ h1 r cx ρ0 w0 hcx hra hro hy _ (fun s'=>aw cx y' Nn Xx Rr s') Xx Rr (mG hQo) ?_ ?_ ?_ s1 ac w h hg)
    ·intro s' a' w' h' hg'
     exact ihb _ _ h2 r cx ρ0 w0 hcx hrb hro hy Q Nn Xx Rr hQo hN hX hR s' a' w' h' hg'
    ·exact hX
    ·exact hR
   ·cases hm
  ·simp only [yaa] at hm
   subst hm
   exact h.elim
  ·cases hm
 | cond c a b iha ihb =>
  intro l0 l hm _ r cx ρ0 w0 hcx hrd hro hy Q Nn Xx Rr hQo hN hX hR s ac w h hg
  simp only [rlC] at hm
  split at hm
  ·split at hm
   ·rename_i x' y' h1 h2
    simp only [yaa] at hm
    subst hm
    have hra:r=none∨(cO a=true∧fF x'=true):=hrd.imp (fun h=>h) fun h=>by simp only [cO,fF,yac] at h;exact ⟨h.1.1,h.2.1⟩
    have hrb:r=none∨(cO b=true∧fF y'=true):=hrd.imp (fun h=>h) fun h=>by simp only [cO,fF,yac] at h;exact ⟨h.1.2,h.2.2⟩
    simp only [aw] at h
    obtain ⟨t,ht,hA,hB⟩:=Tm h
    have hev:ac.eval c=.bool t:=by
     obtain ⟨ρ,_,⟨_,he⟩,_⟩:=hg
     have:=aH he c
     rw [ht] at this
     exact this
    refine wpIn_cond hev ?_
    cases t
    ·exact ihb _ _ h2 r cx ρ0 w0 hcx hrb hro hy Q Nn Xx Rr hQo hN hX hR s ac w (hB rfl) hg
    ·exact iha _ _ h1 r cx ρ0 w0 hcx hra hro hy Q Nn Xx Rr hQo hN hX hR s ac w (hA rfl) hg
   ·cases hm
  ·cases hm
 | block i a iha =>
  intro l0 l hm _ r cx ρ0 w0 hcx hrd hro hy Q Nn Xx Rr hQo hN hX hR s ac w h hg
  simp only [rlC] at hm
  split at hm
  ·split at hm
   ·rename_i x' h1
    simp only [yaa] at hm
    subst hm
    refine wpIn_block (iha _ _ h1 r cx ρ0 w0 hcx hrd hro hy (Exit.inBlock i Q) Nn (fun j s'=>if j=i then Nn s' else Xx j s') Rr (fun ⟨a,w,hq⟩=>hQo ⟨a,w,hq⟩) ?_ ?_ ?_ s ac w h hg)
    ·exact hN
    ·intro j s' a' w' h' hg'
     show if j=i then _ else _
     split at h'
     ·rename_i hj;rw [if_pos hj];exact hN s' a' w' h' hg'
     ·rename_i hj;rw [if_neg hj];exact hX j s' a' w' h' hg'
    ·exact hR
   ·cases hm
  ·cases hm
 | loop a iha =>
  intro l0 l hm _ r cx ρ0 w0 hcx hrd hro hy Q Nn Xx Rr hQo hN hX hR s ac w h hg
  simp only [rlC] at hm
  split at hm
  ·split at hm
   ·rename_i x' h1
    simp only [yaa] at hm
    subst hm
    obtain ⟨G,pat,I,μ,L,hL,⟨g,hI,hle⟩,hround⟩:=h
    refine wpIn_loop_ghost (fun n a w=>∃ g,(I g∧μ g=n)∧Good ρ0 X w0 cx.fx N (pat g) a w) (μ g) ⟨g,⟨hI,rfl⟩,hg.leG hle⟩ ?_
    rintro n a' w' ⟨g',⟨hI',rfl⟩,hg'⟩
    refine iha _ _ h1 r cx ρ0 w0 hcx hrd hro hy _ _ Xx Rr (mG hQo) ?_ ?_ ?_ (pat g') a' w' (hround g' hI') hg'
    ·rintro s' a'' w'' ⟨g'',⟨hI'',hlt⟩,hle''⟩ hg''
     exact ⟨μ g'',hlt,g'',⟨hI'',rfl⟩,hg''.leG (hL _ _ hle'')⟩
    ·exact hX
    ·exact hR
   ·cases hm
  ·cases hm
 | rangeFunc g ps asg body iha ihb=>exact Vu iha ihb
 | scope c ih =>
  intro l0 l hm _ r cx ρ0 w0 hcx hrd hro hy Q Nn Xx Rr hQo hN hX hR s a w h hg
  simp only [rlC] at hm
  rcases hrd with rfl|hrd
  ·exact (wpIn_wide (n:=0)).2 (wp_scope_straight ((wpIn_wide (n:=0)).1 (ih l0 l hm none cx ρ0 w0 hcx (.inl rfl) hro hy (Exit.noGoto Q) Nn Xx Rr (fun ⟨a,w,hq⟩=>hQo ⟨a,w,hq⟩) hN hX hR s a w h hg)))
  ·exact absurd hrd.1 (by simp [cO])
 | _=>intro l0 l hm;simp [rlC] at hm
end
end Go.Fx
namespace Go.Fx
open Go.RowKit
section
variable {X:Nat→Prop} {ρ:Nat→Loc} {w w':World}
mutual
theorem Ao {S S':Nat→Prop} (hS:∀ b,S b→S' b) (hc:∀ b o,w'.cell? ⟨b,o,none⟩=w.cell? ⟨b,o,none⟩):∀ (x:V) (val:Value),eL S w x val→eL S' w' x val
 | .v _,_,h=>h
 | .ro sz els,val,h=>by
  obtain ⟨a,len,cap,h1,h2,h3,h4,h5⟩:=h
  refine ⟨a,len,cap,h1,h2,h3,h4,h5.imp id ?_⟩
  rintro ⟨b,off,h6,h7,h8⟩
  exact ⟨b,off,h6,hS b h7,eW hS hc sz b off els h8⟩
 | .any,_,h|.bro _ _,_,h|.full _ _,_,h|.sl _ _ _,_,h|.ptr _ _ _,_,h|.rp _ _ _ _,_,h|.agg _,_,h|.tup _,_,h|.clo _ _,_,h|.mp _,_,h|.itr _,_,h=>h.elim
theorem eW {S S':Nat→Prop} (hS:∀ b,S b→S' b) (hc:∀ b o,w'.cell? ⟨b,o,none⟩=w.cell? ⟨b,o,none⟩) (sz b:Nat):∀ (off:Nat) (els:List (List V)),b6 S w sz b off els→b6 S' w' sz b off els
 | _,[],_=>trivial
 | off,e::r,h=>⟨⟨h.1.1,xU hS hc b off e h.1.2⟩,eW hS hc sz b (off+sz) r h.2⟩
theorem xU {S S':Nat→Prop} (hS:∀ b,S b→S' b) (hc:∀ b o,w'.cell? ⟨b,o,none⟩=w.cell? ⟨b,o,none⟩) (b:Nat):∀ (off:Nat) (cs:List V),gK S w b off cs→gK S' w' b off cs
 | _,[],_=>trivial
 | off,x::r,h=>⟨by obtain ⟨⟨val,h1,h2⟩,_⟩:=h;exact ⟨val,(hc b off).trans h1,Ao hS hc x val h2⟩,xU hS hc b (off+1) r h.2⟩
end
mutual
theorem lD (hs:w'.heap.size=w.heap.size) (hc:∀ b o,w'.cell? ⟨b,o,none⟩=w.cell? ⟨b,o,none⟩):∀ (x:V) (val:Value),aM ρ X w x val→aM ρ X w' x val
 | .any,_,_=>trivial
 | .v _,_,h=>h
 | .ro sz els,val,h=>Ao (fun b hb=>⟨hs▸hb.1,hb.2⟩) hc (.ro sz els) val h
 | .bro sz els,val,h=>by
  obtain ⟨a,len,cap,h1,h2,h3,h4,h5⟩:=h
  refine ⟨a,len,cap,h1,h2,h3,h4,h5.imp id ?_⟩
  rintro ⟨b,off,h6,h7,h8⟩
  exact ⟨b,off,h6,⟨hs▸h7.1,h7.2⟩,eW (fun b hb=>⟨hs▸hb.1,hb.2⟩) hc sz b off els h8⟩
 | .full sz els,val,h=>by
  obtain ⟨a,len,h1,h2,h4,h5⟩:=h
  refine ⟨a,len,h1,h2,h4,h5.imp id ?_⟩
  rintro ⟨b,off,h6,h7,h8⟩
  exact ⟨b,off,h6,⟨hs▸h7.1,h7.2⟩,eW (fun b hb=>⟨hs▸hb.1,hb.2⟩) hc sz b off els h8⟩
 | .sl _ _ _,_,h=>h
 | .ptr _ _ _,_,h=>h
 | .rp sz els i f,val,h=>by
  obtain ⟨b,off,h6,h7,h8⟩:=h
  exact ⟨b,off,h6,⟨hs▸h7.1,h7.2⟩,eW (fun b hb=>⟨hs▸hb.1,hb.2⟩) hc sz b off els h8⟩
 | .agg cs,val,h=>by
  obtain ⟨arr,h1,h2⟩:=h
  exact ⟨arr,h1,hY hs hc cs arr.toList h2⟩
 | .tup cs,val,h=>by
  obtain ⟨arr,h1,h2⟩:=h
  exact ⟨arr,h1,hY hs hc cs arr.toList h2⟩
 | .clo f cs,val,h=>by
  obtain ⟨arr,h1,h2⟩:=h
  exact ⟨arr,h1,hY hs hc cs arr.toList h2⟩
 | .mp _,_,h=>h
 | .itr _,_,h=>h
theorem hY (hs:w'.heap.size=w.heap.size) (hc:∀ b o,w'.cell? ⟨b,o,none⟩=w.cell? ⟨b,o,none⟩):∀ (xs:List V) (vs:List Value),bA ρ X w xs vs→bA ρ X w' xs vs
 | [],[],_=>trivial
 | x::r,u::us,h=>⟨lD hs hc x u h.1,hY hs hc r us h.2⟩
 | [],_::_,h=>h.elim
 | _::_,[],h=>h.elim
end
theorem Lb (hs:w'.heap.size=w.heap.size) (hc:∀ b o,w'.cell? ⟨b,o,none⟩=w.cell? ⟨b,o,none⟩) {k:Nat} (hb:(ρ k).real=true→w'.heap[(ρ k).blk]?=w.heap[(ρ k).blk]?) {B:Blk} (h:aQ ρ X w k B):aQ ρ X w' k B:=by
 cases B with
 | dead=>exact h
 | arr sz els =>
  refine ⟨h.1,h.2.imp id ?_⟩
  rintro ⟨h1,c,T,h2,h3,h4,h5⟩
  exact ⟨h1,c,T,(hb h1).trans h2,h3,h4,eW (fun b hb=>⟨hs▸hb.1,hb.2⟩) hc sz _ _ _ h5⟩
 | var cs =>
  obtain ⟨h1,c,T,h2,h3⟩:=h
  exact ⟨h1,c,T,(hb h1.1).trans h2,hY hs hc _ _ h3.1,h3.2⟩
 | arv sz els =>
  obtain ⟨h0,h1,c,T,h2,h3,h4,h5⟩:=h
  refine ⟨h0,h1,c,T,(hb h1).trans h2,h3,h4,fun i e he=>⟨(h5 i e he).1,fun f x hx=>?_⟩⟩
  obtain ⟨u,h6,h7⟩:=(h5 i e he).2 f x hx
  exact ⟨u,h6,lD hs hc _ _ h7⟩
 | map es cl =>
  obtain ⟨h1,arr,h2,h3,h4⟩:=h
  exact ⟨h1,arr,(hb h1.1).trans h2,h3,hY hs hc _ _ h4⟩
 | it m s sn l =>
  obtain ⟨h1,x,h2,h3⟩:=h
  exact ⟨h1,x,(hb h1.1).trans h2,lD hs hc _ _ h3⟩
 | rcd t e=>exact ⟨oJ hb h.1,fun i=>lD hs hc _ _ (h.2 i)⟩
variable [DBase] {ρ0:Nat→Loc} {w0:World} {fx:List Nat} {N:Nat}
theorem Good.takeD {s:St} {a:Act} {w:World} {n:Nat} (hg:Good ρ0 X w0 fx N s a w) (hl:a.defers.length=n+1+DBase.ds.length) :
  ∃ D ds,a.defers=vQ D::ds∧w.heap[D]?=some (.deferred (some []))∧Good ρ0 X w0 fx N s { a with defers:=ds } (w.putObj D (.deferred none)):=by
 obtain ⟨ρ,⟨⟨hf,h1⟩,hk⟩,⟨hr,he⟩,h5,Ds,⟨hDs,hnd⟩,hM⟩:=hg
 cases Ds with
 | nil=>rw [hDs] at hl;simp at hl
 | cons D Ds =>
  obtain ⟨⟨g1,g2⟩,g3,g4⟩:=hM D yah
  refine ⟨D,_,hDs,g4,?_⟩
  have hoth:∀ b,b≠D→(w.putObj D (.deferred none)).heap[b]?=w.heap[b]?:=fun b hb=>World.putObj_heap_other hb
  have hs:(w.putObj D (.deferred none)).heap.size=w.heap.size:=World.putObj_size
  have hc:∀ b o,(w.putObj D (.deferred none)).cell? ⟨b,o,none⟩=w.cell? ⟨b,o,none⟩:=by
   intro b o
   by_cases hb:b=D
   ·subst hb
    simp [World.cell?,World.putObj_heap_same g2,g4]
   ·exact cell_of_heap (hoth b hb)
  have hown:∀ k,(ρ k).real=true→(ρ k).blk≠D:=fun k hk e=>g3 ⟨k,hk,e⟩
  refine ⟨ρ,⟨⟨⟨hf.os,hf.tape,hf.output,by rw [hs];exact hf.size,fun b hb ho=>⟨(hoth b (by omega)).trans (hf.keep b hb ho).1,(hf.keep b hb ho).2⟩⟩,h1⟩,hk⟩,
   ⟨⟨hr.inj,hr.out,fun k B hB=>Lb hs hc (fun hk=>hoth _ (hown k hk)) (hr.blk k B hB),hr.disj,fun k hk=>by rw [hs];exact hr.lt k hk,⟨fun b hb=>by rw [hs];exact hr.xlt.1 b hb,fun p hp i hi=>by rw [hc];exact hr.xlt.2 p hp i hi⟩⟩,fun i=>lD hs hc _ _ (he i)⟩,
   h5,Ds,⟨rfl,(yav.1 hnd).2⟩,fun E hE=>?_⟩
  obtain ⟨⟨k1,k2⟩,k3,k4⟩:=hM E (yae _ hE)
  have hne:E≠D:=fun e=>(yav.1 hnd).1 (e▸hE)
  exact ⟨⟨k1,by rw [hs];exact k2⟩,k3,(hoth E hne).trans k4⟩
theorem Good.marked {s:St} {a:Act} {w:World} (hg:Good ρ0 X w0 fx N s a w):∃ n,a.defers.length=n+DBase.ds.length:=by
 obtain ⟨ρ,_,_,_,Ds,⟨hDs,_⟩,_⟩:=hg
 exact ⟨Ds.length,by rw [hDs];simp⟩
theorem Good.base {s:St} {a:Act} {w:World} (hg:Good ρ0 X w0 fx N s a w) (hl:a.defers.length=DBase.ds.length):a.defers=DBase.ds:=by
 obtain ⟨ρ,_,_,_,Ds,⟨hDs,_⟩,_⟩:=hg
 cases Ds with
 | nil=>simpa using hDs
 | cons D Ds=>rw [hDs] at hl;simp at hl;omega
theorem sV {P:Program} {fn:Func} {R:Ending→World→Prop} {s:St} (hend:∀ (a:Act) (w:World),Good ρ0 X w0 fx N s a w→a.defers=DBase.ds→LeavesInM Fence.wide 0 P fn a.tmps R a.defers .returning w) :
  ∀ (n:Nat) (a:Act) (w:World),a.defers.length=n+DBase.ds.length→Good ρ0 X w0 fx N s a w→LeavesInM Fence.wide 0 P fn a.tmps R a.defers .returning w
 | 0,a,w,hl,hg=>hend a w hg (hg.base (by omega))
 | n+1,a,w,hl,hg=>by
  obtain ⟨D,ds,hd,h1,h2⟩:=hg.takeD (n:=n) (by omega)
  rw [hd]
  have:=sV hend n { a with defers:=ds } _ (by rw [hd] at hl;simp at hl ⊢;omega) h2
  exact ⟨by simp,.inl ⟨D,_,rfl,run_takeDeferred h1,this⟩⟩
end
section
variable {X:Nat→Prop} {ρ0:Nat→Loc} {w0:World} {fx:List Nat} {N:Nat}
theorem yY {P:Program} {fn:Func} {R:Ending→World→Prop} {s:St} (hend:∀ (a:Act) (w:World),Good ρ0 X w0 fx N s a w→∃ v,(results fn a.tmps).run P w=.ok v w∧R (.returned v) w)
  (ds:List Deferred) (a:Act) (w:World) (hd:a.defers=ds) (hg:Good ρ0 X w0 fx N s a w):LeavesInM Fence.wide 0 P fn a.tmps R ds .returning w:=by
 subst hd
 obtain ⟨n,hn⟩:=hg.marked
 refine sV (fun a w hg h0=>?_) n a w hn hg
 rw [h0]
 exact hend a w hg
end
end Go.Fx
namespace Go.Fx
open Go.RowKit
def Fo (P:Program):ResultVar→Option d7
 | .tmp t=>some (.tmp t)
 | .cell a t=>match P.info? t,P.underlying t with
  | some i,some d=>some (.cell a (if d.isRow then some i.size else none))
  | _,_=>none
def yK (P:Program):List ResultVar→Option (List d7)
 | []=>some []
 | r::rs=>match Fo P r,yK P rs with
  | some x,some xs=>some (x::xs)
  | _,_=>none
def Fs (tmps:Array Value):ResultVar→Sem Value
 | .tmp t=>pure (tmps.getD t undef)
 | .cell a t=>do loadVar t (← asAddr (tmps.getD a undef))
def Ct:List Value→Value
 | [u]=>u
 | us=>.tuple us.toArray
section
variable {P:Program} {ρ:Nat→Loc} {X:Nat→Prop} {w:World}
def Xy (P:Program) (w:World) (tmps:Array Value):List ResultVar→List Value→Prop
 | [],[]=>True
 | r::rs,u::us=>(Fs tmps r).run P w=.ok u w∧Xy P w tmps rs us
 | _,_=>False
theorem Di {fn:Func} {tmps:Array Value} {us:List Value} (hn:fn.results.toList.length≤4) (h:Xy P w tmps fn.results.toList us) :
  (results fn tmps).run P w=.ok (Ct us) w:=by
 have hr:fn.results=fn.results.toList.toArray:=by simp
 have hres:results fn tmps=(do
   let vs ← fn.results.toList.toArray.mapM (Fs tmps)
   pure (if h:vs.size=1 then vs[0] else .tuple vs)):=by
  unfold results
  rw [←hr]
  congr 1
 rw [hres]
 generalize fn.results.toList=l at h hn
 match l,us,h,hn with
 | [],[],_,_=>simp [Ct]
 | [a],[u],⟨h1,_⟩,_=>simp [h1,Ct]
 | [a,b],[u,v],⟨h1,h2,_⟩,_=>simp [h1,h2,Ct]
 | [a,b,c],[u,v,x],⟨h1,h2,h3,_⟩,_=>simp [h1,h2,h3,Ct]
 | [a,b,c,d],[u,v,x,y],⟨h1,h2,h3,h4,_⟩,_=>simp [h1,h2,h3,h4,Ct]
 | _::_::_::_::_::_,_,_,hn=>simp at hn
 | [],_::_,h,_=>exact h.elim
 | [_],[],h,_=>exact h.elim
 | [_],_::_::_,h,_=>exact h.2.elim
 | [_,_],[],h,_=>exact h.elim
 | [_,_],[_],h,_=>exact h.2.elim
 | [_,_],_::_::_::_,h,_=>exact h.2.2.elim
 | [_,_,_],[],h,_=>exact h.elim
 | [_,_,_],[_],h,_=>exact h.2.elim
 | [_,_,_],[_,_],h,_=>exact h.2.2.elim
 | [_,_,_],_::_::_::_::_,h,_=>exact h.2.2.2.elim
 | [_,_,_,_],[],h,_=>exact h.elim
 | [_,_,_,_],[_],h,_=>exact h.2.elim
 | [_,_,_,_],[_,_],h,_=>exact h.2.2.elim
 | [_,_,_,_],[_,_,_],h,_=>exact h.2.2.2.elim
 | [_,_,_,_],_::_::_::_::_::_,h,_=>exact h.2.2.2.2.elim
theorem u9 {h:List Blk} {e:Env} {tmps:Array Value} (hr:Rep ρ X w h) (he:bX ρ X w e tmps) {K:List V→Prop} :
  ∀ (rs:List ResultVar) (ls:List d7) (acc:List V) (us:List Value),yK P rs=some ls→bA ρ X w acc us→a8 h e ls acc K →
   ∃ xs vs,K (acc.reverse++xs)∧bA ρ X w xs vs∧Xy P w tmps rs vs
 | [],ls,acc,us,hm,ha,hk=>by
  simp only [yK,yaa] at hm
  subst hm
  exact ⟨[],[],by simpa [a8] using hk,trivial,trivial⟩
 | r::rs,ls,acc,us,hm,ha,hk=>by
  simp only [yK] at hm
  split at hm
  ·rename_i x xs hx hxs
   simp only [yaa] at hm
   subst hm
   cases r with
   | tmp t =>
    simp only [Fo,yaa] at hx
    subst hx
    obtain ⟨ys,vs,h1,h2,h3⟩:=u9 hr he rs xs (get e t::acc) (tmps.getD t undef::us) hxs ⟨he t,ha⟩ hk
    exact ⟨get e t::ys,tmps.getD t undef::vs,by simpa using h1,⟨he t,h2⟩,rfl,h3⟩
   | cell a t =>
    simp only [Fo] at hx
    split at hx
    ·rename_i inf d hi hu
     simp only [yaa] at hx
     subst hx
     simp only [a8] at hk
     obtain ⟨y,val,h1,h2,h3⟩:=Ny hr hi hu rfl (he a) hk
     obtain ⟨ys,vs,h4,h5,h6⟩:=u9 hr he rs xs (y::acc) (val::us) hxs ⟨h2,ha⟩ h1
     refine ⟨y::ys,val::vs,by simpa using h4,⟨h2,h5⟩,?_,h6⟩
     have h7:=h3 w (Ext.refl w)
     have hp:=he a
     have hptr:∃ ad,tmps.getD a undef=.pointer (some ad):=by
      revert hk
      unfold f7
      split
      ·rename_i k i f hv;intro _;rw [hv] at hp;exact ⟨_,hp.2⟩
      ·rename_i sz els i f hv;intro _;rw [hv] at hp;obtain ⟨b,off,h8,_⟩:=hp;exact ⟨_,h8⟩
      ·intro hk;exact hk.elim
     obtain ⟨ad,had⟩:=hptr
     rw [had] at h7
     simp only [Fs,had,asAddr,Sem.run_bind,Sem.run_pure,Result.andThen_ok]
     simpa [Instr.loadAt,Instr.sureAddr] using h7
    ·cases hx
  ·cases hm
theorem Qx {xs:List V} {us:List Value} (h:bA ρ X w xs us):aM ρ X w (bF xs) (Ct us):=by
 match xs,us,h with
 | [],[],_=>exact ⟨#[],rfl,trivial⟩
 | [x],[u],h=>exact h.1
 | x::y::r,u::v::s,h=>exact ⟨(u::v::s).toArray,rfl,h⟩
 | [_],_::_::_,h=>exact h.2.elim
 | _::_::_,[_],h=>exact h.2.elim
 | [],_::_,h=>exact h.elim
 | _::_,[],h=>exact h.elim
theorem Am:∀ (i:Nat) (xs:List V) (j:Nat),get (aV i xs) j=if i≤j then (xs[j-i]?).getD .any else .any
 | i,[],j=>by simp [aV,get]
 | i,x::r,j=>by
  simp only [aV,get]
  by_cases h:j=i
  ·subst h;simp
  ·rw [if_neg h,Am (i+1) r j]
   by_cases h2:i+1≤j
   ·rw [if_pos h2,if_pos (by omega)]
    rw [show j-i=(j-(i+1))+1 by omega]
    simp
   ·rw [if_neg h2,if_neg (by omega)]
theorem Kv {xs:List V} {vals:List Value} (h:bA ρ X w xs vals) (n:Nat):bX ρ X w (aV 0 xs) (vals.toArray++yaf n undef):=by
 intro i
 rw [Am]
 simp only [yat,if_true,Nat.sub_zero]
 cases hx:xs[i]? with
 | none=>trivial
 | some x =>
  obtain ⟨v,h1,h2⟩:=bO h hx
  have hi:i<vals.length:=(yag.1 h1).1
  have:(vals.toArray++yaf n undef).getD i undef=v:=by
   rw [yar,Array.getElem?_append_left (by simpa using hi)]
   simp [h1]
  rw [this]
  exact h2
theorem aeB (hP:P.follows .mixedOrders=true) {cx:Cx} (hcx:cx.ok P) {f:FuncId} {fn:Func} {c:Code} {l0 l:LCode} {rs:List d7} (hf:P.funcs[f]?=some fn) (hb:fn.body=some c)
  (hm:rlC P fn.ntmps c l0=some l) (hres:yK P fn.results.toList=some rs) (h4:fn.results.toList.length≤4) {args:List V} {h0:List Blk} {mv:List Nat} {R:V→List Blk→Prop}
  (hlen:args.length≤fn.ntmps) (hfx:aJ cx.fx h0) (hmv:∀ k,k<h0.length→k∉mv→k∈cx.fx)
  (h:aw cx l (cE cx.fx h0.length rs R) (fun _ _=>False) (cE cx.fx h0.length rs R) ⟨aV 0 args,h0,0⟩) (hy:cx.y=fun _ _ _ _=>False:=by rfl) (hk:cx.rk=none:=by rfl):Fn P f args h0 mv R:=by
 intro ρ X w vals hr ha
 have hvl:=cW ha
 refine (callsIn_wide (n:=0)).1 (callsIn_of_wp_marks hf hb trivial ?_)
 have hg:Good ρ X w cx.fx fn.ntmps ⟨aV 0 args,h0,0⟩ { tmps:=vals.toArray++yaf (fn.ntmps-vals.toArray.size) undef,defers:=[] } w :=
  ⟨ρ,⟨⟨Fr.refl _ _,fun _ _=>rfl⟩,hfx⟩,⟨hr,Kv ha _⟩,by simp;omega,Marks.nil⟩
 have hend:∀ s,cE cx.fx h0.length rs R s→∀ a w',Good ρ X w cx.fx fn.ntmps s a w'→∃ v,(results fn a.tmps).run P w'=.ok v w'∧∃ val r h' ρ',Ending.returned v=.returned val∧(R r h'∧h0.length≤h'.length)∧Fr ρ w ρ' w'∧Rep ρ' X w' h'∧aM ρ' X w' r val ∧
   ∀ k,k<h0.length→k∉mv→ρ' k=ρ k:=by
  intro s hret a w' hgood
  obtain ⟨ρ',⟨⟨hf1,hfx1⟩,hk1⟩,⟨hr1,he1⟩,hN1,hd1⟩:=hgood
  obtain ⟨xs,vs,h5,h6,h7⟩:=u9 hr1 he1 fn.results.toList rs [] [] hres trivial hret
  obtain ⟨p,⟨h8,h9,h10,h11,h12⟩,h13⟩:=h5
  refine ⟨Ct vs,Di h4 h7,_,_,p,dC ρ' p,rfl,⟨h13,h10⟩,hf1.trans pX,Bu hr1 h8 h12,?_,fun k hk hkm=>?_⟩
  ·exact f9 _ _ h11 (Qx (by simpa using h6))
  ·have hkf:=hmv k hk hkm
   rw [cL (aP h9 k hkf)]
   exact hfx1 k hkf
 refine Qd (P:=P) (X:=X) (N:=fn.ntmps) hP c l0 l hm none cx ρ w hcx (.inl rfl) (by unfold ROk;rw [hk];trivial) (fun k=>by rw [hy];exact xR) _ (cE cx.fx h0.length rs R) (fun _ _=>False) (cE cx.fx h0.length rs R) ?_ ?_ (fun _ _ _ _ hx _=>hx.elim) ?_ _ _ _ h hg
 ·rintro ⟨a,w',val,_,_,_,hq,_⟩
  cases hq
 ·intro s a w' hret hgood
  exact yY (hend s hret) a.defers a w' rfl hgood
 ·intro s a w' hret hgood
  exact yY (hend s hret) a.defers a w' rfl hgood
def rlF (P:Program) (f:FuncId) (l0:LCode):Option (LCode × List d7 × Nat) :=
 match P.funcs[f]? with
 | some fn=>match fn.body,yK P fn.results.toList,decide (fn.results.toList.length≤4)&&!(fn.name == "runtime.NumGoroutine") with
  | some c,some rs,true=>(rlC P fn.ntmps c l0).map fun l=>(l,rs,fn.ntmps)
  | _,_,_=>none
 | none=>none
theorem pE {P:Program} {f:FuncId} {l0 l:LCode} {rs:List d7} {nt:Nat} (h:rlF P f l0=some (l,rs,nt)):fE P f:=by
 unfold rlF at h
 split at h
 ·rename_i fn hf
  split at h
  ·rename_i c rs' hb hr ht
   simp only [yac,yaz,decide_eq_true_eq] at ht
   exact ⟨fn,hf,ht.2,by simp [hb]⟩
  ·cases h
 ·cases h
theorem aeA {P:Program} (hP:P.follows .mixedOrders=true) {cx:Cx} (hcx:cx.ok P) {f:FuncId} {l0 l:LCode} {rs:List d7} {nt:Nat} (hl:rlF P f l0=some (l,rs,nt))
  {args:List V} {h0:List Blk} {mv:List Nat} {R:V→List Blk→Prop} (hlen:args.length≤nt) (hfx:aJ cx.fx h0) (hmv:∀ k,k<h0.length→k∉mv→k∈cx.fx)
  (h:aw cx l (cE cx.fx h0.length rs R) (fun _ _=>False) (cE cx.fx h0.length rs R) ⟨aV 0 args,h0,0⟩) (hy:cx.y=fun _ _ _ _=>False:=by rfl) (hk:cx.rk=none:=by rfl):Fn P f args h0 mv R:=by
 unfold rlF at hl
 split at hl
 ·rename_i fn hf
  split at hl
  ·rename_i c rs' hb hr ht
   simp only [yac,yaz,decide_eq_true_eq] at ht
   cases hm:rlC P fn.ntmps c l0 with
   | none=>simp [hm] at hl
   | some l1 =>
    simp only [hm,Option.map_some,yaa,Prod.mk.injEq] at hl
    obtain ⟨rfl,rfl,rfl⟩:=hl
    exact aeB hP hcx hf hb hm hr ht.1 hlen hfx hmv h hy hk
  ·cases hl
 ·cases hl
end
end Go.Fx
namespace Go.Fx
open Go.RowKit Go.ChangeShapes Go.WideShapes
def WfV:T→V→Prop
 | .st fs,x=>∃ cs,yC fs cs∧x=.agg cs
 | .int k,x=>WfT (.int k) [x]
 | .bool,x=>WfT .bool [x]
 | .str,x=>WfT .str [x]
 | .sl sz e,x=>WfT (.sl sz e) [x]
def WfA:List T→List V→Prop
 | [],xs=>xs=[]
 | t::ts,xs=>∃ x r,xs=x::r∧WfV t x∧WfA ts r
def Jr (P:Program):List TypeId→Option (List T)
 | []=>some []
 | t::ts=>match xX P 20 t,Jr P ts with
  | some x,some r=>some (x::r)
  | _,_=>none
def Fq:Nat→Loc:=fun _=>⟨false,0,0,0,0,default⟩
theorem u7 (b:Nat):¬Own Fq b:=fun ⟨_,h,_⟩=>by simp [Fq] at h
theorem Ms (w:World) (ht:(∀ b,Tb b→b<w.heap.size)∧Qg w):Rep Fq (fun _=>False) w [] :=
 ⟨fun j k _ h=>by simp [Fq] at h,fun _ _=>rfl,fun k b h=>by simp at h,fun _ h=>(u7 _ h).elim,fun k h=>by simp [Fq] at h,⟨fun b hb=>hb.elim (fun h=>h.elim) (ht.1 b),ht.2⟩⟩
section
variable {P:Program} {w:World} {ρ:Nat→Loc} {X:Nat→Prop}
theorem xS:∀ {x:V} {u:Value},eL (Sta ρ X w) w x u→aM ρ X w x u
 | .v _,_,h=>h.1
 | .ro _ _,_,h=>h
 | .any,_,h|.bro _ _,_,h|.full _ _,_,h|.sl _ _ _,_,h|.ptr _ _ _,_,h|.rp _ _ _ _,_,h|.agg _,_,h|.tup _,_,h|.clo _ _,_,h|.mp _,_,h|.itr _,_,h=>h.elim
theorem Cj:∀ {xs:List V} {us:List Value},mM (Sta ρ X w) w xs us→bA ρ X w xs us
 | [],[],_=>trivial
 | _::_,_::_,h=>⟨xS h.1,Cj h.2⟩
 | [],_::_,h=>h.elim
 | _::_,[],h=>h.elim
theorem cells_one {v u:Value} (h:v.cells.toList=[u]) (hn:∀ cs,v≠.agg cs):u=v:=by
 cases v<;>simp_all [Value.cells]
variable {H:Type} {enc:TypeId × Value→H} {base:Nat} {spare:Nat→Bool} {held:Bool}
theorem Tq {n:Nat} {t:TypeId} {ty:T} {v:Value} {r:Reach} {b:Nat} {d:DataW H} {p:List MemPlace} (hS:∀ b,b<w.heap.size→Sta ρ X w b) (ht:xX P n t=some ty)
  (hok:Value.okWide P w r b t v) (h:DataW.Trod enc P w base spare held t v d p):∃ x,WfV ty x∧aM ρ X w x v:=by
 obtain ⟨fuel,h⟩:=h
 obtain ⟨xs,h1,h2⟩:=o7 hS fuel n t ty _ _ ht h
 cases n with
 | zero=>simp [xX] at ht
 | succ n =>
  unfold Value.okWide at hok
  simp only [xX] at ht
  split at ht
  ·rename_i hu
   simp only [yaa] at ht
   subst ht
   obtain ⟨c,rfl⟩:=h1
   have hl:=iA h2
   obtain ⟨u,hu'⟩:∃ u,v.cells.toList=[u]:=yas.1 hl.symm
   have hv:=cells_one hu' (fun cs hc=>by subst hc;simp [hu,Cell.okWide,Cell.ok] at hok)
   subst hv
   rw [hu'] at h2
   exact ⟨_,⟨c,rfl⟩,xS h2.1⟩
  ·rename_i k hu
   simp only [yaa] at ht
   subst ht
   obtain ⟨c,rfl,hc⟩:=h1
   have hl:=iA h2
   obtain ⟨u,hu'⟩:∃ u,v.cells.toList=[u]:=yas.1 hl.symm
   have hv:=cells_one hu' (fun cs hc=>by subst hc;simp [hu,Cell.okWide,Cell.ok] at hok)
   subst hv
   rw [hu'] at h2
   exact ⟨_,⟨c,rfl,hc⟩,xS h2.1⟩
  ·rename_i hu
   simp only [yaa] at ht
   subst ht
   obtain ⟨c,rfl,hc⟩:=h1
   have hl:=iA h2
   obtain ⟨u,hu'⟩:∃ u,v.cells.toList=[u]:=yas.1 hl.symm
   have hv:=cells_one hu' (fun cs hc=>by subst hc;simp [hu,Cell.okWide,Cell.ok] at hok)
   subst hv
   rw [hu'] at h2
   exact ⟨_,⟨c,rfl,hc⟩,xS h2.1⟩
  ·rename_i e hu
   split at ht
   ·rename_i te _
    split at ht
    ·simp only [yaa] at ht
     subst ht
     obtain ⟨c,rfl,hc⟩:=h1
     have hl:=iA h2
     obtain ⟨u,hu'⟩:∃ u,v.cells.toList=[u]:=yas.1 hl.symm
     have hv:=cells_one hu' (fun cs hc=>by subst hc;simp [hu,Cell.okWide,Cell.ok] at hok)
     subst hv
     rw [hu'] at h2
     exact ⟨_,⟨c,rfl,hc⟩,xS h2.1⟩
    ·cases ht
   ·cases ht
  ·rename_i fs hu
   split at ht
   ·split at ht
    ·simp only [yaa] at ht
     subst ht
     simp only [hu] at hok
     obtain ⟨cs,rfl,_⟩:=hok
     exact ⟨.agg xs,⟨xs,h1,rfl⟩,cs,rfl,Cj (by simpa [Value.cells] using h2)⟩
    ·cases ht
   ·cases ht
  ·rename_i m e hu
   split at ht
   ·split at ht
    ·simp only [yaa] at ht
     subst ht
     simp only [hu] at hok
     obtain ⟨cs,rfl,_⟩:=hok
     exact ⟨.agg xs,⟨xs,h1,rfl⟩,cs,rfl,Cj (by simpa [Value.cells] using h2)⟩
    ·cases ht
   ·cases ht
  ·cases ht
theorem Ev (hS:∀ b,b<w.heap.size→Sta ρ X w b):∀ (ts:List TypeId) (tys:List T) (vs:List Value) (ds:List (DataW H)) (p:List MemPlace),Jr P ts=some tys →
  (∀ (j:Nat) t v,ts[j]?=some t→vs[j]?=some v→Value.okWide P w .any base t v)→DataW.TrodAll enc P w 0 spare held ts vs ds p→∃ xs,WfA tys xs∧bA ρ X w xs vs∧ds.length=tys.length
 | [],tys,vs,ds,p,ht,hok,h=>by
  simp only [Jr,yaa] at ht
  subst ht
  obtain ⟨rfl,rfl,rfl⟩:=trodAll_nil h
  exact ⟨[],rfl,trivial,rfl⟩
 | t::ts,tys,vs,ds,p,ht,hok,h=>by
  simp only [Jr] at ht
  split at ht
  ·rename_i ty tr h1 h2
   simp only [yaa] at ht
   subst ht
   obtain ⟨v,vs1,d,ds1,a,b,rfl,rfl,rfl,h3,h4⟩:=trodAll_cons h
   obtain ⟨x,h5,h6⟩:=Tq hS h1 (hok 0 t v rfl rfl) h3
   obtain ⟨xs,h7,h8,h9⟩:=Ev hS ts tr vs1 ds1 b h2 (fun j t v h1 h2=>hok (j+1) t v (by simpa using h1) (by simpa using h2)) h4
   exact ⟨x::xs,⟨x,xs,rfl,h5,h7⟩,⟨h6,h8⟩,by simp [h9]⟩
  ·cases ht
theorem nU (hl:laidOutB P=true) {W W':World} (hb:Below W.heap.size W W'):∀ (ts:List TypeId) (vs:List Value) (ds:List (DataW H)) (p:List MemPlace),(∀ t∈ts,P.readableRec t=true∧t<P.types.size) →
  DataW.TrodAll enc P W 0 (fun _=>true) true ts vs ds p→(∀ x∈p,x.block<W.heap.size)→DataW.TrodAll enc P W' 0 (fun b=>decide (b<W.heap.size)) true ts vs ds p
 | [],vs,ds,p,_,h,_=>by
  obtain ⟨rfl,rfl,rfl⟩:=trodAll_nil h
  rfl
 | t::ts,vs,ds,p,hr,h,hlt=>by
  obtain ⟨v,vs1,d,ds1,a,b,rfl,rfl,rfl,h3,h4⟩:=trodAll_cons h
  exact trodAll_cons_mk (Below.trod hl (hr t yah).1 (hr t yah).2 h3 hb (fun x hx=>hlt x (yaH _ hx)))
   (nU hl hb ts vs1 ds1 b (fun t ht=>hr t (yae _ ht)) h4 (fun x hx=>hlt x (yaI _ hx)))
theorem o8 (hl:laidOutB P=true) {W W':World} (hb:Below W.heap.size W W'):∀ (ts:List TypeId) (vs:List Value) (ds:List (DataW H)) (p:List MemPlace),(∀ t∈ts,P.readableRec t=true∧t<P.types.size) →
  DataW.TrodAll enc P W 0 (fun _=>true) true ts vs ds p→(∀ x∈p,x.block<W.heap.size)→DataW.TrodAll enc P W' 0 (fun _=>true) true ts vs ds p
 | [],vs,ds,p,_,h,_=>by
  obtain ⟨rfl,rfl,rfl⟩:=trodAll_nil h
  rfl
 | t::ts,vs,ds,p,hr,h,hlt=>by
  obtain ⟨v,vs1,d,ds1,a,b,rfl,rfl,rfl,h3,h4⟩:=trodAll_cons h
  exact trodAll_cons_mk (WideElems.Trod_stays hl (hr t yah).1 (hr t yah).2 h3 (fun x hx=>hb.same (hlt x (yaH _ hx))) (fun _ _=>rfl))
   (o8 hl hb ts vs1 ds1 b (fun t ht=>hr t (yae _ ht)) h4 (fun x hx=>hlt x (yaI _ hx)))
theorem Bl {f:FuncId} {fn:Func} {s:ChangeSpec} {tys:List T} {tb:TypeId} {apart fresh handsOn again:Bool}
  (hl:laidOutB P=true) (ht:Jr P fn.params.toList=some tys) (hread:(fn.params.toList.all fun t=>P.readableRec t&&decide (t<P.types.size))=true)
  (hres:fn.resultTypes=#[tb]) (hb:P.underlying tb=some .bool) (hvars:s.vars=[])
  (hspec:∀ (H:Type) (ds:List (DataW H)),ds.length=tys.length→s.fn H ds={ results:=[.lit (.bool true)],args:=ds })
  (hfn:∀ zas,WfA tys zas→Fn P f zas [] [] (fun r _=>r=.b true))
  (W:World) (base:Nat) (args:Array Value) (ds gs:List (DataW H)) (before:List MemPlace)
  (hval:∀ (j:Nat) t v,fn.params[j]?=some t→args[j]?=some v→Value.okWide P W .any base t v)
  (hW:DataW.Whole enc P fn.params.toList s.vars apart W args.toList ds gs before) (Wv:(∀ b,Tb b→b<W.heap.size)∧Qg W) :
  Calls P f args W fun e W'=>∃ v,e=.returned v∧s.post enc P fn apart fresh handsOn again W args v W':=by
 have hW':=hW
 obtain ⟨p,q,hA,hV,rfl,hfz,hnd⟩:=hW
 have hpl:=hW'.lt
 have hV0:gs=[]∧q=[]:=by
  rw [hvars] at hV
  cases gs with
  | nil=>exact ⟨rfl,hV⟩
  | cons _ _=>exact hV.elim
 obtain ⟨rfl,rfl⟩:=hV0
 obtain ⟨xs,h1,h2,h3⟩:=Ev (ρ:=Fq) (X:=fun _=>False) (fun b hb=>⟨hb,u7 b,fun h=>h⟩) fn.params.toList tys args.toList ds p ht (fun j t v h1 h2=>hval j t v (by simpa using h1) (by simpa using h2)) hA
 have hc:=hfn xs h1 Fq (fun _=>False) W args.toList (Ms W Wv) h2
 have harr:args.toList.toArray=args:=by simp
 rw [harr] at hc
 refine hc.mono fun e W' ⟨val,r,h',ρ',he,⟨hr,_⟩,hF,hR,hv,_⟩=>?_
 subst hr
 have hv:val=.bool true:=hv
 subst hv
 refine ⟨_,he,?_⟩
 have hbel:Below W.heap.size W W':=⟨hF.os,hF.tape,hF.output,hF.size,fun k hk=>(hF.keep k hk (u7 k)).1⟩
 have hsz:fn.resultTypes.size=1:=by rw [hres];rfl
 have hrl:(Value.bool true).resultList fn.resultTypes.size=[.bool true]:=by rw [hsz];rfl
 have hsp:s.fn H (ds++[])={ results:=[.lit (.bool true)],args:=ds }:=by rw [yaB];exact hspec H ds h3
 have hrd:∀ t∈fn.params.toList,P.readableRec t=true∧t<P.types.size:=by
  intro t ht
  have:=yak.1 hread t ht
  simpa using this
 have hplt:∀ x∈p,x.block<W.heap.size:=fun x hx=>hpl x (by simpa using hx)
 have hok:∀ (j:Nat) (t:TypeId) (r:Value),fn.resultTypes[j]?=some t→((Value.bool true).resultList fn.resultTypes.size)[j]?=some r→Value.okWide P W' .any 0 t r:=by
  intro j t r h4 h5
  rw [hrl] at h5
  rw [hres] at h4
  cases j with
  | zero =>
   simp only [yaj,yaa] at h5
   simp only [List.getElem?_toArray,yaj,yaa] at h4
   subst h4 h5
   simp [Value.okWide,hb,Cell.okWide,Cell.ok]
  | succ j=>simp at h5
 have hrt:∀ (b:Nat) (sp:Nat→Bool) (hd:Bool),DataW.TrodAll enc P W' b sp hd fn.resultTypes.toList ((Value.bool true).resultList fn.resultTypes.size) [.lit (.bool true)] []:=by
  intro b sp hd
  rw [hrl,hres]
  exact ⟨[],[],⟨1,by simp [DataW.trod,Value.cells,hb]⟩,rfl,rfl⟩
 refine ⟨ds,[],p++[],[],p,[],hW',?_,?_,?_,hbel.frame _,fun _=>⟨hok,ds.cons (.lit (.bool true)),[],p++[],?_,fun x hx _=>hx⟩⟩
 ·rw [hsp];exact hrt _ _ _
 ·rw [hsp];exact nU hl hbel _ _ _ _ hrd hA hplt
 ·rw [hsp,hvars];rfl
 ·refine ⟨p,[],?_,by rw [hvars];rfl,rfl,?_,hnd⟩
  ·have h6:=o8 hl hbel _ _ _ _ hrd hA hplt
   have h7:=trodAll_append h6 (hrt 0 (fun _=>true) true)
   simpa using h7
  ·intro b off hp
   have h8:=hfz b off hp
   rw [World.frozen?_of_block (w:=W) (hbel.block b (hpl _ hp))]
   exact h8
end
end Go.Fx
namespace Go.Fx
inductive Tr where
 | lf
 | nd (v:V) (l r:Tr)
 deriving Inhabited
def Tr.get:Tr→Nat→V
 | .lf,_=>.any
 | .nd v l r,i=>match i with
  | 0=>v
  | j+1=>if j%2=0 then l.get (j/2) else r.get (j/2)
def Tr.put:Nat→Tr→Nat→V→Tr
 | 0,t,_,_=>t
 | n+1,.lf,i,x=>match i with
  | 0=>.nd x .lf .lf
  | j+1=>if j%2=0 then .nd .any (Tr.put n .lf (j/2) x) .lf else .nd .any .lf (Tr.put n .lf (j/2) x)
 | n+1,.nd v l r,i,x=>match i with
  | 0=>.nd x l r
  | j+1=>if j%2=0 then .nd v (Tr.put n l (j/2) x) r else .nd v l (Tr.put n r (j/2) x)
def Tr.kill (M:List Nat):Tr→Tr
 | .lf=>.lf
 | .nd v l r=>.nd (Fx.kill M v) (l.kill M) (r.kill M)
theorem Tr.get_put:∀ (n:Nat) (t:Tr) (i:Nat) (x:V) (j:Nat),i<n→(Tr.put n t i x).get j=if j=i then x else t.get j
 | 0,_,_,_,_,h=>by omega
 | n+1,.lf,0,x,j,_=>by cases j<;>simp [Tr.put,Tr.get]
 | n+1,.nd v l r,0,x,j,_=>by cases j<;>simp [Tr.put,Tr.get]
 | n+1,.lf,i+1,x,j,h=>by
  simp only [Tr.put]
  split
  ·rename_i hi
   cases j with
   | zero=>simp [Tr.get]
   | succ j =>
    simp only [Tr.get]
    by_cases hj:j%2=0
    ·rw [if_pos hj,Tr.get_put n _ _ _ _ (by omega)]
     by_cases e:j=i
     ·subst e;simp
     ·rw [if_neg (by omega),if_neg (by omega)];simp [Tr.get]
    ·rw [if_neg hj,if_neg (by omega)]
  ·rename_i hi
   cases j with
   | zero=>simp [Tr.get]
   | succ j =>
    simp only [Tr.get]
    by_cases hj:j%2=0
    ·rw [if_pos hj,if_neg (by omega)]
    ·rw [if_neg hj,Tr.get_put n _ _ _ _ (by omega)]
     by_cases e:j=i
     ·subst e;simp
     ·rw [if_neg (by omega),if_neg (by omega)];simp [Tr.get]
 | n+1,.nd v l r,i+1,x,j,h=>by
  simp only [Tr.put]
  split
  ·rename_i hi
   cases j with
   | zero=>simp [Tr.get]
   | succ j =>
    simp only [Tr.get]
    by_cases hj:j%2=0
    ·rw [if_pos hj,Tr.get_put n _ _ _ _ (by omega),if_pos hj]
     by_cases e:j=i
     ·subst e;simp
     ·rw [if_neg (by omega),if_neg (by omega)]
    ·rw [if_neg hj,if_neg (by omega),if_neg hj]
  ·rename_i hi
   cases j with
   | zero=>simp [Tr.get]
   | succ j =>
    simp only [Tr.get]
    by_cases hj:j%2=0
    ·rw [if_pos hj,if_neg (by omega),if_pos hj]
    ·rw [if_neg hj,Tr.get_put n _ _ _ _ (by omega),if_neg hj]
     by_cases e:j=i
     ·subst e;simp
     ·rw [if_neg (by omega),if_neg (by omega)]
def Dy (h:List Blk) (k:Nat):Bool :=
 match h[k]? with
 | some .dead=>false
 | some _=>true
 | none=>false
mutual
def Yd (h:List Blk):V→Bool
 | .sl k _ _=>Dy h k
 | .ptr k _ _=>Dy h k
 | .mp k=>Dy h k
 | .itr k=>Dy h k
 | .agg cs=>Qu h cs
 | .tup cs=>Qu h cs
 | .clo _ cs=>Qu h cs
 | _=>true
def Qu (h:List Blk):List V→Bool
 | []=>true
 | x::r=>Yd h x&&Qu h r
end
instance (n:Nat) (l u m:Option Int):Decidable (bY n l u m):=by unfold bY;infer_instance
structure Res where
 x:V
 E:Tr
 h:List Blk
def one (E:Tr) (x:V) (h:List Blk):Option (List Res):=some [⟨x,E,h⟩]
end Go.Fx
namespace Go.Fx
open Go.RowKit
section
end
section
end
end Go.Fx
namespace Go.Fx
open Go.RowKit
def gone (h:List Blk):List Nat→List Nat
 | []=>[]
 | k::r=>if Dy h k then gone h r else k::gone h r
def Tr.wf (h:List Blk):Tr→Bool
 | .lf=>true
 | .nd v l r=>Yd h v&&(l.wf h&&r.wf h)
mutual
def aaQ (g:Nat→Option Nat):V→V
 | .sl k i n=>match g k with
  | some j=>.sl j i n
  | none=>.any
 | .ptr k i f=>match g k with
  | some j=>.ptr j i f
  | none=>.any
 | .mp k=>match g k with
  | some j=>.mp j
  | none=>.any
 | .itr k=>match g k with
  | some j=>.itr j
  | none=>.any
 | .agg cs=>.agg (Hy g cs)
 | .tup cs=>.tup (Hy g cs)
 | .clo f cs=>.clo f (Hy g cs)
 | x=>x
def Hy (g:Nat→Option Nat):List V→List V
 | []=>[]
 | x::r=>aaQ g x::Hy g r
end
def Tr.ren (g:Nat→Option Nat):Tr→Tr
 | .lf=>.lf
 | .nd v l r=>.nd (aaQ g v) (l.ren g) (r.ren g)
section
end
section
end
end Go.Fx
namespace Go.Fx
def rdK (x:V) (bn:List Nat):List Nat :=
 match x with
 | .ptr k _ _=>k::bn
 | _=>bn
def Ly (x:V) (K:List V→Prop):Prop :=
 match x with
 | .tup vs=>K vs
 | _=>False
def Kh (x:V) (K:V→Prop):Prop :=
 match x with
 | .ptr k i f=>K (.ptr k i f)
 | .clo f cs=>K (.clo f cs)
 | _=>False
def Px (x:V) (K:FuncId→List V→Prop):Prop :=
 match x with
 | .clo g cs=>K g cs
 | _=>False
def Dv (h:List Blk) (kd:TypeDesc) (key:Value) (z:Value) (ok:Bool) (m:V) (K:V→Prop):Prop :=
 match m with
 | .v (.map none)=>dS (some none) z ok K
 | m=>gO h m fun _ es _=>dS (dA kd key es 0) z ok K
mutual
theorem vW:∀ x:V,kill [] x=x
 | .any=>rfl
 | .v _=>rfl
 | .ro _ _=>rfl
 | .bro _ _=>rfl
 | .full _ _=>rfl
 | .rp _ _ _ _=>rfl
 | .sl _ _ _=>by simp [kill]
 | .ptr _ _ _=>by simp [kill]
 | .mp _=>by simp [kill]
 | .itr _=>by simp [kill]
 | .agg cs=>by simp [kill,gX cs]
 | .tup cs=>by simp [kill,gX cs]
 | .clo _ cs=>by simp [kill,gX cs]
theorem gX:∀ xs:List V,bK [] xs=xs
 | []=>rfl
 | x::r=>by simp [bK,vW x,gX r]
end
theorem gY:∀ e:Env,aB [] e=e
 | []=>rfl
 | (_,x)::r=>by simp [aB,vW x,gY r]
theorem nM (l:List Blk):l.map (aD [])=l:=by
 have:aD []=id:=by
  funext b
  cases b<;>simp [aD,gX,vW,gY,funext gX]
 simp [this]
section
variable {cx:Cx} {e:Env} {h:List Blk} {b:Nat} {K:V→St→Prop} {Ks:St→Prop} {N R:St→Prop} {X:Nat→St→Prop} {d:Option Nat} {op:LOp}
theorem kR {d:Nat} {x:V}:St.put ⟨e,h,b⟩ (some d) x=⟨(d,x)::e,h,b⟩:=rfl
theorem kS {x:V}:St.put ⟨e,h,b⟩ none x=⟨e,h,b⟩:=rfl
theorem zh:eR cx [] ⟨e,h,b⟩ Ks=Ks ⟨e,h,b⟩:=rfl
theorem zi {r:List bH}:eR cx (⟨d,op,none⟩::r) ⟨e,h,b⟩ Ks=aOp cx op ⟨e,h,b⟩ fun x s'=>eR cx r (s'.put d x) Ks:=rfl
theorem zj {g:Nat} {w:Bool} {r:List bH}:eR cx (⟨d,op,some (g,w)⟩::r) ⟨e,h,b⟩ Ks=iV (get e g) w
   (aOp cx op ⟨(g,.b w)::e,h,b⟩ fun x s'=>eR cx r (s'.put d x) Ks)
   (eR cx r (St.put ⟨(g,.b !w)::e,h,b⟩ d (.v (.tuple #[]))) Ks)
   (eR cx r (St.put ⟨e,h,b⟩ d (.v (.tuple #[]))) Ks):=rfl
theorem qa {x:Operand} {bn:List Nat}:rdB (.mov x) e bn=bn:=rfl
theorem zk {x:Operand}:aOp cx (.mov x) ⟨e,h,b⟩ K=K (ev e x) ⟨e,h,b⟩:=rfl
theorem qb {c x y:Operand} {bn:List Nat}:rdB (.pick c x y) e bn=bn:=rfl
theorem zm {c x y:Operand}:aOp cx (.pick c x y) ⟨e,h,b⟩ K=brV (ev e c) (K (ev e x) ⟨e,h,b⟩) (K (ev e y) ⟨e,h,b⟩):=rfl
theorem zn {j:Nat} {x:Operand}:aOp cx (.box j x) ⟨e,h,b⟩ K=cI (cells? (ev e x)) fun cs=>aG h (b+j)∧K (.ptr (b+j) 0 0) ⟨e,h.set (b+j) (.var cs),b⟩:=rfl
theorem zo {j:Nat} {z:Value}:aOp cx (.alloc j z) ⟨e,h,b⟩ K=cI (cells? (aA z)) fun cs=>aG h (b+j)∧K (.ptr (b+j) 0 0) ⟨e,h.set (b+j) (.var cs),b⟩:=rfl
theorem zp {n:Option Nat} {x:Operand}:aOp cx (.load n x) ⟨e,h,b⟩ K=f7 h n (ev e x) fun y=>K y ⟨e,h,b⟩:=rfl
theorem zq {n:Nat} {x y:Operand}:aOp cx (.store n x y) ⟨e,h,b⟩ K=cI (cells? (ev e y)) fun cs=>rF cx.bn h n (ev e x) cs fun h=>K (.v (.tuple #[])) ⟨e,h,b⟩:=rfl
theorem qc {n:Nat} {x:Operand} {bn:List Nat}:rdB (.fld n x) e bn=bn:=rfl
theorem zr {n:Nat} {x:Operand}:aOp cx (.fld n x) ⟨e,h,b⟩ K=x7 n (ev e x) fun y=>K y ⟨e,h,b⟩:=rfl
theorem qd {n:Nat} {x i:Operand} {bn:List Nat}:rdB (.idx n x i) e bn=bn:=rfl
theorem zt {n:Nat} {x i:Operand}:aOp cx (.idx n x i) ⟨e,h,b⟩ K=bN (ev e i) fun _ m=>v7 h n m (ev e x) fun y=>K y ⟨e,h,b⟩:=rfl
theorem qe {o:BinOp} {ex:Bool} {x y:Operand} {bn:List Nat}:rdB (.bin o ex x y) e bn=bn:=rfl
theorem zu {o:BinOp} {ex:Bool} {x y:Operand}:aOp cx (.bin o ex x y) ⟨e,h,b⟩ K=bN (ev e x) fun k a=>bN (ev e y) fun k' c=>k'=k∧bQ o ex k a c fun z=>K z ⟨e,h,b⟩:=rfl
theorem qf {x:Operand} {bn:List Nat}:rdB (.len x) e bn=bn:=rfl
theorem zv {x:Operand}:aOp cx (.len x) ⟨e,h,b⟩ K=vU (ev e x) fun y=>K y ⟨e,h,b⟩:=rfl
theorem qg {x:Operand} {bn:List Nat}:rdB (.lens x) e bn=bn:=rfl
theorem zw {x:Operand}:aOp cx (.lens x) ⟨e,h,b⟩ K=yX (ev e x) fun y=>K y ⟨e,h,b⟩:=rfl
theorem qh {x:Operand} {bn:List Nat}:rdB (.not x) e bn=bn:=rfl
theorem zx {x:Operand}:aOp cx (.not x) ⟨e,h,b⟩ K=nC (ev e x) fun t=>K (.b (!t)) ⟨e,h,b⟩:=rfl
theorem qi {x:Operand} {bn:List Nat}:rdB (.neg x) e bn=bn:=rfl
theorem zy {x:Operand}:aOp cx (.neg x) ⟨e,h,b⟩ K=bN (ev e x) fun k a=>K (.v (.int k (k.wrap (-a)))) ⟨e,h,b⟩:=rfl
theorem qj {ex:Bool} {k:IntKind} {x:Operand} {bn:List Nat}:rdB (.conv ex k x) e bn=bn:=rfl
theorem zA {ex:Bool} {k:IntKind} {x:Operand}:aOp cx (.conv ex k x) ⟨e,h,b⟩ K=bN (ev e x) fun _ a=>if ex then (lo k≤a∧a≤hi k)∧K (.v (.int k a)) ⟨e,h,b⟩ else K (.v (.int k (k.wrap a))) ⟨e,h,b⟩:=rfl
theorem qk {mx:Bool} {x y:Operand} {bn:List Nat}:rdB (.minmax mx x y) e bn=bn:=rfl
theorem zB {mx:Bool} {x y:Operand}:aOp cx (.minmax mx x y) ⟨e,h,b⟩ K=bN (ev e x) fun k a=>bN (ev e y) fun k' c=>k'=k∧K (.v (.int k (if mx then max a c else min a c))) ⟨e,h,b⟩:=rfl
theorem ql {f:FuncId} {cs:List Operand} {bn:List Nat}:rdB (.fn f cs) e bn=bn:=rfl
theorem zE {f:FuncId} {cs:List Operand}:aOp cx (.fn f cs) ⟨e,h,b⟩ K=K (.clo f (cs.map (ev e))) ⟨e,h,b⟩:=rfl
theorem qm {off:Nat} {n:Option Nat} {x:Operand} {bn:List Nat}:rdB (.field off n x) e bn=bn:=rfl
theorem zF {off:Nat} {n:Option Nat} {x:Operand}:aOp cx (.field off n x) ⟨e,h,b⟩ K=yB (ev e x) fun cs=>bM n off cs fun y=>K y ⟨e,h,b⟩:=rfl
theorem qn {z:Nat} {x:Operand} {l u m:Option Operand} {bn:List Nat}:rdB (.slice z x l u m) e bn=bn:=rfl
theorem zG {z:Nat} {x:Operand} {l u m:Option Operand}:aOp cx (.slice z x l u m) ⟨e,h,b⟩ K=rP (l.map (ev e)) fun l=>rP (u.map (ev e)) fun u=>rP (m.map (ev e)) fun m=>xY h z (ev e x) l u m fun y=>K y ⟨e,h,b⟩:=rfl
theorem qo {z:List Value} {ps:List (Nat × Nat × Operand)} {bn:List Nat}:rdB (.build z ps) e bn=bn:=rfl
theorem zH {z:List Value} {ps:List (Nat × Nat × Operand)}:aOp cx (.build z ps) ⟨e,h,b⟩ K=cP e (z.map .v) ps fun y=>K y ⟨e,h,b⟩:=rfl
theorem qp {neg:Bool} {x y:Operand} {bn:List Nat}:rdB (.eqb neg x y) e bn=bn:=rfl
theorem zI {neg:Bool} {x y:Operand}:aOp cx (.eqb neg x y) ⟨e,h,b⟩ K=nC (ev e x) fun a=>nC (ev e y) fun c=>K (.b (if neg then a != c else a==c)) ⟨e,h,b⟩:=rfl
theorem qq {neg:Bool} {ks:List (Nat × TypeDesc)} {x y:Operand} {bn:List Nat}:rdB (.eqf neg ks x y) e bn=bn:=rfl
theorem zJ {neg:Bool} {ks:List (Nat × TypeDesc)} {x y:Operand}:aOp cx (.eqf neg ks x y) ⟨e,h,b⟩ K=cI (q8 (ev e x)) fun xs=>cI (q8 (ev e y)) fun ys=>eG xs ys ks fun t=>K (.b (if neg then !t else t)) ⟨e,h,b⟩:=rfl
theorem qr {o:BinOp} {x y:Operand} {bn:List Nat}:rdB (.shift o x y) e bn=bn:=rfl
theorem zK {o:BinOp} {x y:Operand}:aOp cx (.shift o x y) ⟨e,h,b⟩ K=bN (ev e x) fun k a=>bN (ev e y) fun _ c=>b7 o k a c fun z=>K z ⟨e,h,b⟩:=rfl
theorem zL {neg:Bool} {x:Operand} {v:Value}:aOp cx (.eqn neg x (.const v)) ⟨e,h,b⟩ K=match aA v with|.v _=>x8 (ev e x) fun t=>K (.b (if neg then !t else t)) ⟨e,h,b⟩|_=>False:=rfl
theorem zM {j sz n:Nat} {z:List Value} {ps:List (Nat × Operand)}:aOp cx (.lits j sz n z ps) ⟨e,h,b⟩ K=dI e sz (yab n (z.map .v)) ps fun els=>aG h (b+j)∧K (.sl (b+j) 0 n) ⟨e,h.set (b+j) (.arr sz els),b⟩:=rfl
theorem zN {j sz bytes:Nat} {z:List Value} {l c:Operand}:aOp cx (.mk j sz bytes z l c) ⟨e,h,b⟩ K=bN (ev e l) fun _ a=>bN (ev e c) fun _ d=>((0≤a∧a≤d)∧(bytes:Int)*d≤281474976710656∧d≤9223372036854775807)∧aG h (b+j)∧K (.sl (b+j) 0 a.toNat) ⟨e,h.set (b+j) (.arr sz (yab a.toNat (z.map .v))),b⟩:=rfl
theorem zO {j sz bytes:Nat} {x y:Operand}:aOp cx (.append j sz bytes x y) ⟨e,h,b⟩ K=gH h (ev e y) fun sz' new=>(new=[]∨sz'=sz)∧tR cx.fx cx.bn (b+j) sz bytes ⟨e,h,b⟩ (ev e x) new K:=rfl
theorem zP {sz:Nat} {x y:Operand}:aOp cx (.copy sz x y) ⟨e,h,b⟩ K=gH h (ev e y) fun sz' new=>(new=[]∨sz'=sz)∧nZ cx.bn sz ⟨e,h,b⟩ (ev e x) new K:=rfl
theorem zQ {j sz bytes:Nat} {z:List Value} {l c:Operand}:aOp cx (.mkv j sz bytes z l c) ⟨e,h,b⟩ K=bN (ev e l) fun _ a=>bN (ev e c) fun _ c=>((0≤a∧a≤c)∧(bytes:Int)*c≤281474976710656∧c≤9223372036854775807)∧aG h (b+j)∧K (.sl (b+j) 0 a.toNat) ⟨e,h.set (b+j) (.arv sz (yab a.toNat (z.map .v))),b⟩:=rfl
theorem zR {kd:TypeDesc} {m k x:Operand}:aOp cx (.mset kd m k x) ⟨e,h,b⟩ K=vY kd (ev e k) fun key=>gO h (ev e m) fun c es t=>c∉cx.bn∧gI (dA kd key es 0) key (ev e x) es t fun B=>K (.v (.tuple #[])) ⟨e,h.set c B,b⟩:=rfl
theorem zT {j:Nat}:aOp cx (.mkmap j none) ⟨e,h,b⟩ K=(True∧aG h (b+j)∧K (.mp (b+j)) ⟨e,h.set (b+j) (.map [] 0),b⟩):=rfl
theorem zV {kd:TypeDesc} {z:Value} {ok:Bool} {m k:Operand}:aOp cx (.lookup kd z ok m k) ⟨e,h,b⟩ K=vY kd (ev e k) fun key=>Dv h kd key z ok (ev e m) fun x=>K x ⟨e,h,b⟩:=rfl
theorem zW {m:Operand}:aOp cx (.mlen m) ⟨e,h,b⟩ K=gO h (ev e m) fun _ es _=>K (.i es.length) ⟨e,h,b⟩:=rfl
theorem zX {j:Nat} {m:Operand}:aOp cx (.range j m) ⟨e,h,b⟩ K=gO h (ev e m) fun _ _ c=>aG h (b+j)∧K (.ptr (b+j) 0 0) ⟨e,h.set (b+j) (.it (ev e m) c [] c),b⟩:=rfl
theorem zY {i:Operand}:aOp cx (.next i) ⟨e,h,b⟩ K=itK h (ev e i) fun c m since seen last=>gO h m fun _ es t=>c∉cx.bn∧Dq es since seen last (K (.tup [.b false]) ⟨e,h,b⟩) fun key x born=>K (.tup [.b true,.v key,x]) ⟨e,h.set c (.it m since (seen++[born]) t),b⟩:=rfl
theorem zZ {i:Operand}:aOp cx (.entry i) ⟨e,h,b⟩ K=itK h (ev e i) fun _ m _ seen last=>gO h m fun _ es c=>last=c∧cI seen.getLast? fun st=>Kq (es.find? fun q=>q.2.2==st) fun x=>K x ⟨e,h,b⟩:=rfl
theorem qs {n sz:Nat} {x i:Operand} {bn:List Nat}:rdB (.prim (.pidx n sz) [x,i]) e bn=bn:=rfl
theorem ka {n sz:Nat} {x i:Operand}:aOp cx (.prim (.pidx n sz) [x,i]) ⟨e,h,b⟩ K=bN (ev e i) fun _ j=>(0≤j∧j<n)∧x7 (j.toNat*sz) (ev e x) fun y=>K y ⟨e,h,b⟩:=rfl
theorem qt {n:Nat} {x:Operand} {bn:List Nat}:rdB (.prim (.pslc n false false false) [x]) e bn=bn:=rfl
theorem kb {n:Nat} {x:Operand}:aOp cx (.prim (.pslc n false false false) [x]) ⟨e,h,b⟩ K=fG h n (ev e x) none none none fun y=>K y ⟨e,h,b⟩:=rfl
theorem qu {n:Nat} {x l:Operand} {bn:List Nat}:rdB (.prim (.pslc n true false false) [x,l]) e bn=bn:=rfl
theorem kc {n:Nat} {x l:Operand}:aOp cx (.prim (.pslc n true false false) [x,l]) ⟨e,h,b⟩ K=bN (ev e l) fun _ l=>fG h n (ev e x) (some l) none none fun y=>K y ⟨e,h,b⟩:=rfl
theorem qv {n:Nat} {x u:Operand} {bn:List Nat}:rdB (.prim (.pslc n false true false) [x,u]) e bn=bn:=rfl
theorem ke {n:Nat} {x u:Operand}:aOp cx (.prim (.pslc n false true false) [x,u]) ⟨e,h,b⟩ K=bN (ev e u) fun _ u=>fG h n (ev e x) none (some u) none fun y=>K y ⟨e,h,b⟩:=rfl
theorem qw {n:Nat} {x l u:Operand} {bn:List Nat}:rdB (.prim (.pslc n true true false) [x,l,u]) e bn=bn:=rfl
theorem kf {n:Nat} {x l u:Operand}:aOp cx (.prim (.pslc n true true false) [x,l,u]) ⟨e,h,b⟩ K=bN (ev e l) fun _ l=>bN (ev e u) fun _ u=>fG h n (ev e x) (some l) (some u) none fun y=>K y ⟨e,h,b⟩:=rfl
theorem qx {n:Nat} {x l u m:Operand} {bn:List Nat}:rdB (.prim (.pslc n true true true) [x,l,u,m]) e bn=bn:=rfl
theorem kg {n:Nat} {x l u m:Operand}:aOp cx (.prim (.pslc n true true true) [x,l,u,m]) ⟨e,h,b⟩ K=bN (ev e l) fun _ l=>bN (ev e u) fun _ u=>bN (ev e m) fun _ m=>fG h n (ev e x) (some l) (some u) (some m) fun y=>K y ⟨e,h,b⟩:=rfl
theorem qy {neg:Bool} {x y:Operand} {bn:List Nat}:rdB (.prim (.peq neg) [x,y]) e bn=bn:=rfl
theorem kh {neg:Bool} {x y:Operand}:aOp cx (.prim (.peq neg) [x,y]) ⟨e,h,b⟩ K=x5 (ev e x) (ev e y) fun t=>K (.b (if neg then !t else t)) ⟨e,h,b⟩:=rfl
theorem qz {n sz:Nat} {x i:Operand} {bn:List Nat}:rdB (.prim (.aidx n sz true) [x,i]) e bn=bn:=rfl
theorem kj {n sz:Nat} {x i:Operand}:aOp cx (.prim (.aidx n sz true) [x,i]) ⟨e,h,b⟩ K=bN (ev e i) fun _ j=>(0≤j∧j<n)∧yB (ev e x) fun cs=>bM (some sz) (j.toNat*sz) cs fun y=>K y ⟨e,h,b⟩:=rfl
theorem qA {n sz:Nat} {x i:Operand} {bn:List Nat}:rdB (.prim (.aidx n sz false) [x,i]) e bn=bn:=rfl
theorem kn {n sz:Nat} {x i:Operand}:aOp cx (.prim (.aidx n sz false) [x,i]) ⟨e,h,b⟩ K=bN (ev e i) fun _ j=>(0≤j∧j<n)∧yB (ev e x) fun cs=>bM none (j.toNat*sz) cs fun y=>K y ⟨e,h,b⟩:=rfl
theorem qB {neg:Bool} {ks:List (Nat × TypeDesc)} {x y:Operand} {bn:List Nat}:rdB (.prim (.aeq neg ks) [x,y]) e bn=bn:=rfl
theorem ko {neg:Bool} {ks:List (Nat × TypeDesc)} {x y:Operand}:aOp cx (.prim (.aeq neg ks) [x,y]) ⟨e,h,b⟩ K=cI (q8 (ev e x)) fun xs=>cI (q8 (ev e y)) fun ys=>eG xs ys ks fun t=>K (.b (if neg then !t else t)) ⟨e,h,b⟩:=rfl
theorem qC {x i:Operand} {bn:List Nat}:rdB (.prim .sidx [x,i]) e bn=bn:=rfl
theorem kp {x i:Operand}:aOp cx (.prim .sidx [x,i]) ⟨e,h,b⟩ K=gC (ev e x) fun t=>bN (ev e i) fun _ j=>0≤j∧cI t[j.toNat]? fun c=>K (.v (.int .u8 c.toNat)) ⟨e,h,b⟩:=rfl
theorem qD {x:Operand} {bn:List Nat}:rdB (.prim (.sslc false false) [x]) e bn=bn:=rfl
theorem kq {x:Operand}:aOp cx (.prim (.sslc false false) [x]) ⟨e,h,b⟩ K=gC (ev e x) fun t=>mH t none none fun y=>K y ⟨e,h,b⟩:=rfl
theorem qE {x l:Operand} {bn:List Nat}:rdB (.prim (.sslc true false) [x,l]) e bn=bn:=rfl
theorem kr {x l:Operand}:aOp cx (.prim (.sslc true false) [x,l]) ⟨e,h,b⟩ K=gC (ev e x) fun t=>bN (ev e l) fun _ l=>mH t (some l) none fun y=>K y ⟨e,h,b⟩:=rfl
theorem qF {x u:Operand} {bn:List Nat}:rdB (.prim (.sslc false true) [x,u]) e bn=bn:=rfl
theorem kv {x u:Operand}:aOp cx (.prim (.sslc false true) [x,u]) ⟨e,h,b⟩ K=gC (ev e x) fun t=>bN (ev e u) fun _ u=>mH t none (some u) fun y=>K y ⟨e,h,b⟩:=rfl
theorem qG {x l u:Operand} {bn:List Nat}:rdB (.prim (.sslc true true) [x,l,u]) e bn=bn:=rfl
theorem kw {x l u:Operand}:aOp cx (.prim (.sslc true true) [x,l,u]) ⟨e,h,b⟩ K=gC (ev e x) fun t=>bN (ev e l) fun _ l=>bN (ev e u) fun _ u=>mH t (some l) (some u) fun y=>K y ⟨e,h,b⟩:=rfl
theorem qH {o:BinOp} {x y:Operand} {bn:List Nat}:rdB (.prim (.sbin o) [x,y]) e bn=bn:=rfl
theorem kx {o:BinOp} {x y:Operand}:aOp cx (.prim (.sbin o) [x,y]) ⟨e,h,b⟩ K=gC (ev e x) fun t=>gC (ev e y) fun u=>iX o t u fun y=>K y ⟨e,h,b⟩:=rfl
theorem qI {mx:Bool} {x:Operand} {xr:List Operand} {bn:List Nat}:rdB (.prim (.mm mx) (x::xr)) e bn=bn:=rfl
theorem ky {mx:Bool} {x:Operand} {xr:List Operand}:aOp cx (.prim (.mm mx) (x::xr)) ⟨e,h,b⟩ K=mmP mx (ev e x) (xr.map (ev e)) fun y=>K y ⟨e,h,b⟩:=rfl
theorem qJ {g n:Nat} {i:Operand} {bn:List Nat}:rdB (.prim (.gidx g n) [i]) e bn=bn:=rfl
theorem kz {g n:Nat} {i:Operand}:aOp cx (.prim (.gidx g n) [i]) ⟨e,h,b⟩ K=bN (ev e i) fun _ j=>(0≤j∧j<n)∧cI (Cu g n) fun cs=>K (.rp 1 (cs.map fun v=>[.v v]) j.toNat 0) ⟨e,h,b⟩:=rfl
theorem qK {n:Nat} {x:Operand} {bn:List Nat}:rdB (.prim (.s2a n) [x]) e bn=bn:=rfl
theorem kB {n:Nat} {x:Operand}:aOp cx (.prim (.s2a n) [x]) ⟨e,h,b⟩ K=Fm n (ev e x) fun y=>K y ⟨e,h,b⟩:=rfl
theorem qL {x:Operand} {bn:List Nat}:rdB (.prim .cpl [x]) e bn=bn:=rfl
theorem kC {x:Operand}:aOp cx (.prim .cpl [x]) ⟨e,h,b⟩ K=bN (ev e x) fun k j=>bQ .xor false k (if k.signed then -1 else k.max) j fun y=>K y ⟨e,h,b⟩:=rfl
theorem kD {sz j:Nat} {z:List Value} {x:Operand}:aOp cx (.eff (.clr sz z) j [x]) ⟨e,h,b⟩ K=Eq cx.bn sz z (ev e x) ⟨e,h,b⟩ K:=rfl
theorem kF {ks:List (Nat × TypeDesc)} {z:Value} {ok:Bool} {j:Nat} {m k:Operand}:aOp cx (.eff (.look ks z ok) j [m,k]) ⟨e,h,b⟩ K=rR ks (ev e k) fun us=>mV h ks us z ok (ev e m) fun x=>K x ⟨e,h,b⟩:=rfl
theorem kG {ks:List (Nat × TypeDesc)} {j:Nat} {m k x:Operand}:aOp cx (.eff (.mset ks) j [m,k,x]) ⟨e,h,b⟩ K=rR ks (ev e k) fun us=>gO h (ev e m) fun c es t=>(c∉cx.bn∧sW ks es)∧gI (some (gE us es 0)) (.agg us.toArray) (ev e x) es t fun B=>K (.v (.tuple #[])) ⟨e,h.set c B,b⟩:=rfl
theorem kH {j:Nat} {x:Operand}:aOp cx (.eff .b2s j [x]) ⟨e,h,b⟩ K=gH h (ev e x) fun sz els=>(els=[]∨sz=1)∧cI (bytesOf els) fun l=>K (.v (.string ⟨l.toArray⟩)) ⟨e,h,b⟩:=rfl
theorem kI {g n j:Nat}:aOp cx (.eff (.gload g n) j []) ⟨e,h,b⟩ K=cI (Cu g n) fun cs=>K (.agg (cs.map .v)) ⟨e,h,b⟩:=rfl
theorem kJ {j:Nat} {x y:Operand}:aOp cx (.eff .cps j [x,y]) ⟨e,h,b⟩ K=gC (ev e y) fun t=>nZ cx.bn 1 ⟨e,h,b⟩ (ev e x) (dO t) K:=rfl
theorem kK {bytes j:Nat} {x y:Operand}:aOp cx (.eff (.aps bytes) j [x,y]) ⟨e,h,b⟩ K=gC (ev e y) fun t=>tR cx.fx cx.bn (b+j) 1 bytes ⟨e,h,b⟩ (ev e x) (dO t) K:=rfl
theorem kL {sz n j:Nat} {z:List Value} {ix:List Nat} {xs:List Operand}:aOp cx (.eff (.litv sz n z ix) j xs) ⟨e,h,b⟩ K=((xs.map (ev e)).length=ix.length∧Dz sz (yab n (z.map .v)) (ix.zip (xs.map (ev e))) fun els=>aG h (b+j)∧K (.sl (b+j) 0 n) ⟨e,h.set (b+j) (.arv sz els),b⟩):=rfl
theorem kM {sz bytes j:Nat} {x y:Operand}:aOp cx (.eff (.appv sz bytes) j [x,y]) ⟨e,h,b⟩ K=Au h (ev e y) fun sz' new=>(sz'=sz∧new≠[]∧(new.all fun r=>r.all isC)=true)∧Jo cx.fx cx.bn (b+j) sz bytes ⟨e,h,b⟩ (ev e x) new K:=rfl
theorem kN {f:FuncId} {xs:List Operand}:aOp cx (.call f xs) ⟨e,h,b⟩ K=cB cx f (xs.map (ev e)) ⟨e,h,b⟩ K:=rfl
theorem qM {x:Operand} {i:Nat} {bn:List Nat}:rdB (.ext x i) e bn=bn:=rfl
theorem qN {x:Operand} {bn:List Nat}:rdB (.nilc x) e bn=bn:=rfl
theorem qO {t:Bool} {x y:Operand} {bn:List Nat}:rdB (.eqn t x y) e bn=bn:=rfl
theorem qP {n:Option Nat} {x:Operand} {bn:List Nat}:rdB (.load n x) e bn=rdK (ev e x) bn:=by
 show (match ev e x with|.ptr k _ _=>k::bn|_=>bn)=_
 unfold rdK
 cases ev e x<;>rfl
theorem kO {x:Operand} {i:Nat}:aOp cx (.ext x i) ⟨e,h,b⟩ K=Ly (ev e x) fun vs=>cI vs[i]? fun y=>K y ⟨e,h,b⟩:=by
 simp only [aOp,Ly];split<;>simp_all
theorem kP {x:Operand}:aOp cx (.nilc x) ⟨e,h,b⟩ K=Kh (ev e x) fun y=>K y ⟨e,h,b⟩:=by
 simp only [aOp,Kh];split<;>simp_all
theorem kQ {f:Operand} {xs:List Operand}:aOp cx (.callv f xs) ⟨e,h,b⟩ K=Px (ev e f) fun g cs=>cB cx g (xs.map (ev e)++cs) ⟨e,h,b⟩ K:=by
 simp only [aOp,Px];split<;>simp_all
theorem qX:aw cx .skip N X R ⟨e,h,b⟩=N ⟨e,h,b⟩:=rfl
theorem qY {n:Nat} {l:List bH}:aw cx (.reg n l) N X R ⟨e,h,b⟩=eR cx l ⟨e,h++yab n .dead,h.length⟩ N:=rfl
theorem qZ {m n:Nat} {l:List bH}:aw cx (.tail m n l) N X R ⟨e,h,b⟩=eR cx l ⟨e,h++yab n .dead,h.length⟩ N:=rfl
theorem za {n:Nat} {l:List bH}:aw cx (.qui n l) N X R ⟨e,h,b⟩=eR cx l ⟨e,h++yab n .dead,h.length⟩ N:=rfl
theorem qQ {n:Nat} {p:LPlan}:aw cx (.tree n p) N X R ⟨e,h,b⟩=awP cx p [] N ⟨e,h++yab n .dead,h.length⟩:=rfl
theorem qR {bn:List Nat}:awP cx .done bn Ks ⟨e,h,b⟩=Ks ⟨e,h,b⟩:=rfl
theorem qS {bn:List Nat}:awP cx .none bn Ks ⟨e,h,b⟩=True:=rfl
theorem qT {i:Nat} {D bn:List Nat} {p:LPlan}:awP cx (.take i D ⟨d,op,none⟩ p) bn Ks ⟨e,h,b⟩=aOp cx op ⟨e,h,b⟩ fun x s'=>awP cx p (rdB op e bn) Ks (s'.put d x):=rfl
theorem qU {i g:Nat} {w:Bool} {D bn:List Nat} {p:LPlan}:awP cx (.take i D ⟨d,op,some (g,w)⟩ p) bn Ks ⟨e,h,b⟩=iV (get e g) w
   (aOp cx op ⟨(g,.b w)::e,h,b⟩ fun x s'=>awP cx p (rdB op e bn) Ks (s'.put d x))
   (awP cx p (rdB op e bn) Ks (St.put ⟨(g,.b !w)::e,h,b⟩ d (.v (.tuple #[]))))
   (awP cx p (rdB op e bn) Ks (St.put ⟨e,h,b⟩ d (.v (.tuple #[])))):=rfl
theorem qV {i:Nat} {r:Bool} {bn:List Nat} {p q:LPlan}:awP cx (.alt i ⟨d,op,none⟩ r p q) bn Ks ⟨e,h,b⟩ =
   ((aOp ⟨cx.C,cx.fx,if r then bn else [],cx.it,cx.y,cx.rk⟩ op ⟨e,h,b⟩ fun x s'=>awP cx p (if r then bn else []) Ks (s'.put d x))∧awP cx q bn Ks ⟨e,h,b⟩):=rfl
theorem qW {i g:Nat} {w r:Bool} {bn:List Nat} {p q:LPlan}:awP cx (.alt i ⟨d,op,some (g,w)⟩ r p q) bn Ks ⟨e,h,b⟩ =
   ((iV (get e g) w
     (aOp ⟨cx.C,cx.fx,if r then bn else [],cx.it,cx.y,cx.rk⟩ op ⟨(g,.b w)::e,h,b⟩ fun x s'=>awP cx p (if r then bn else []) Ks (s'.put d x))
     (awP cx p (if r then bn else []) Ks (St.put ⟨(g,.b !w)::e,h,b⟩ d (.v (.tuple #[]))))
     (awP cx p (if r then bn else []) Ks (St.put ⟨e,h,b⟩ d (.v (.tuple #[])))))∧awP cx q bn Ks ⟨e,h,b⟩):=rfl
theorem zb {x y:LCode}:aw cx (.seq x y) N X R ⟨e,h,b⟩=aw cx x (fun s'=>aw cx y N X R s') X R ⟨e,h,b⟩:=rfl
theorem zc {c:Operand} {x y:LCode}:aw cx (.cond c x y) N X R ⟨e,h,b⟩=brV (ev e c) (aw cx x N X R ⟨e,h,b⟩) (aw cx y N X R ⟨e,h,b⟩):=rfl
theorem zd {i:Nat} {x:LCode}:aw cx (.block i x) N X R ⟨e,h,b⟩=aw cx x N (fun j s'=>if j=i then N s' else X j s') R ⟨e,h,b⟩:=rfl
theorem ze {x:LCode}:aw cx (.loop x) N X R ⟨e,h,b⟩=yV cx.fx (fun N=>aw cx x N X R) ⟨e,h,b⟩:=rfl
theorem zf {i:Nat}:aw cx (.exit i) N X R ⟨e,h,b⟩=X i ⟨e,h,b⟩:=rfl
theorem zg:aw cx .ret N X R ⟨e,h,b⟩=R ⟨e,h,b⟩:=rfl
theorem wd {A B:Prop}:br true A B=A:=by simp [br]
theorem we {A B:Prop}:br false A B=B:=by simp [br]
theorem wc {t:Bool} {A B:Prop}:brV (.v (.bool t)) A B=br t A B:=rfl
theorem wg {t:Bool} {w:Bool} {A B C:Prop}:iV (.v (.bool t)) w A B C=if w then br t A B else br t B A:=rfl
theorem wh {w:Bool} {A B C:Prop}:iV (.v (.tuple #[])) w A B C=C:=rfl
theorem wa {k:IntKind} {a:Int} {K:IntKind→Int→Prop}:bN (.v (.int k a)) K=K k a:=rfl
theorem wb {a:Bool} {K:Bool→Prop}:nC (.v (.bool a)) K=K a:=rfl
theorem dW {fx:List Nat} {n:Nat} {rs:List d7} {R:V→List Blk→Prop}:cE fx n rs R ⟨e,h,b⟩=a8 h e rs [] fun xs=>∃ p,(leH h p∧aJ fx p∧n≤p.length∧wfV p (bF xs)∧wfB p p)∧R (bF xs) p:=rfl
theorem wj {fx:List Nat} {p:Env} {q:List Blk} {b':Nat}:leS fx ⟨e,h,b⟩ ⟨p,q,b'⟩=(leE e p∧leH h q∧aJ fx q∧wfE q p∧wfB q q):=rfl
end
section
variable {cx:Cx} {h:List Blk} {e:Env} {s:St} {fx bn:List Nat}
def Is (x:V):V→List Blk→Prop:=fun r h=>r=x∧h=[]
theorem wi {e:Env} {h:List Blk} {b:Nat} {rs:List d7} {x:V}:cE [] 0 rs (Is x) ⟨e,h,b⟩=a8 h e rs [] fun xs=>wfV [] (bF xs)∧bF xs=x:=by
 unfold cE Is
 simp only
 congr 1
 funext xs
 apply propext
 constructor
 ·rintro ⟨p,⟨_,_,_,h4,_⟩,h5,rfl⟩
  exact ⟨h4,h5⟩
 ·rintro ⟨h4,h5⟩
  exact ⟨[],⟨by unfold leH;trivial,trivial,yad _,h4,trivial⟩,h5,rfl⟩
theorem kT {t:Nat}:ev e (.tmp t)=get e t:=rfl
theorem kU {c:Value}:ev e (.const c)=aA c:=rfl
theorem kV {f:FuncId}:ev e (.func f)=.clo f []:=rfl
theorem kX {i:Nat}:get [] i=.any:=rfl
theorem kY {j i:Nat} {x:V} {r:Env}:get ((j,x)::r) i=if i=j then x else get r i:=rfl
theorem kZ {k:Nat}:blk h k=h.getD k .dead:=rfl
@[congr] theorem ahQ {α:Type} {o o':Option α} {K:α→Prop} (q:o=o'):cI o K=cI o' K:=by rw [q]
@[congr] theorem ahY {x x':V} {K:IntKind→Int→Prop} (q:x=x'):bN x K=bN x' K:=by rw [q]
@[congr] theorem aeW {x x':V} {K:Bool→Prop} (q:x=x'):nC x K=nC x' K:=by rw [q]
@[congr] theorem aiU {x x':V} {A B:Prop} (q:x=x'):brV x A B=brV x' A B:=by rw [q]
@[congr] theorem adN {x x':V} {w:Bool} {A B C:Prop} (q:x=x'):iV x w A B C=iV x' w A B C:=by rw [q]
@[congr] theorem aeN {n:Option Nat} {p p':V} {K:V→Prop} (q:p=p'):f7 h n p K=f7 h n p' K:=by rw [q]
@[congr] theorem aeO {n:Option Nat} {i f:Nat} {b b':Blk} {K:V→Prop} (q:b=b'):mI n i f b K=mI n i f b' K:=by rw [q]
@[congr] theorem adM {n:Option Nat} {f:Nat} {cs cs':List V} {K:V→Prop} (q:cs=cs'):bM n f cs K=bM n f cs' K:=by rw [q]
@[congr] theorem adJ {n:Nat} {p p':V} {cs cs':List V} {K:List Blk→Prop} (q:p=p') (q2:cs=cs'):rF bn h n p cs K=rF bn h n p' cs' K:=by rw [q,q2]
@[congr] theorem adK {n i f:Nat} {cs:List V} {b b':Blk} {K:Blk→Prop} (q:b=b'):lN n i f cs b K=lN n i f cs b' K:=by rw [q]
@[congr] theorem aiC {n:Nat} {x x':V} {K:V→Prop} (q:x=x'):x7 n x K=x7 n x' K:=by rw [q]
@[congr] theorem ahZ {z:Nat} {n n':Int} {x x':V} {K:V→Prop} (q:x=x') (q2:n=n'):v7 h z n x K=v7 h z n' x' K:=by rw [q,q2]
@[congr] theorem ahV {x x':V} {K:V→Prop} (q:x=x'):vU x K=vU x' K:=by rw [q]
@[congr] theorem aeQ {x x':V} {K:V→Prop} (q:x=x'):yX x K=yX x' K:=by rw [q]
@[congr] theorem aeD {x x':V} {K:Nat→List (List V)→Prop} (q:x=x'):gH h x K=gH h x' K:=by rw [q]
@[congr] theorem ahR {x x':Option V} {K:Option Int→Prop} (q:x=x'):rP x K=rP x' K:=by rw [q]
@[congr] theorem ahM {z:Nat} {x x':V} {l u m:Option Int} {K:V→Prop} (q:x=x'):xY h z x l u m K=xY h z x' l u m K:=by rw [q]
@[congr] theorem adO {acc acc':List V} {ps:List (Nat × Nat × Operand)} {K:V→Prop} (q:acc=acc'):cP e acc ps K=cP e acc' ps K:=by rw [q]
@[congr] theorem aeP {sz:Nat} {acc acc':List (List V)} {ps:List (Nat × Operand)} {K:List (List V)→Prop} (q:acc=acc'):dI e sz acc ps K=dI e sz acc' ps K:=by rw [q]
@[congr] theorem aiD {x x':V} {K:Bool→Prop} (q:x=x'):x8 x K=x8 x' K:=by rw [q]
@[congr] theorem aiJ {id sz bytes:Nat} {x x':V} {new new':List (List V)} {K:V→St→Prop} (q:x=x') (q2:new=new'):tR fx bn id sz bytes s x new K=tR fx bn id sz bytes s x' new' K:=by rw [q,q2]
@[congr] theorem aiK {k i n sz bytes:Nat} {new:List (List V)} {b b':Blk} {K:V→St→Prop} (q:b=b'):Ha fx bn k i n sz bytes s new b K=Ha fx bn k i n sz bytes s new b' K:=by rw [q]
@[congr] theorem adQ {id sz bytes:Nat} {old old' new:List (List V)} {K:V→St→Prop} (q:old=old'):nE id sz bytes s old new K=nE id sz bytes s old' new K:=by rw [q]
@[congr] theorem aeT {sz:Nat} {x x':V} {new:List (List V)} {K:V→St→Prop} (q:x=x'):nZ bn sz s x new K=nZ bn sz s x' new K:=by rw [q]
@[congr] theorem ahK {x x':V} {K:List V→Prop} (q:x=x'):Ly x K=Ly x' K:=by rw [q]
@[congr] theorem ahS {x x':V} {K:V→Prop} (q:x=x'):Kh x K=Kh x' K:=by rw [q]
@[congr] theorem aiI {x x':V} {K:FuncId→List V→Prop} (q:x=x'):Px x K=Px x' K:=by rw [q]
@[congr] theorem aiL {x x':V} {K:List V→Prop} (q:x=x'):yB x K=yB x' K:=by rw [q]
@[congr] theorem aeV {f:FuncId} {xs xs':List V} {s s':St} {K:V→St→Prop} (q:xs=xs') (q2:s=s'):cB cx f xs s K=cB cx f xs' s' K:=by rw [q,q2]
@[congr] theorem adP {op:BinOp} {ex:Bool} {k:IntKind} {a a' b b':Int} {K:V→Prop} (q:a=a') (q2:b=b'):bQ op ex k a b K=bQ op ex k a' b' K:=by rw [q,q2]
@[congr] theorem aiE {xs xs' ys ys':List V} {ks:List (Nat × TypeDesc)} {K:Bool→Prop} (q:xs=xs') (q2:ys=ys'):eG xs ys ks K=eG xs' ys' ks K:=by rw [q,q2]
@[congr] theorem aiT {kd:TypeDesc} {x x' y y':Option V} {K:Bool→Prop} (q:x=x') (q2:y=y'):eqC kd x y K=eqC kd x' y' K:=by rw [q,q2]
@[congr] theorem ahO {ls:List d7} {acc acc':List V} {K:List V→Prop} (q:acc=acc'):a8 h e ls acc K=a8 h e ls acc' K:=by rw [q]
@[congr] theorem aiV {p:LPlan} {s s':St} {Ks:St→Prop} (q:s=s'):awP cx p bn Ks s=awP cx p bn Ks s':=by rw [q]
@[congr] theorem aiM {l:List bH} {s s':St} {Ks:St→Prop} (q:s=s'):eR cx l s Ks=eR cx l s' Ks:=by rw [q]
@[congr] theorem aiX {c:LCode} {s s':St} {N R:St→Prop} {X:Nat→St→Prop} (q:s=s'):aw cx c N X R s=aw cx c N X R s':=by rw [q]
@[congr] theorem aiW {o:LOp} {s s':St} {K:V→St→Prop} (q:s=s'):aOp cx o s K=aOp cx o s' K:=by rw [q]
end
theorem aZ {fx:List Nat} {f:(St→Prop)→St→Prop} {s:St} {G:Type} (pat:G→St) (I:G→Prop) (μ:G→Nat) (g:G) (h0:I g) (h1:leS fx s (pat g))
  (h:∀ g,I g→f (fun s'=>∃ g',(I g'∧μ g'<μ g)∧leS fx s' (pat g')) (pat g)):yV fx f s :=
 ⟨G,pat,I,μ,leS fx,fun a _ h=>⟨a,.refl a,h⟩,⟨g,h0,_,.refl s,h1⟩,h⟩
theorem iO {fx:List Nat} {f:(St→Prop)→St→Prop} {s s0:St} {G:Type} (hg:dM fx s s0) (pat:G→St) (I:G→Prop) (μ:G→Nat) (g:G) (h0:I g) (h1:leS fx s0 (pat g))
  (h:∀ g,I g→f (fun s'=>∃ g',(I g'∧μ g'<μ g)∧leS fx s' (pat g')) (pat g)):yV fx f s :=
 ⟨G,pat,I,μ,leS fx,fun a _ h=>⟨a,.refl a,h⟩,⟨g,h0,s0,hg,h1⟩,h⟩
theorem lZ {cx:Cx} {f:FuncId} {args:List V} {e:Env} {h:List Blk} {b:Nat} {K:V→St→Prop} (zas:List V) (R:V→List Blk→Prop) (h1:aN h (fun _=>none) args∧wkL zas (aX h (fun _=>none) args)) (h2:cx.C f zas [] [] R)
  (h3:∀ r h',R r h'→aJ cx.fx (h++h'.map (bB (fun j=>some (h.length+j))))∧K (ren (fun j=>some (h.length+j)) r) ⟨e,h++h'.map (bB (fun j=>some (h.length+j))),b⟩):cB cx f args ⟨e,h,b⟩ K:=by
 have hp:pos []=fun _=>none:=rfl
 have hb:back [] h.length=fun j=>some (h.length+j):=by funext j;simp [back]
 have hk:∀ l:List Blk,l.map (aD [])=l:=nM
 refine ⟨[],zas,[],R,⟨⟨List.nodup_nil,by simp⟩,by simp⟩,?_,?_,by simpa using h2,?_⟩
 ·rw [hp];exact h1.1
 ·rw [hp];exact h1.2
 ·intro r h' hR _
  have:=h3 r h' hR
  simp only [hb,aS,List.filterMap_nil,hk,gY]
  exact this
section
variable {h:List Blk} {e:Env} {s:St} {fx bn:List Nat} {b:Nat}
def Cp (b:Blk) (i n:Nat) (K:Nat→List (List V)→Prop):Prop :=
 match b with
 | .arr sz els=>i+n≤els.length∧K sz ((els.drop i).take n)
 | .var cs=>(i+n≤cs.length∧((cs.drop i).take n).all isD=true)∧K 1 (((cs.drop i).take n).map fun c=>[c])
 | _=>False
theorem qar {α:Type} {x:α} {K:α→Prop}:cI (some x) K=K x:=rfl
theorem qas {α:Type} {K:α→Prop}:cI none K=False:=rfl
theorem qat {n:Option Nat} {k i f:Nat} {K:V→Prop}:f7 h n (.ptr k i f) K=mI n i f (blk h k) K:=rfl
theorem qau {n:Option Nat} {z i f:Nat} {els:List (List V)} {K:V→Prop}:f7 h n (.rp z els i f) K=∃ hi:i<els.length,bM n f (els[i]'hi) K:=rfl
theorem qav {n:Option Nat} {f:Nat} {cs:List V} {K:V→Prop}:mI n 0 f (.var cs) K=bM n f cs K:=by
 show bM n (0+f) cs K=_
 rw [yan]
theorem qaw {n:Option Nat} {i:Nat} {cs:List V} {K:V→Prop}:mI n i 0 (.var cs) K=bM n i cs K:=rfl
theorem qax {n:Option Nat} {i f z:Nat} {els:List (List V)} {K:V→Prop}:mI n i f (.arr z els) K=∃ hi:i<els.length,bM n f (els[i]'hi) K:=rfl
theorem qay {n:Option Nat} {i f z:Nat} {els:List (List V)} {K:V→Prop}:mI n i f (.arv z els) K=∃ hi:i<els.length,bM n f (els[i]'hi) K:=rfl
theorem qaz {f:Nat} {cs:List V} {K:V→Prop}:bM none f cs K=cI cs[f]? K:=rfl
theorem qaA {m f:Nat} {cs:List V} {K:V→Prop}:bM (some m) f cs K=(f+m≤cs.length∧K (.agg ((cs.drop f).take m))):=rfl
theorem qaB {n k i f:Nat} {cs:List V} {K:List Blk→Prop}:rF bn h n (.ptr k i f) cs K=((cs.length=n∧k∉bn)∧cs.all isC=true∧lN n i f cs (blk h k) fun b=>K (h.set k b)):=rfl
theorem qaC {n f:Nat} {cs old:List V} {K:Blk→Prop}:lN n 0 f cs (.var old) K=((f+n≤old.length)∧K (.var (splice old f cs))):=by
 show ((0+f+n≤old.length)∧K (.var (splice old (0+f) cs)))=_
 rw [yan]
theorem qaD {n i:Nat} {cs old:List V} {K:Blk→Prop}:lN n i 0 cs (.var old) K=((i+n≤old.length)∧K (.var (splice old i cs))):=rfl
theorem qaE {n i f z:Nat} {cs:List V} {els:List (List V)} {K:Blk→Prop}:lN n i f cs (.arr z els) K=((f+n≤z∧cs.all isD=true)∧∃ hi:i<els.length,K (.arr z (els.set i (splice (els[i]'hi) f cs)))):=rfl
theorem qaF {n i f z:Nat} {cs:List V} {els:List (List V)} {K:Blk→Prop}:lN n i f cs (.arv z els) K=((f+n≤z)∧∃ hi:i<els.length,K (.arv z (els.set i (splice (els[i]'hi) f cs)))):=rfl
theorem qaG {o k i f:Nat} {K:V→Prop}:x7 o (.ptr k i f) K=K (.ptr k i (f+o)):=rfl
theorem qaH {o z i f:Nat} {els:List (List V)} {K:V→Prop}:x7 o (.rp z els i f) K=K (.rp z els i (f+o)):=rfl
theorem qaI {z k i m:Nat} {n:Int} {K:V→Prop}:v7 h z n (.sl k i m) K=(eB z (blk h k)∧(0≤n∧n<m)∧K (.ptr k (i+n.toNat) 0)):=rfl
theorem qaJ {z y:Nat} {els:List (List V)} {n:Int} {K:V→Prop}:v7 h z n (.ro y els) K=(y=z∧(0≤n∧n<els.length)∧K (.rp y els n.toNat 0)):=rfl
theorem qaK {z y:Nat} {els:List (List V)} {n:Int} {K:V→Prop}:v7 h z n (.bro y els) K=(y=z∧(0≤n∧n<els.length)∧K (.rp y els n.toNat 0)):=rfl
theorem qaL {z y:Nat} {els:List (List V)} {n:Int} {K:V→Prop}:v7 h z n (.full y els) K=(y=z∧(0≤n∧n<els.length)∧K (.rp y els n.toNat 0)):=rfl
theorem qaM {z:Nat} {n:Int} {K:V→Prop}:v7 h z n (.v (.slice none 0 0)) K=False:=rfl
theorem qaN {k i n:Nat} {K:V→Prop}:vU (.sl k i n) K=(n≤maxLen→K (.i n)):=rfl
theorem qaO {y:Nat} {els:List (List V)} {K:V→Prop}:vU (.ro y els) K=(els.length≤maxLen→K (.i els.length)):=rfl
theorem qaP {y:Nat} {els:List (List V)} {K:V→Prop}:vU (.bro y els) K=(els.length≤maxLen→K (.i els.length)):=rfl
theorem qaQ {y:Nat} {els:List (List V)} {K:V→Prop}:vU (.full y els) K=(els.length≤maxLen→K (.i els.length)):=rfl
theorem qaR {K:V→Prop}:vU (.v (.slice none 0 0)) K=K (.i 0):=rfl
theorem qaS {t:ByteArray} {K:V→Prop}:yX (.v (.string t)) K=K (.i t.size):=rfl
theorem qaT {vs:List V} {K:List V→Prop}:Ly (.tup vs) K=K vs:=rfl
theorem qaU {k i f:Nat} {K:V→Prop}:Kh (.ptr k i f) K=K (.ptr k i f):=rfl
theorem qaV {f:FuncId} {cs:List V} {K:V→Prop}:Kh (.clo f cs) K=K (.clo f cs):=rfl
theorem qaW {f:FuncId} {cs:List V} {K:FuncId→List V→Prop}:Px (.clo f cs) K=K f cs:=rfl
theorem qaX {cs:List V} {K:List V→Prop}:yB (.agg cs) K=K cs:=rfl
theorem qaY {k i n:Nat} {K:Nat→List (List V)→Prop}:gH h (.sl k i n) K=Cp (blk h k) i n K:=rfl
theorem qaZ {i n z:Nat} {els:List (List V)} {K:Nat→List (List V)→Prop}:Cp (.arr z els) i n K=(i+n≤els.length∧K z ((els.drop i).take n)):=rfl
theorem qba {z:Nat} {els:List (List V)} {K:Nat→List (List V)→Prop}:gH h (.ro z els) K=K z els:=rfl
theorem qbb {z:Nat} {els:List (List V)} {K:Nat→List (List V)→Prop}:gH h (.bro z els) K=K z els:=rfl
theorem qbc {z:Nat} {els:List (List V)} {K:Nat→List (List V)→Prop}:gH h (.full z els) K=K z els:=rfl
theorem qbd {K:Nat→List (List V)→Prop}:gH h (.v (.slice none 0 0)) K=K 0 []:=rfl
theorem qbe {K:Option Int→Prop}:rP none K=K none:=rfl
theorem qbf {k:IntKind} {n:Int} {K:Option Int→Prop}:rP (some (.v (.int k n))) K=K (some n):=rfl
theorem qbg {z k i n:Nat} {l u m:Option Int} {K:V→Prop}:xY h z (.sl k i n) l u m K=(eB z (blk h k)∧bY n l u m∧K (.sl k (i+(l.getD 0).toNat) ((u.getD n).toNat-(l.getD 0).toNat))):=rfl
theorem qbh {z y:Nat} {els:List (List V)} {l u:Option Int} {K:V→Prop}:xY h z (.ro y els) l u none K=(y=z∧bY els.length l u none∧K (.ro y ((els.drop (l.getD 0).toNat).take ((u.getD els.length).toNat-(l.getD 0).toNat)))):=rfl
theorem qbi {z y:Nat} {els:List (List V)} {l u:Option Int} {K:V→Prop}:xY h z (.bro y els) l u none K=(y=z∧bY els.length l u none∧K (.bro y ((els.drop (l.getD 0).toNat).take ((u.getD els.length).toNat-(l.getD 0).toNat)))):=rfl
theorem qbj {z:Nat} {l u m:Option Int} {K:V→Prop}:xY h z (.v (.slice none 0 0)) l u m K=(bY 0 l u m∧K (.v (.slice none 0 0))):=rfl
theorem qbk {k i n:Nat} {K:Bool→Prop}:x8 (.sl k i n) K=((0<n→K false)∧(n=0→K true∧K false)):=rfl
theorem qbl {z:Nat} {els:List (List V)} {K:Bool→Prop}:x8 (.ro z els) K=((els≠[]→K false)∧(els=[]→K true∧K false)):=rfl
theorem qbm {z:Nat} {els:List (List V)} {K:Bool→Prop}:x8 (.bro z els) K=((els≠[]→K false)∧(els=[]→K true∧K false)):=rfl
theorem qbn {K:Bool→Prop}:x8 (.v (.slice none 0 0)) K=K true:=rfl
theorem qbo {id sz bytes:Nat} {old new:List (List V)} {K:V→St→Prop}:nE id sz bytes ⟨e,h,b⟩ old new K=((old.length+new.length)*bytes≤140737488355328∧aG h id∧K (.sl id 0 (old.length+new.length)) ⟨e,h.set id (.arr sz (old++new)),b⟩):=rfl
theorem qbp {k i n sz bytes z:Nat} {new els:List (List V)} {K:V→St→Prop}:Ha fx bn k i n sz bytes ⟨e,h,b⟩ new (.arr z els) K=((z=sz∧i+n≤els.length∧(n+new.length)*bytes≤140737488355328)∧(k∉fx∧k∉bn)∧K (.sl k 0 (n+new.length)) ⟨aB [k] e,(h.map (aD [k])).set k (.arr sz ((els.drop i).take n++new)),b⟩):=rfl
theorem qbq {k i n id sz bytes:Nat} {new:List (List V)} {K:V→St→Prop}:tR fx bn id sz bytes ⟨e,h,b⟩ (.sl k i n) new K=Ha fx bn k i n sz bytes ⟨e,h,b⟩ new (blk h k) K:=rfl
theorem qbr {id sz bytes:Nat} {new:List (List V)} {K:V→St→Prop}:tR fx bn id sz bytes s (.v (.slice none 0 0)) new K=nE id sz bytes s [] new K:=rfl
theorem qbs {id sz bytes z:Nat} {els new:List (List V)} {K:V→St→Prop}:tR fx bn id sz bytes s (.full z els) new K=((z=sz∧new≠[])∧nE id sz bytes s els new K):=rfl
theorem qbt {k i n sz z:Nat} {new els:List (List V)} {K:V→St→Prop}:sZ bn k i n sz ⟨e,h,b⟩ new (.arr z els) K=((z=sz∧i+n≤els.length∧k∉bn)∧K (.i (min new.length n:Nat)) ⟨e,h.set k (.arr sz (els.take i++new.take n++els.drop (i+min new.length n))),b⟩):=rfl
theorem qbu {k i n sz:Nat} {new:List (List V)} {cs:List V} {K:V→St→Prop}:sZ bn k i n sz ⟨e,h,b⟩ new (.var cs) K=((1=sz∧i+n≤cs.length∧k∉bn)∧K (.i (min new.length n:Nat)) ⟨e,h.set k (.var (splice cs i (new.take n).flatten)),b⟩):=rfl
theorem qbv {i n:Nat} {cs:List V} {K:Nat→List (List V)→Prop}:Cp (.var cs) i n K=((i+n≤cs.length∧((cs.drop i).take n).all isD=true)∧K 1 (((cs.drop i).take n).map fun c=>[c])):=rfl
theorem qbw {n k i f:Nat} {l u m:Option Int} {K:V→Prop}:fG h n (.ptr k i f) l u m K=yH n k (i+f) (blk h k) l u m K:=rfl
theorem qbx {n z i f:Nat} {els:List (List V)} {l u m:Option Int} {K:V→Prop}:fG h n (.rp z els i f) l u m K=(bY n l u m∧∃ hi:i<els.length,f+n≤(els[i]'hi).length ∧
   K (.bro 1 (((((els[i]'hi).drop f).drop (l.getD 0).toNat).take ((u.getD n).toNat-(l.getD 0).toNat)).map fun c=>[c]))):=rfl
theorem qby {n k i:Nat} {cs:List V} {l u m:Option Int} {K:V→Prop}:yH n k i (.var cs) l u m K=((i+n≤cs.length∧bY n l u m)∧K (.sl k (i+(l.getD 0).toNat) ((u.getD n).toNat-(l.getD 0).toNat))):=rfl
theorem qbz {K:Bool→Prop}:x5 (.v (.pointer none)) (.v (.pointer none)) K=K true:=rfl
theorem qbA {k i f:Nat} {K:Bool→Prop}:x5 (.ptr k i f) (.v (.pointer none)) K=K false:=rfl
theorem qbB {z i f:Nat} {els:List (List V)} {K:Bool→Prop}:x5 (.rp z els i f) (.v (.pointer none)) K=K false:=rfl
theorem qbC {t:ByteArray} {K:ByteArray→Prop}:gC (.v (.string t)) K=K t:=rfl
theorem qbD {t:ByteArray} {l u:Option Int} {K:V→Prop}:mH t l u K=(bY t.size l u none∧K (.v (.string (t.extract (l.getD 0).toNat (u.getD t.size).toNat)))):=rfl
theorem qbE {n k i m:Nat} {K:V→Prop}:Fm n (.sl k i m) K=((0<n∧n≤m)∧K (.ptr k i 0)):=rfl
theorem qbF {t u:ByteArray} {K:V→Prop}:iX .add t u K=(t.size+u.size≤9223372036854775807∧K (.v (.string (t++u)))):=rfl
theorem qbG {t u:ByteArray} {K:V→Prop}:iX .eql t u K=K (.b (t.toList==u.toList)):=rfl
theorem qbH {t u:ByteArray} {K:V→Prop}:iX .neq t u K=K (.b (!(t.toList==u.toList))):=rfl
theorem qbI {t u:ByteArray} {K:V→Prop}:iX .lss t u K=K (.b (Op.bytesLess t.toList u.toList)):=rfl
theorem qbJ {t u:ByteArray} {K:V→Prop}:iX .leq t u K=K (.b (Op.bytesLess t.toList u.toList||t.toList==u.toList)):=rfl
theorem qbK {t u:ByteArray} {K:V→Prop}:iX .gtr t u K=K (.b (!(Op.bytesLess t.toList u.toList||t.toList==u.toList))):=rfl
theorem qbL {t u:ByteArray} {K:V→Prop}:iX .geq t u K=K (.b (!(Op.bytesLess t.toList u.toList))):=rfl
theorem qbM {mx:Bool} {x:V} {K:V→Prop}:mmP mx x [] K=K x:=rfl
theorem qbN {mx:Bool} {k k':IntKind} {a c:Int} {r:List V} {K:V→Prop}:mmP mx (.v (.int k a)) (.v (.int k' c)::r) K=(k'=k∧mmP mx (.v (.int k (if mx then max a c else min a c))) r K):=rfl
theorem qbO {sz k i n:Nat} {z:List Value} {K:V→St→Prop}:Eq bn sz z (.sl k i n) ⟨e,h,b⟩ K=Kr bn k i n sz z ⟨e,h,b⟩ (blk h k) K:=rfl
theorem qbP {sz:Nat} {z:List Value} {K:V→St→Prop}:Eq bn sz z (.v (.slice none 0 0)) s K=K (.v (.tuple #[])) s:=rfl
theorem qbQ {k i n sz y:Nat} {z:List Value} {els:List (List V)} {K:V→St→Prop}:Kr bn k i n sz z ⟨e,h,b⟩ (.arr y els) K=((y=sz∧i+n≤els.length∧k∉bn)∧K (.v (.tuple #[])) ⟨e,h.set k (.arr sz (els.take i++yab n (z.map .v)++els.drop (i+n))),b⟩):=rfl
theorem qbR {ks:List (Nat × TypeDesc)} {x y:Value} {K:List Value→Prop}:rR ks (.agg [.v x,.v y]) K=(([x,y].length=ks.length∧([x,y].zip ks).all (fun p=>isKey p.2.2 p.1)=true)∧K [x,y]):=rfl
theorem qbS {ks:List (Nat × TypeDesc)} {x y z:Value} {K:List Value→Prop}:rR ks (.agg [.v x,.v y,.v z]) K=(([x,y,z].length=ks.length∧([x,y,z].zip ks).all (fun p=>isKey p.2.2 p.1)=true)∧K [x,y,z]):=rfl
theorem qbT {ks:List (Nat × TypeDesc)} {us:List Value} {z:Value} {ok:Bool} {k:Nat} {K:V→Prop}:mV h ks us z ok (.mp k) K=Du (blk h k) fun es _=>sW ks es∧dS (some (gE us es 0)) z ok K:=rfl
theorem qbU {ks:List (Nat × TypeDesc)} {us:List Value} {z:Value} {ok:Bool} {K:V→Prop}:mV h ks us z ok (.v (.map none)) K=dS (some none) z ok K:=rfl
theorem qbV {k i n sz:Nat} {new:List (List V)} {K:V→St→Prop}:nZ bn sz ⟨e,h,b⟩ (.sl k i n) new K=sZ bn k i n sz ⟨e,h,b⟩ new (blk h k) K:=rfl
theorem qbW {kd:TypeDesc} {y:Value} {K:Value→Prop}:vY kd (.v y) K=(isKey kd y=true∧K y):=rfl
theorem qbX {k:Nat} {K:Nat→List (Value × V × Nat)→Nat→Prop}:gO h (.mp k) K=Du (blk h k) (K k):=rfl
theorem qbY {es:List (Value × V × Nat)} {c:Nat} {K:List (Value × V × Nat)→Nat→Prop}:Du (.map es c) K=K es c:=rfl
theorem qbZ {kd:TypeDesc} {key z:Value} {ok:Bool} {k:Nat} {K:V→Prop}:Dv h kd key z ok (.mp k) K=Du (blk h k) fun es _=>dS (dA kd key es 0) z ok K:=rfl
theorem qca {kd:TypeDesc} {key z:Value} {ok:Bool} {K:V→Prop}:Dv h kd key z ok (.v (.map none)) K=dS (some none) z ok K:=rfl
theorem qcb {i:Nat} {x:V} {z:Value} {K:V→Prop}:dS (some (some (i,x))) z true K=K (.tup [x,.b true]):=rfl
theorem qcc {i:Nat} {x:V} {z:Value} {K:V→Prop}:dS (some (some (i,x))) z false K=K x:=rfl
theorem qcd {z:Value} {K:V→Prop}:dS (some none) z true K=K (.tup [aA z,.b false]):=rfl
theorem qce {z:Value} {K:V→Prop}:dS (some none) z false K=K (aA z):=rfl
theorem qcf {i c:Nat} {y x:V} {key:Value} {es:List (Value × V × Nat)} {K:Blk→Prop}:gI (some (some (i,y))) key x es c K=K (.map (es.modify i fun e=>(key,x,e.2.2)) c):=rfl
theorem qcg {c:Nat} {x:V} {key:Value} {es:List (Value × V × Nat)} {K:Blk→Prop}:gI (some none) key x es c K=K (.map (es++[(key,x,c)]) (c+1)):=rfl
theorem qch {q:Value × V × Nat} {K:V→Prop}:Kq (some q) K=K (.tup [.v q.1,q.2.1]):=rfl
theorem qci {kd:TypeDesc} {key:Value} {i:Nat}:dA kd key [] i=some none:=rfl
theorem qcj {k:IntKind} {a:Int}:isKey (.int k) (.int k a)=true:=by simp [isKey]
theorem qck {k:Nat} {K:Nat→V→Nat→List Nat→Nat→Prop}:itK h (.ptr k 0 0) K=itB (blk h k) (K k):=rfl
theorem qcl {m:V} {si la:Nat} {se:List Nat} {K:V→Nat→List Nat→Nat→Prop}:itB (.it m si se la) K=K m si se la:=rfl
section
variable {k:IntKind} {a c:Int} {K:V→Prop}
theorem qcm:bQ .add true k a c K=((lo k≤a+c∧a+c≤hi k)∧K (.v (.int k (a+c)))):=rfl
theorem qcn:bQ .add false k a c K=K (.v (.int k (k.wrap (a+c)))):=rfl
theorem qco:bQ .sub true k a c K=((lo k≤a-c∧a-c≤hi k)∧K (.v (.int k (a-c)))):=rfl
theorem qcp:bQ .sub false k a c K=K (.v (.int k (k.wrap (a-c)))):=rfl
theorem qcq:bQ .mul true k a c K=((lo k≤a*c∧a*c≤hi k)∧K (.v (.int k (a*c)))):=rfl
theorem qcr:bQ .mul false k a c K=K (.v (.int k (k.wrap (a*c)))):=rfl
theorem qcs {x:Bool}:bQ .eql x k a c K=K (.b (a==c)):=rfl
theorem qct {x:Bool}:bQ .neq x k a c K=K (.b (a != c)):=rfl
theorem qcu {x:Bool}:bQ .lss x k a c K=K (.b (decide (a<c))):=rfl
theorem qcv {x:Bool}:bQ .leq x k a c K=K (.b (decide (a≤c))):=rfl
theorem qcw {x:Bool}:bQ .gtr x k a c K=K (.b (decide (c<a))):=rfl
theorem qcx {x:Bool}:bQ .geq x k a c K=K (.b (decide (c≤a))):=rfl
theorem qcy:bQ .quo true k a c K=(c≠0∧(lo k≤a.tdiv c∧a.tdiv c≤hi k)∧K (.v (.int k (a.tdiv c)))):=rfl
theorem qcz:bQ .quo false k a c K=(c≠0∧K (.v (.int k (k.wrap (a.tdiv c))))):=rfl
theorem qcA {x:Bool}:bQ .rem x k a c K=(c≠0∧K (.v (.int k (a.tmod c)))):=rfl
end
@[congr] theorem aeG {n:Nat} {x x':V} {l u m:Option Int} {K:V→Prop} (q:x=x'):fG h n x l u m K=fG h n x' l u m K:=by rw [q]
@[congr] theorem aeH {n k i i':Nat} {b b':Blk} {l u m:Option Int} {K:V→Prop} (q:b=b') (q2:i=i'):yH n k i b l u m K=yH n k i' b' l u m K:=by rw [q,q2]
@[congr] theorem ahP {x x' y y':V} {K:Bool→Prop} (q:x=x') (q2:y=y'):x5 x y K=x5 x' y' K:=by rw [q,q2]
@[congr] theorem ahL {x x':V} {K:ByteArray→Prop} (q:x=x'):gC x K=gC x' K:=by rw [q]
@[congr] theorem ahN {n:Nat} {x x':V} {K:V→Prop} (q:x=x'):Fm n x K=Fm n x' K:=by rw [q]
@[congr] theorem aeF {t t':ByteArray} {l u:Option Int} {K:V→Prop} (q:t=t'):mH t l u K=mH t' l u K:=by rw [q]
@[congr] theorem aeI {o:BinOp} {t t' u u':ByteArray} {K:V→Prop} (q:t=t') (q2:u=u'):iX o t u K=iX o t' u' K:=by rw [q,q2]
@[congr] theorem aiQ {mx:Bool} {x x':V} {r r':List V} {K:V→Prop} (q:x=x') (q2:r=r'):mmP mx x r K=mmP mx x' r' K:=by rw [q,q2]
@[congr] theorem aiG {sz:Nat} {z:List Value} {x x':V} {K:V→St→Prop} (q:x=x'):Eq bn sz z x s K=Eq bn sz z x' s K:=by rw [q]
@[congr] theorem aiH {k i n sz:Nat} {z:List Value} {b b':Blk} {K:V→St→Prop} (q:b=b'):Kr bn k i n sz z s b K=Kr bn k i n sz z s b' K:=by rw [q]
@[congr] theorem ahX {ks:List (Nat × TypeDesc)} {x x':V} {K:List Value→Prop} (q:x=x'):rR ks x K=rR ks x' K:=by rw [q]
@[congr] theorem adL {ks:List (Nat × TypeDesc)} {us:List Value} {z:Value} {ok:Bool} {m m':V} {K:V→Prop} (q:m=m'):mV h ks us z ok m K=mV h ks us z ok m' K:=by rw [q]
@[congr] theorem aeU {k i n sz:Nat} {new:List (List V)} {b b':Blk} {K:V→St→Prop} (q:b=b'):sZ bn k i n sz s new b K=sZ bn k i n sz s new b' K:=by rw [q]
@[congr] theorem ahW {kd:TypeDesc} {x x':V} {K:Value→Prop} (q:x=x'):vY kd x K=vY kd x' K:=by rw [q]
@[congr] theorem ahT {x x':V} {K:Nat→List (Value × V × Nat)→Nat→Prop} (q:x=x'):gO h x K=gO h x' K:=by rw [q]
@[congr] theorem ahU {x x':Blk} {K:List (Value × V × Nat)→Nat→Prop} (q:x=x'):Du x K=Du x' K:=by rw [q]
@[congr] theorem aeL {kd:TypeDesc} {key key' z:Value} {ok:Bool} {m m':V} {K:V→Prop} (q:m=m') (q2:key=key'):Dv h kd key z ok m K=Dv h kd key' z ok m' K:=by rw [q,q2]
@[congr] theorem aeM {r r':Option (Option (Nat × V))} {z:Value} {ok:Bool} {K:V→Prop} (q:r=r'):dS r z ok K=dS r' z ok K:=by rw [q]
@[congr] theorem aeK {r r':Option (Option (Nat × V))} {key key':Value} {x x':V} {es es':List (Value × V × Nat)} {c c':Nat} {K:Blk→Prop} (q:r=r') (q1:key=key') (q2:x=x') (q3:es=es') (q4:c=c'):gI r key x es c K=gI r' key' x' es' c' K:=by rw [q,q1,q2,q3,q4]
@[congr] theorem aeJ {es es':List (Value × V × Nat)} {si si' la la':Nat} {se se':List Nat} {D:Prop} {K:Value→V→Nat→Prop} (q:es=es') (q1:si=si') (q2:se=se') (q3:la=la'):Dq es si se la D K=Dq es' si' se' la' D K:=by rw [q,q1,q2,q3]
@[congr] theorem aiF {r r':Option (Value × V × Nat)} {K:V→Prop} (q:r=r'):Kq r K=Kq r' K:=by rw [q]
@[congr] theorem aiR {x x':V} {K:Nat→V→Nat→List Nat→Nat→Prop} (q:x=x'):itK h x K=itK h x' K:=by rw [q]
@[congr] theorem aiS {x x':Blk} {K:V→Nat→List Nat→Nat→Prop} (q:x=x'):itB x K=itB x' K:=by rw [q]
@[congr] theorem aeE {i n:Nat} {x x':Blk} {K:Nat→List (List V)→Prop} (q:x=x'):Cp x i n K=Cp x' i n K:=by rw [q]
end
section
variable {α:Type} {a:α} {l:List α} {x:α} {y:Nat}
theorem lg0:(a::l)[1]?=l[0]?:=rfl
theorem wl:(a::l).set 1 x=a::l.set 0 x:=rfl
theorem wm:(a::l).drop 1=l.drop 0:=rfl
theorem wq:(a::l).take 1=a::l.take 0:=rfl
theorem wr:yab 1 x=x::yab 0 x:=rfl
theorem lg1:(a::l)[2]?=l[1]?:=rfl
theorem wt:(a::l).set 2 x=a::l.set 1 x:=rfl
theorem wu:(a::l).drop 2=l.drop 1:=rfl
theorem wv:(a::l).take 2=a::l.take 1:=rfl
theorem ww:yab 2 x=x::yab 1 x:=rfl
theorem lg2:(a::l)[3]?=l[2]?:=rfl
theorem wx:(a::l).set 3 x=a::l.set 2 x:=rfl
theorem wy:(a::l).drop 3=l.drop 2:=rfl
theorem wz:(a::l).take 3=a::l.take 2:=rfl
theorem wB:yab 3 x=x::yab 2 x:=rfl
theorem lg3:(a::l)[4]?=l[3]?:=rfl
theorem wC:(a::l).set 4 x=a::l.set 3 x:=rfl
theorem wD:(a::l).drop 4=l.drop 3:=rfl
theorem wE:(a::l).take 4=a::l.take 3:=rfl
theorem wF:yab 4 x=x::yab 3 x:=rfl
theorem lg4:(a::l)[5]?=l[4]?:=rfl
theorem wG:(a::l).set 5 x=a::l.set 4 x:=rfl
theorem wH:(a::l).drop 5=l.drop 4:=rfl
theorem wI:(a::l).take 5=a::l.take 4:=rfl
theorem wJ:yab 5 x=x::yab 4 x:=rfl
theorem lg5:(a::l)[6]?=l[5]?:=rfl
theorem wK:(a::l).set 6 x=a::l.set 5 x:=rfl
theorem wL:(a::l).drop 6=l.drop 5:=rfl
theorem wM:(a::l).take 6=a::l.take 5:=rfl
theorem wN:yab 6 x=x::yab 5 x:=rfl
theorem lg6:(a::l)[7]?=l[6]?:=rfl
theorem wO:(a::l).set 7 x=a::l.set 6 x:=rfl
theorem wP:(a::l).drop 7=l.drop 6:=rfl
theorem wQ:(a::l).take 7=a::l.take 6:=rfl
theorem wR:yab 7 x=x::yab 6 x:=rfl
theorem lg7:(a::l)[8]?=l[7]?:=rfl
theorem wS:(a::l).set 8 x=a::l.set 7 x:=rfl
theorem wT:(a::l).drop 8=l.drop 7:=rfl
theorem wU:(a::l).take 8=a::l.take 7:=rfl
theorem wV:yab 8 x=x::yab 7 x:=rfl
theorem lg8:(a::l)[9]?=l[8]?:=rfl
theorem wW:(a::l).set 9 x=a::l.set 8 x:=rfl
theorem wX:(a::l).drop 9=l.drop 8:=rfl
theorem wY:(a::l).take 9=a::l.take 8:=rfl
theorem wZ:yab 9 x=x::yab 8 x:=rfl
theorem lg9:(a::l)[10]?=l[9]?:=rfl
theorem ja:(a::l).set 10 x=a::l.set 9 x:=rfl
theorem jb:(a::l).drop 10=l.drop 9:=rfl
theorem jc:(a::l).take 10=a::l.take 9:=rfl
theorem jd:yab 10 x=x::yab 9 x:=rfl
theorem je:(a::l)[11]?=l[10]?:=rfl
theorem jf:(a::l).set 11 x=a::l.set 10 x:=rfl
theorem jg:(a::l).drop 11=l.drop 10:=rfl
theorem jh:(a::l).take 11=a::l.take 10:=rfl
theorem ji:yab 11 x=x::yab 10 x:=rfl
theorem jj:(a::l)[12]?=l[11]?:=rfl
theorem jk:(a::l).set 12 x=a::l.set 11 x:=rfl
theorem jl:(a::l).drop 12=l.drop 11:=rfl
theorem jm:(a::l).take 12=a::l.take 11:=rfl
theorem jn:yab 12 x=x::yab 11 x:=rfl
theorem jo:(a::l)[13]?=l[12]?:=rfl
theorem jp:(a::l).set 13 x=a::l.set 12 x:=rfl
theorem jq:(a::l).drop 13=l.drop 12:=rfl
theorem jr:(a::l).take 13=a::l.take 12:=rfl
theorem jt:yab 13 x=x::yab 12 x:=rfl
theorem ju:(a::l)[14]?=l[13]?:=rfl
theorem jv:(a::l).set 14 x=a::l.set 13 x:=rfl
theorem jx:(a::l).drop 14=l.drop 13:=rfl
theorem jy:(a::l).take 14=a::l.take 13:=rfl
theorem jz:yab 14 x=x::yab 13 x:=rfl
theorem jA:(a::l)[15]?=l[14]?:=rfl
theorem jB:(a::l).set 15 x=a::l.set 14 x:=rfl
theorem jC:(a::l).drop 15=l.drop 14:=rfl
theorem jD:(a::l).take 15=a::l.take 14:=rfl
theorem jE:yab 15 x=x::yab 14 x:=rfl
theorem jF:(a::l)[16]?=l[15]?:=rfl
theorem jG:(a::l).set 16 x=a::l.set 15 x:=rfl
theorem jH:(a::l).drop 16=l.drop 15:=rfl
theorem jI:(a::l).take 16=a::l.take 15:=rfl
theorem jJ:yab 16 x=x::yab 15 x:=rfl
theorem jK:(a::l)[17]?=l[16]?:=rfl
theorem jL:(a::l).set 17 x=a::l.set 16 x:=rfl
theorem jM:(a::l)[18]?=l[17]?:=rfl
theorem jN:(a::l).set 18 x=a::l.set 17 x:=rfl
theorem jO:(a::l)[19]?=l[18]?:=rfl
theorem jP:(a::l).set 19 x=a::l.set 18 x:=rfl
theorem jQ:(a::l)[20]?=l[19]?:=rfl
theorem jR:(a::l).set 20 x=a::l.set 19 x:=rfl
theorem jS:(a::l)[21]?=l[20]?:=rfl
theorem jT:(a::l).set 21 x=a::l.set 20 x:=rfl
theorem jU:(a::l)[22]?=l[21]?:=rfl
theorem jV:(a::l).set 22 x=a::l.set 21 x:=rfl
theorem jW:(a::l)[23]?=l[22]?:=rfl
theorem jX:(a::l).set 23 x=a::l.set 22 x:=rfl
theorem jY:(a::l)[24]?=l[23]?:=rfl
theorem jZ:(a::l).set 24 x=a::l.set 23 x:=rfl
theorem qaa:(a::l)[25]?=l[24]?:=rfl
theorem qab:(a::l)[26]?=l[25]?:=rfl
theorem qac:(a::l)[27]?=l[26]?:=rfl
theorem qad:(a::l)[28]?=l[27]?:=rfl
theorem qae:(a::l)[29]?=l[28]?:=rfl
theorem qaf:(a::l)[30]?=l[29]?:=rfl
theorem qag:(a::l)[31]?=l[30]?:=rfl
theorem qah:(a::l)[32]?=l[31]?:=rfl
theorem qai:(a::l)[33]?=l[32]?:=rfl
theorem qaj:(a::l)[34]?=l[33]?:=rfl
theorem qak:(a::l)[35]?=l[34]?:=rfl
theorem qal:(a::l)[36]?=l[35]?:=rfl
theorem qam:(a::l)[37]?=l[36]?:=rfl
theorem qan:(a::l)[38]?=l[37]?:=rfl
theorem qao:(a::l)[39]?=l[38]?:=rfl
theorem qap:(a::l)[40]?=l[39]?:=rfl
theorem qaq:yab 0 x=[]:=rfl
end
end Go.Fx
namespace Go.Fx
open Go.RowKit
theorem Mv {ρ:Nat→Loc} {X:Nat→Prop} {w:World} {h:List Blk} (hr:Rep ρ X w h):Rep (dE ρ fun _=>true) X w [] :=
 ⟨fun j k _ h1=>by simp [dE] at h1,fun k _=>by simp [dE],fun k b hb=>by simp at hb,fun b ho=>hr.disj b (Gk ho),fun k h1=>by simp [dE] at h1,hr.xlt⟩
theorem Tv {P:Program} {f:FuncId} {args:List V} {mv:List Nat} {R:V→List Blk→Prop} {y:V} (h:Fn P f args [] mv R) (hy:∀ r hs,R r hs→wk y (gvV (fun _=>true) hs r)):Fn P f args [] mv (Is y):=by
 intro ρ X w vals h1 h2
 refine Calls.mono (h ρ X w vals h1 h2) ?_
 rintro e w' ⟨val,r,h',ρ',q1,q2,q3,q4,q5,q6⟩
 exact ⟨val,y,[],_,q1,⟨⟨rfl,rfl⟩,yad _⟩,q3.trans v8,Mv q4,Lp _ _ _ (hy r h' q2.1) (rU q4 _ _ q5),fun k hk=>by simp at hk⟩
theorem Qk {P:Program} {f:FuncId} {args:List V} {mv:List Nat} {R R':V→List Blk→Prop} (h:Fn P f args [] mv R) (hR:∀ r hs,R r hs→∃ r' hs',R' r' hs'∧leG [] ⟨[(0,r)],hs,0⟩ ⟨[(0,r')],hs',0⟩):Fn P f args [] mv R':=by
 intro ρ X w vals h1 h2
 refine Calls.mono (h ρ X w vals h1 h2) ?_
 rintro e w' ⟨val,r,h',ρ',q1,q2,q3,q4,q5,q6⟩
 obtain ⟨r',hs',g1,g2⟩:=hR r h' q2.1
 have hg:Good ρ X w [] 1 ⟨[(0,r)],h',0⟩ ⟨#[val],[]⟩ w':=by
  refine ⟨ρ',⟨⟨q3,fun k hk=>by simp at hk⟩,trivial⟩,⟨q4,fun i=>?_⟩,rfl,Marks.nil⟩
  by_cases hi:i=0
  ·subst hi;exact q5
  ·have:get [(0,r)] i=.any:=by simp [get,hi]
   rw [this];trivial
 obtain ⟨ρ2,⟨⟨p1,_⟩,_⟩,⟨p2,p3⟩,_⟩:=hg.leG g2
 exact ⟨val,r',hs',ρ2,q1,⟨g1,yat _⟩,p1,p2,p3 0,fun k hk=>by simp at hk⟩
end Go.Fx
namespace Go.Fx
open Go.RowKit
section
variable (P:Program)
def C0:Ctr:=fun f xs h0 mv R=>fE P f∧Fn P f xs h0 mv R
def I0:Itr:=fun f zas fx k Y h K=>fE P f∧adZ P f zas fx k Y h K
def Y0:Nat→Yt:=fun _ _ _ _=>False
def cxN (fx:List Nat):Cx:=⟨C0 P,fx,[],I0 P,Y0,none⟩
theorem Xk (fx:List Nat):(cxN P fx).ok P:=⟨fun _ _ _ _ _ h=>h,fun _ _ _ _ _ _ _ h=>h⟩
def OkN (f:FuncId) (xs:List V) (h0:List Blk) (mv:List Nat) (R:V→List Blk→Prop):Prop:=C0 P f xs h0 mv R
variable {P}
theorem fJ (hP:P.follows .mixedOrders=true) {f:FuncId} {l0 l:LCode} {rs:List d7} {nt:Nat} (fx:List Nat) (hl:rlF P f l0=some (l,rs,nt)) {args:List V} {h0:List Blk} {mv:List Nat} {R:V→List Blk→Prop} (hlen:args.length≤nt) (hb:aJ fx h0)
  (hfx:∀ k,k<h0.length→k∉mv→k∈fx) (h:aw (cxN P fx) l (cE fx h0.length rs R) (fun _ _=>False) (cE fx h0.length rs R) ⟨aV 0 args,h0,0⟩):OkN P f args h0 mv R :=
 ⟨pE hl,aeA hP (Xk P fx) hl hlen hb hfx h⟩
theorem fB {f:FuncId} {xs:List V} {h0:List Blk} {mv:List Nat} {R R':V→List Blk→Prop} (h:OkN P f xs h0 mv R) (hR:∀ r h',R r h'→R' r h'):OkN P f xs h0 mv R':=by
 refine ⟨h.1,?_⟩
 intro ρ X w vals h1 h2
 refine Calls.mono (h.2 ρ X w vals h1 h2) ?_
 rintro e w' ⟨val,r,h',ρ',q1,q2,q3,q4,q5,q6⟩
 exact ⟨val,r,h',ρ',q1,⟨hR r h' q2.1,q2.2⟩,q3,q4,q5,q6⟩
theorem yP {f:FuncId} {xs:List V} {R R':V→List Blk→Prop} (h:OkN P f xs [] [] R) (hR:∀ r hs,R r hs→∃ r' hs',R' r' hs'∧leG [] ⟨[(0,r)],hs,0⟩ ⟨[(0,r')],hs',0⟩):OkN P f xs [] [] R':=⟨h.1,Qk h.2 hR⟩
end
def IsA (x:V) (h0:List Blk):V→List Blk→Prop:=fun r h=>r=x∧h=h0
theorem dG {fx:List Nat} {n:Nat} {e:Env} {h:List Blk} {b:Nat} {rs:List d7} {x:V} {h0:List Blk}:cE fx n rs (IsA x h0) ⟨e,h,b⟩=a8 h e rs [] fun xs=>(leH h h0∧aJ fx h0∧n≤h0.length∧wfV h0 (bF xs)∧wfB h0 h0)∧bF xs=x:=by
 rw [dW]
 congr 1
 funext xs
 apply propext
 constructor
 ·rintro ⟨p,h1,h2,rfl⟩
  exact ⟨h1,h2⟩
 ·rintro ⟨h1,h2⟩
  exact ⟨h0,h1,h2,rfl⟩
def IsQ {G:Type} (Q:G→Prop) (x:G→V) (h0:G→List Blk):V→List Blk→Prop:=fun r h=>∃ g,Q g∧r=x g∧h=h0 g
theorem Mt {G:Type} {Q:G→Prop} {fx:List Nat} {n:Nat} {e:Env} {h:List Blk} {b:Nat} {rs:List d7} {x:G→V} {h0:G→List Blk} (g:G) (hq:Q g)
  (hr:a8 h e rs [] fun xs=>(leH h (h0 g)∧aJ fx (h0 g)∧n≤(h0 g).length∧wfV (h0 g) (bF xs)∧wfB (h0 g) (h0 g))∧bF xs=x g):cE fx n rs (IsQ Q x h0) ⟨e,h,b⟩:=by
 have hm:∀ {h:List Blk} {e:Env} (rs:List d7) (acc:List V) {K K':List V→Prop},(∀ xs,K xs→K' xs)→a8 h e rs acc K→a8 h e rs acc K':=by
  intro h e rs
  induction rs with
  | nil=>intro acc K K' hk h;exact hk _ h
  | cons r rs ih =>
   intro acc K K' hk hh
   cases r with
   | tmp t=>exact ih _ hk hh
   | cell a n =>
    simp only [a8] at hh ⊢
    have hcs:∀ (n:Option Nat) (f:Nat) (cs:List V) {A B:V→Prop},(∀ x,A x→B x)→bM n f cs A→bM n f cs B:=by
     intro n f cs A B hab hl
     unfold bM at hl ⊢
     split at hl
     ·unfold cI at hl ⊢
      split at hl
      ·exact hab _ hl
      ·exact hl.elim
     ·exact ⟨hl.1,hab _ hl.2⟩
    unfold f7 at hh ⊢
    split at hh
    ·unfold mI at hh ⊢
     split at hh
     ·exact hcs _ _ _ (fun x=>ih _ hk) hh
     ·obtain ⟨hi,hh⟩:=hh;exact ⟨hi,hcs _ _ _ (fun x=>ih _ hk) hh⟩
     ·obtain ⟨hi,hh⟩:=hh;exact ⟨hi,hcs _ _ _ (fun x=>ih _ hk) hh⟩
     ·exact hh.elim
    ·obtain ⟨hi,hh⟩:=hh;exact ⟨hi,hcs _ _ _ (fun x=>ih _ hk) hh⟩
    ·exact hh.elim
 rw [dW]
 refine hm rs [] ?_ hr
 rintro xs ⟨h1,h2⟩
 exact ⟨h0 g,h1,g,hq,h2,rfl⟩
section
variable {cx:Cx} {f:FuncId} {args:List V} {e:Env} {h:List Blk} {b:Nat} {K:V→St→Prop}
theorem bE {xs:List V} {x:V} (hC:cx.C f xs [] [] (Is x)) (h1:aN h (fun _=>none) args∧wkL xs (aX h (fun _=>none) args)) (hx:ren (fun j=>some (h.length+j)) x=x) (keep:aJ cx.fx h) (h3:K x ⟨e,h,b⟩):cB cx f args ⟨e,h,b⟩ K:=by
 refine lZ xs (Is x) h1 hC ?_
 rintro r h' ⟨rfl,rfl⟩
 simp only [List.map_nil,yaB]
 exact ⟨keep,by rw [hx];exact h3⟩
theorem gA (xs:List V) (x x':V) (h0 h0':List Blk) (hC:cx.C f xs [] [] (IsA x h0)) (h1:aN h (fun _=>none) args∧wkL xs (aX h (fun _=>none) args))
  (hx:ren (fun j=>some (h.length+j)) x=x') (hh:h0.map (bB (fun j=>some (h.length+j)))=h0') (keep:aJ cx.fx (h++h0')) (h3:K x' ⟨e,h++h0',b⟩):cB cx f args ⟨e,h,b⟩ K:=by
 refine lZ xs (IsA x h0) h1 hC ?_
 rintro r h' ⟨rfl,rfl⟩
 rw [hx,hh]
 exact ⟨keep,h3⟩
theorem eK (ι:List Nat) (xs:List V) (x x':V) (h0 h1 h':List Blk) (hC:cx.C f xs h0 [] (IsA x h1))
  (hι:ι.Nodup∧∀ k∈ι,k<h.length∧k∉cx.bn) (r0:ι.map (fun k=>bB (pos ι) (blk h k))=h0) (ha:aN h (pos ι) args∧wkL xs (aX h (pos ι) args)) (hlen:ι.length≤h1.length)
  (hh:aS ι (h1.map (bB (back ι h.length))) h=h') (hx:ren (back ι h.length) x=x') (keep:aJ cx.fx h') (h3:K x' ⟨e,h',b⟩):cB cx f args ⟨e,h,b⟩ K:=by
 have hkb:∀ l:List Blk,l.map (aD [])=l:=nM
 refine ⟨ι,xs,[],IsA x h1,⟨hι,by simp⟩,ha.1,ha.2,by rw [r0];exact hC,?_⟩
 rintro r h2 ⟨rfl,rfl⟩ _
 simp only [List.filterMap_nil,hkb,gY,hh,hx]
 exact ⟨keep,h3⟩
theorem Pz {G:Type} (Q:G→Prop) (ι mv M:List Nat) (xs:List V) (x:G→V) (h0:List Blk) (h1:G→List Blk) (hC:cx.C f xs h0 mv (IsQ Q x h1))
  (hι:ι.Nodup∧∀ k∈ι,k<h.length∧k∉cx.bn) (hM:mv.filterMap (ι[·]?)=M∧∀ j∈mv,∀ k,ι[j]?=some k→k∉cx.fx) (r0:ι.map (fun k=>bB (pos ι) (blk h k))=h0) (ha:aN h (pos ι) args∧wkL xs (aX h (pos ι) args))
  (h3:∀ g,Q g→aJ cx.fx (aS ι ((h1 g).map (bB (back ι h.length))) (h.map (aD M)))∧K (ren (back ι h.length) (x g)) ⟨aB M e,aS ι ((h1 g).map (bB (back ι h.length))) (h.map (aD M)),b⟩):cB cx f args ⟨e,h,b⟩ K:=by
 refine ⟨ι,xs,mv,IsQ Q x h1,⟨hι,hM.2⟩,ha.1,ha.2,by rw [r0];exact hC,?_⟩
 rintro r h2 ⟨g,hq,rfl,rfl⟩ _
 rw [hM.1]
 exact h3 g hq
end
end Go.Fx
namespace Go.Fx
open Go.RowKit
section
variable {cx:Cx} {e:Env} {h:List Blk} {b:Nat} {K:V→St→Prop} {Ks:St→Prop} {N R:St→Prop} {X:Nat→St→Prop} {d:Option Nat} {op:LOp}
@[congr] theorem aeY {l:List bH} {s s':St} {Ks:St→Prop} (q:s=s'):gJ cx l s Ks=gJ cx l s' Ks:=by rw [q]
@[congr] theorem aeX {k:Nat} {s s':St} (q:s=s'):Eu k Ks s=Eu k Ks s':=by rw [q]
@[congr] theorem aeR {k kE bI:Nat} {t:RS} {y:Bool} {s s':St} (q:s=s'):mK k kE bI K y t s=mK k kE bI K y t s':=by rw [q]
@[congr] theorem aeS {k:Nat} {h h':List Blk} (q:h=h'):Jc k N X R h=Jc k N X R h':=by rw [q]
end
end Go.Fx
namespace Go.Fx
open Go.RowKit
theorem sO {P:Program} {f:FuncId} {args:List V} {h0:List Blk} {mv:List Nat} {R R':V→List Blk→Prop} (fx:List Nat) (hfx:∀ k,k<h0.length→k∉mv→k∈fx) (hlt:∀ k∈fx,k<h0.length∧k∉mv) (h:Fn P f args h0 mv R)
  (hR:∀ r hs,R r hs→aJ fx hs∧∃ r' hs',R' r' hs'∧h0.length≤hs'.length∧leG fx ⟨[(0,r)],hs,0⟩ ⟨[(0,r')],hs',0⟩):Fn P f args h0 mv R':=by
 intro ρ X w vals h1 h2
 refine Calls.mono (h ρ X w vals h1 h2) ?_
 rintro e w' ⟨val,r,h',ρ',q1,q2,q3,q4,q5,q6⟩
 obtain ⟨hk,r',hs',g1,g1l,g2⟩:=hR r h' q2.1
 have hg:Good ρ X w fx 1 ⟨[(0,r)],h',0⟩ ⟨#[val],[]⟩ w':=by
  refine ⟨ρ',⟨⟨q3,fun k hk=>q6 k (hlt k hk).1 (hlt k hk).2⟩,hk⟩,⟨q4,fun i=>?_⟩,rfl,Marks.nil⟩
  by_cases hi:i=0
  ·subst hi;exact q5
  ·have:get [(0,r)] i=.any:=by simp [get,hi]
   rw [this];trivial
 obtain ⟨ρ2,⟨⟨p1,p1b⟩,_⟩,⟨p2,p3⟩,_⟩:=hg.leG g2
 exact ⟨val,r',hs',ρ2,q1,⟨g1,g1l⟩,p1,p2,p3 0,fun k hk hm=>p1b k (hfx k hk hm)⟩
end Go.Fx
namespace Go.Fx
open Go.RowKit
end Go.Fx
namespace Go.Fx
open Go.RowKit
theorem resP_mono {h:List Blk} {e:Env}:∀ (rs:List d7) (acc:List V) {K K':List V→Prop},(∀ xs,K xs→K' xs)→a8 h e rs acc K→a8 h e rs acc K':=by
 intro rs
 induction rs with
 | nil=>intro acc K K' hk h;exact hk _ h
 | cons r rs ih =>
  intro acc K K' hk hh
  cases r with
  | tmp t=>exact ih _ hk hh
  | cell a n =>
   simp only [a8] at hh ⊢
   have hcs:∀ (n:Option Nat) (f:Nat) (cs:List V) {A B:V→Prop},(∀ x,A x→B x)→bM n f cs A→bM n f cs B:=by
    intro n f cs A B hab hl
    unfold bM at hl ⊢
    split at hl
    ·unfold cI at hl ⊢
     split at hl
     ·exact hab _ hl
     ·exact hl.elim
    ·exact ⟨hl.1,hab _ hl.2⟩
   unfold f7 at hh ⊢
   split at hh
   ·unfold mI at hh ⊢
    split at hh
    ·exact hcs _ _ _ (fun x=>ih _ hk) hh
    ·obtain ⟨hi,hh⟩:=hh;exact ⟨hi,hcs _ _ _ (fun x=>ih _ hk) hh⟩
    ·obtain ⟨hi,hh⟩:=hh;exact ⟨hi,hcs _ _ _ (fun x=>ih _ hk) hh⟩
    ·exact hh.elim
   ·obtain ⟨hi,hh⟩:=hh;exact ⟨hi,hcs _ _ _ (fun x=>ih _ hk) hh⟩
   ·exact hh.elim
end Go.Fx
namespace Go.Fx
open Go.RowKit
end Go.Fx
namespace Go.Fx
open Go
open And renaming intro → aI
set_option linter.defProp false
def rX:=aI (aI (aI (aI (aI (aI (aI (@Bool.and_self) (aI (@Bool.and_true) (@Bool.false_eq_true))) (aI (@Bool.not_false) (aI (@yaA) (@List.all_cons.{0})))) (aI (aI (@List.all_nil.{0}) (aI (@yaB.{0}) (@List.cons_append.{0}))) (aI (aI (@List.drop_nil.{0}) (@List.drop_zero.{0})) (aI (@yaF.{0}) (@yaj.{0}))))) (aI (aI (aI (@List.length_append.{0}) (aI (@List.length_cons.{0}) (@List.length_map.{0,0}))) (aI (aI (@List.length_nil.{0}) (@yaC.{0})) (aI (@List.map_cons.{0,0}) (@List.map_nil.{0,0})))) (aI (aI (@yal.{0}) (aI (@List.nil_append.{0}) (@List.not_mem_nil.{0}))) (aI (aI (@List.reverse_cons.{0}) (@List.reverse_nil.{0})) (aI (@List.set_cons_zero.{0}) (@List.take_nil.{0})))))) (aI (aI (aI (aI (@List.take_zero.{0}) (aI (@Nat.add_zero) (@yad))) (aI (aI (@yan) (@Option.getD_none.{0})) (aI (@Option.getD_some.{0}) (@Option.map_none.{0,0})))) (aI (aI (@Option.map_some.{0,0}) (aI (@V.v.injEq) (@Value.bool.injEq))) (aI (aI (@Value.int.injEq) (@zh)) (aI (@zi) (@zj))))) (aI (aI (aI (@and_self) (aI (@and_true) (@qV))) (aI (aI (@qW) (@qR)) (aI (@qS) (@qT)))) (aI (aI (@qU) (aI (@zd) (@zc))) (aI (aI (@zf) (@ze)) (aI (@za) (@qY))))))) (aI (aI (aI (aI (aI (@zg) (aI (@zb) (@qX))) (aI (@qZ) (aI (@qQ) (@kZ)))) (aI (aI (@wb) (aI (@wc) (@kU))) (aI (aI (@kV) (@kT)) (aI (@false_or) (@kY))))) (aI (aI (aI (@wg) (aI (@wh) (@wa))) (aI (aI (@wm) (@wu)) (aI (@wy) (@wD)))) (aI (aI (@wH) (aI (@wL) (@wP))) (aI (aI (@wT) (@wj)) (aI (@lg0) (@lg1)))))) (aI (aI (aI (aI (@je) (aI (@jj) (@jo))) (aI (aI (@ju) (@jA)) (aI (@jF) (@jK)))) (aI (aI (@jM) (aI (@jO) (@jQ))) (aI (aI (@lg2) (@lg3)) (aI (@lg4) (@lg5))))) (aI (aI (aI (@lg6) (aI (@lg7) (@lg8))) (aI (aI (@lg9) (@wr)) (aI (@ww) (@ji)))) (aI (aI (@jn) (aI (@jt) (@jz))) (aI (aI (@jE) (@jJ)) (aI (@wB) (@wF)))))))) (aI (aI (aI (aI (aI (aI (@wJ) (aI (@wN) (@wR))) (aI (@wV) (aI (@wZ) (@jd)))) (aI (aI (@qaq) (aI (@wl) (@wt))) (aI (aI (@jf) (@jk)) (aI (@jp) (@jv))))) (aI (aI (aI (@jB) (aI (@jG) (@jL))) (aI (aI (@jN) (@jP)) (aI (@jR) (@wx)))) (aI (aI (@wC) (aI (@wG) (@wK))) (aI (aI (@wO) (@wS)) (aI (@wW) (@ja)))))) (aI (aI (aI (aI (@wq) (aI (@wv) (@wz))) (aI (aI (@wE) (@wI)) (aI (@wM) (@wQ)))) (aI (aI (@wU) (aI (@not_false_eq_true) (@ko))) (aI (aI (@kn) (@zo)) (aI (@zO) (@kK))))) (aI (aI (aI (@kH) (aI (@zu) (@zn))) (aI (aI (@zH) (@kN)) (aI (@kQ) (@zA)))) (aI (aI (@zP) (aI (@kC) (@kJ))) (aI (aI (@zJ) (@zL)) (aI (@kO) (@zr))))))) (aI (aI (aI (aI (aI (@zE) (aI (@kz) (@kI))) (aI (aI (@zt) (@zv)) (aI (@zw) (@zM)))) (aI (aI (@zp) (aI (@kF) (@zB))) (aI (aI (@zN) (@zT)) (aI (@zQ) (@ky))))) (aI (aI (aI (@zk) (aI (@kG) (@zy))) (aI (aI (@kP) (@zx)) (aI (@zm) (@ka)))) (aI (aI (@kb) (aI (@kc) (@ke))) (aI (aI (@kB) (@kx)) (aI (@zK) (@zG)))))) (aI (aI (aI (aI (@kr) (aI (@zq) (@or_false))) (aI (aI (@kS) (@kR)) (aI (@qB) (@qe)))) (aI (aI (@qo) (aI (@qj) (@qL))) (aI (aI (@qM) (@qc)) (aI (@qJ) (@qd))))) (aI (aI (aI (@qf) (aI (@qP) (@qa))) (aI (aI (@qN) (@qh)) (aI (@qb) (@qs)))) (aI (aI (@qu) (aI (@qv) (@qK))) (aI (aI (@qr) (@qn)) (aI (@wi) (@true_and))))))))
def rY:=aI (aI (aI (aI (aI (aI (@qaX) (@qbp)) (aI (@qbq) (@qcn))) (aI (aI (@qcm) (@qcs)) (aI (@qcx) (aI (@qcw) (@qcv))))) (aI (aI (aI (@qcu) (@qcr)) (aI (@qcq) (@qct))) (aI (aI (@qcz) (@qcy)) (aI (@qcA) (aI (@qcp) (@qco)))))) (aI (aI (aI (aI (@we) (@wd)) (aI (@qaW) (@qbt))) (aI (aI (@qbu) (@qbV)) (aI (@qbl) (aI (@qaG) (@qaH))))) (aI (aI (aI (@qaK) (@qaJ)) (aI (@qaI) (@qbR))) (aI (aI (@qbS) (@qaP)) (aI (@qaO) (aI (@qaN) (@qaS))))))) (aI (aI (aI (aI (aI (@qax) (@qav)) (aI (@qaw) (@qay))) (aI (aI (@qaz) (@qaA)) (aI (@qat) (aI (@qau) (@qbT))))) (aI (aI (aI (@qbY) (@qbX)) (aI (@qbN) (@qbM))) (aI (aI (@qaU) (@qbe)) (aI (@qbf) (aI (@qar) (@qbE)))))) (aI (aI (aI (aI (@qbH) (@qby)) (aI (@qbw) (@qbi))) (aI (aI (@qbh) (@qbg)) (aI (@qbD) (aI (@qaE) (@qaC))))) (aI (aI (aI (@qaD) (@qaF)) (aI (@qaB) (@qbC))) (aI (aI (@qaT) (@qaZ)) (aI (@qbb) (aI (@qba) (@qaY)))))))
end Go.Fx
namespace Go.Fx.K
open Go Go.Fx
def nT:Array Value:=#[.int .u32 0,.int .u32 0,.int .u32 0,.int .u32 0,.int .u32 0,.int .u32 0,.int .u32 0,.int .u32 0,.int .u8 0,.int .u8 0,.int .u8 0,.int .u8 0,.int .u8 0,.int .u8 0,.int .u8 0,.int .u8 0,.int .u8 0,.int .u8 0,.int .u8 0,.int .u8 0,.int .u8 0,.int .u8 0,.int .u8 0,.int .u8 0,.int .u8 0,.int .u8 0,.int .u8 0,.int .u8 0,.int .u8 0,.int .u8 0,.int .u8 0,.int .u8 0,.int .u8 0,.int .u8 0,.int .u8 0,.int .u8 0,.int .u8 0,.int .u8 0,.int .u8 0,.int .u8 0,.int .u8 0,.int .u8 0,.int .u8 0,.int .u8 0,.int .u8 0,.int .u8 0,.int .u8 0,.int .u8 0,.int .u8 0,.int .u8 0,.int .u8 0,.int .u8 0,.int .u8 0,.int .u8 0,.int .u8 0,.int .u8 0,.int .u8 0,.int .u8 0,.int .u8 0,.int .u8 0,.int .u8 0,.int .u8 0,.int .u8 0,.int .u8 0,.int .u8 0,.int .u8 0,.int .u8 0,.int .u8 0,.int .u8 0,.int .u8 0,.int .u8 0,.int .u8 0,.int .u64 0]
end Go.Fx.K
namespace Go.Fx.K
open Go Go.Fx
abbrev MA (n x:Nat):bH:=⟨some n,.mov (.tmp x),none⟩
abbrev LA (n x:Nat):bH:=⟨some n,.load none (.tmp x),none⟩
abbrev FA (n k x:Nat):bH:=⟨some n,.fld k (.tmp x),none⟩
abbrev SA (n k x:Nat):bH:=⟨some n,.load (some k) (.tmp x),none⟩
abbrev XA (n k x y:Nat):bH:=⟨some n,.idx k (.tmp x) (.tmp y),none⟩
abbrev CA (n:Nat) (x:Int):bH:=⟨some n,.mov (.const (.int .i64 x)),none⟩
abbrev WA (k x y:Nat):bH:=⟨none,.store k (.tmp x) (.tmp y),none⟩
abbrev UA (n:Nat) (x:LOp):bH:=⟨some n,x,none⟩
abbrev GA (n:Nat) (x:LOp) (a:Nat) (b:Bool):bH:=⟨some n,x,some (a,b)⟩
open Go.Operand renaming tmp → t, const → k
open Go.Value renaming int → i, bool → y
open Go.IntKind renaming i64 → j
open Option renaming some → s, none → o
open Go.Fx.LOp renaming mov → m, load → l, fld → f, bin → b, idx → x, store → w, pick → p, len → n, box → u
open Go.Fx.LCode renaming seq → q, reg → r, cond → c, block → z
open Go.Fx.LPlan renaming take → v, alt → h
open Bool renaming false → g, true → d
def c11:LCode:=(q (r 0 [UA 2 (m (k (.slice o 0 0)))]) (q (r 0 [MA 3 0,UA 4 (.nilc (t 3)),FA 5 4 4,LA 6 5,UA 7 (.call 29 [(t 6)]),MA 2 7]) .ret))
def c12:LCode:=(q (r 1 [UA 3 (u 0 (t 1)),UA 4 (m (k (.string ⟨#[]⟩))),UA 5 (m (k (.string ⟨#[]⟩))),CA 6 0]) (q (r 0 [MA 12 0,UA 13 (.nilc (t 12)),FA 14 4 13,
 (LA 15 14),UA 16 (.fn 31 [(t 3)]),UA 17 (.call 30 [(t 15),(t 16)]),MA 7 17]) (q (q (r 0 [MA 18 7,UA 19 (b .lss g (t 18) (k (i j 0)))]) (c (t 19) (q (r 0 [UA 4 (m (k (.string ⟨#[]⟩))),
 (UA 5 (m (k (.string ⟨#[]⟩)))),CA 6 5]) .ret) .skip)) (q (.tree 1 (v 0 [1,2,3,8,9,10,11,13,14] (MA 21 0) (v 1 [2,3,8,9,10,11,13,14] (UA 22 (.nilc (t 21))) (v 2 [3,8,9,10,11,13,14] (FA 23 0 22)
 (v 3 [8,9,10,11,13,14] (LA 24 23) (v 4 [5,8,9,10,11,13,14] (FA 25 0 3) (v 5 [8,9,10,11,13,14] (LA 26 25) (v 6 [7,8,9,10,11,13,14] (FA 27 1 3) (v 7 [8,9,10,11,13,14] (LA 28 27)
 (h 8 (UA 29 (.call 24 [(t 24),(t 26),(t 28)])) g (v 9 [10,11,13,14] (MA 20 29) (v 10 [13,14] (UA 30 (.ext (t 20) 0)) (v 11 [14] (UA 31 (.ext (t 20) 1)) (h 12 (UA 8 (.alloc 0 (.agg (yaf 512 (.int .u8 0))))) d
 (h 13 (WA 512 8 30) g (v 14 [] (MA 9 31) .done) .none) .none)))) (h 12 (UA 8 (.alloc 0 (.agg (yaf 512 (.int .u8 0))))) d (h 8 (UA 29 (.call 24 [(t 24),(t 26),(t 28)])) g (v 9 [10,11,13,14] (MA 20 29)
 (v 10 [13,14] (UA 30 (.ext (t 20) 0)) (v 11 [14] (UA 31 (.ext (t 20) 1)) (h 13 (WA 512 8 30) g (v 14 [] (MA 9 31) .done) .none)))) .none) .none))))))))))) (q (q (r 0 [MA 32 9,
 (UA 33 (b .neq g (t 32) (k (i j 0))))]) (c (t 33) (q (r 0 [MA 34 9,UA 4 (m (k (.string ⟨#[]⟩))),UA 5 (m (k (.string ⟨#[]⟩))),MA 6 34]) .ret) .skip)) (q (r 1 [FA 36 0 3,
 (LA 37 36),FA 38 1 3,LA 39 38,SA 40 512 8,UA 41 (.call 25 [(t 37),(t 39),(t 40)]),MA 35 41,UA 42 (.ext (t 35) 0),UA 43 (.ext (t 35) 1),UA 10 (.alloc 0 (.agg #[i j 0,i j 0,.string ⟨#[]⟩,.string ⟨#[]⟩])),
 (WA 4 10 42),MA 11 43]) (q (q (.qui 0 [MA 44 11,UA 45 (.not (t 44)),MA 46 45,GA 47 (f 1 (t 10)) 46 g,GA 48 (l o (t 47)) 46 g,GA 49 (f 2 (t 3)) 46 g,
 (GA 50 (l o (t 49)) 46 g),GA 51 (b .neq g (t 48) (t 50)) 46 g,UA 52 (p (t 46) (k (y d)) (t 51)),MA 53 52,GA 54 (f 0 (t 10)) 53 g,GA 55 (l o (t 54)) 53 g,GA 56 (m (t 0)) 53 g,
 (GA 57 (.nilc (t 56)) 53 g),GA 58 (f 1 (t 57)) 53 g,GA 59 (l o (t 58)) 53 g,GA 60 (f 0 (t 3)) 53 g,GA 61 (l o (t 60)) 53 g,GA 62 (x 1 (t 59) (t 61)) 53 g,GA 63 (l o (t 62)) 53 g,
 (GA 64 (b .neq g (t 55) (t 63)) 53 g),UA 65 (p (t 53) (k (y d)) (t 64))]) (c (t 65) (q (r 0 [UA 4 (m (k (.string ⟨#[]⟩))),UA 5 (m (k (.string ⟨#[]⟩))),CA 6 8]) .ret) .skip)) (q
 (.qui 0 [FA 66 2 10,LA 67 66,FA 68 3 10,LA 69 68,MA 4 67,MA 5 69,CA 6 0]) .ret))))))))
def c13:LCode:=(q (r 1 [UA 3 (u 0 (t 1)),CA 4 0]) (q (q (.qui 0 [LA 6 3,UA 7 (b .lss g (t 6) (k (i j 0))),MA 8 7,GA 9 (l o (t 3)) 8 g,GA 10 (m (t 0)) 8 g,
 (GA 11 (.nilc (t 10)) 8 g),GA 12 (f 1 (t 11)) 8 g,GA 13 (l o (t 12)) 8 g,GA 14 (n (t 13)) 8 g,GA 15 (b .geq g (t 9) (t 14)) 8 g,UA 16 (p (t 8) (k (y d)) (t 15))]) (c (t 16)
 (q (r 0 [CA 4 1]) .ret) .skip)) (q (q (r 0 [MA 17 0,LA 18 3,UA 19 (.call 32 [(t 17),(t 18)]),MA 5 19]) (q (r 0 [MA 20 5,UA 21 (b .neq g (t 20) (k (i j 0)))])
 (c (t 21) (q (r 0 [MA 22 5,MA 4 22]) .ret) .skip))) (q (r 0 [MA 23 0,MA 24 0,UA 25 (.nilc (t 24)),FA 26 4 25,LA 27 26,UA 28 (.fn 34 [(t 3)]),
 (UA 29 (.call 33 [(t 27),(t 28)])),UA 30 (.nilc (t 23)),FA 31 4 30,WA 1 31 29]) (q (q (.qui 0 [MA 32 0,UA 33 (.nilc (t 32)),FA 34 5 33,LA 35 34,
 (LA 36 3),UA 37 (b .eql g (t 35) (t 36))]) (c (t 37) (r 0 [MA 38 0,UA 39 (.nilc (t 38)),FA 40 5 39,⟨o,w 1 (t 40) (k (.int .i64 (-1))),o⟩]) .skip)) (q (r 0 [CA 4 0])
 .ret))))))
def c20:LCode:=(q (r 0 [UA 2 (m (k (y g)))]) (q (r 0 [MA 3 0,UA 4 (.nilc (t 3)),FA 5 4 4,LA 6 5,MA 2 6]) .ret))
def c21:LCode:=(q (r 1 [UA 4 (.alloc 0 (.agg (yaf 64 (.int .u8 0)))),CA 5 0]) (q (q (r 0 [MA 8 0,MA 9 1,UA 10 (.call 17 [(t 8),(t 9)]),MA 6 10])
 (q (r 0 [MA 11 6,UA 12 (b .neq g (t 11) (k (i j 0)))]) (c (t 12) (q (r 0 [UA 13 (.build (yab 64 (.int .u8 0)) []),MA 14 6,WA 64 4 13,MA 5 14])
 .ret) .skip))) (q (q (r 0 [MA 15 0,UA 16 (.nilc (t 15)),FA 17 1 16,LA 18 17,MA 19 1,UA 20 (.lookup (.int .i64) (.slice o 0 0) g (t 18) (t 19)),MA 7 20])
 (q (r 0 [MA 21 7,UA 22 (n (t 21)),UA 23 (b .gtr g (t 22) (k (i j 0)))]) (c (t 23) (q (r 0 [MA 24 7,MA 25 7,UA 26 (n (t 25)),UA 27 (b .sub d (t 26) (k (i j 1))),XA 28 64 24 27,
 (SA 29 64 28),WA 64 4 29,CA 5 0]) .ret) .skip))) (q (q (r 0 [MA 30 0,UA 31 (.nilc (t 30)),FA 32 0 31,LA 33 32,MA 34 1,
 (XA 35 65 33 34),FA 36 64 35,LA 37 36]) (c (t 37) (q (r 0 [UA 38 (.build (yab 64 (.int .u8 0)) []),WA 64 4 38,CA 5 131]) .ret)
 .skip)) (q (r 0 [MA 39 0,UA 40 (.nilc (t 39)),FA 41 0 40,LA 42 41,MA 43 1,XA 44 65 42 43,FA 45 0 44,SA 46 64 45,WA 64 4 46,
 (CA 5 0)]) .ret)))))
def c23:LCode:=(q (r 1 [UA 4 (.alloc 0 (.agg (yaf 64 (.int .u8 0))))]) (q (r 0 [UA 6 (.prim (.pslc 64 g g g) [(t 4)]),UA 7 (.eff .cps 0 [(t 6),(k (.string ⟨#[87,83,69,71]⟩))])]) (q
 (r 0 [UA 8 (.prim (.pslc 64 d d d) [(t 4),(k (i j 4)),(k (i j 12)),(k (i j 12))]),MA 9 1,UA 10 (.call 42 [(t 8),(t 9)])]) (q (r 3 [MA 11 0,MA 12 1,UA 13 (.lits 0 1 2 [i j 0] [(0,(t 11)),(1,(t 12))]),
 (UA 14 (.call 44 [(t 13)])),UA 15 (.eff .b2s 0 [(t 14)]),UA 16 (.lits 1 1 1 [.string ⟨#[]⟩] [(0,(t 15))]),UA 17 (.call 43 [(k (i j 140)),(t 16)]),UA 5 (.alloc 2 (.agg (yaf 16 (.int .u8 0)))),
 (WA 16 5 17)]) (q (.tail 2 0 [UA 18 (.prim (.pslc 64 d g g) [(t 4),(k (i j 12))]),UA 19 (.prim (.pslc 16 g g g) [(t 5)]),UA 20 (.copy 1 (t 18) (t 19))]) (q (r 0 [SA 21 64 4,
 (WA 64 4 21)]) .ret))))))
def c29:LCode:=(q (r 0 [UA 2 (m (k (.slice o 0 0)))]) (q (q (r 0 [MA 3 0,UA 4 (.eqn g (t 3) (k (.slice o 0 0)))]) (c (t 4) (q (r 0 [UA 2 (m (k (.slice o 0 0)))]) .ret) .skip)) (q (r 2 [
 (UA 5 (.lits 0 4 0 [i j 0,i j 0,i j 0,.string ⟨#[]⟩] [])),MA 6 0,UA 7 (.append 1 4 40 (t 5) (t 6)),MA 2 7]) .ret)))
def c31:LCode:=(q (r 1 [UA 2 (u 0 (t 0)),UA 3 (m (k (y g)))]) (q (r 0 [FA 4 0 2,SA 5 3 4,SA 6 3 1,UA 7 (.eqf g [(0,(.int .i64)),(1,(.int .i64)),(2,(.int .i64))] (t 5) (t 6)),
 (MA 3 7)]) .ret))
def c35:LCode:=(q (r 0 [UA 4 (m (k (y g)))]) (q (r 0 [MA 5 1,MA 6 0,UA 7 (.nilc (t 6)),FA 8 5 7,LA 9 8,UA 10 (b .neq g (t 5) (t 9)),MA 11 10,
 (GA 12 (m (t 0)) 11 d),GA 13 (m (t 1)) 11 d,GA 14 (.call 52 [(t 12),(t 13)]) 11 d,GA 15 (n (t 14)) 11 d,GA 16 (b .eql g (t 15) (k (i j 0))) 11 d,UA 17 (p (t 11) (t 16) (k (y g))),
 (MA 4 17)]) .ret))
def c36l0:LCode:=q (r 0 [UA 11 (b .lss g (t 10) (t 9))]) (q (c (t 11) .skip (.exit 0)) (q (z 1 (q (r 0 [MA 12 10,MA 3 12]) (q (q (r 0 [MA 13 0,MA 14 3,UA 15 (.call 35 [(t 13),(t 14)]),
 (UA 16 (.not (t 15)))]) (c (t 16) (.exit 1) .skip)) (q (q (r 0 [MA 17 0,MA 18 3,UA 19 (.call 32 [(t 17),(t 18)]),MA 4 19]) (q (r 0 [MA 20 4,UA 21 (b .neq g (t 20) (k (i j 0)))])
 (c (t 21) (q (r 0 [MA 22 4,MA 2 22]) .ret) .skip))) (q (r 0 [MA 23 0,MA 24 0,MA 25 3,UA 26 (.nilc (t 23)),FA 27 5 26,WA 1 27 25,
 (UA 28 (.nilc (t 24))),FA 29 6 28,⟨o,w 1 (t 29) (k (i j 0)),o⟩]) (q (r 0 [CA 2 0]) .ret)))))) (r 0 [UA 30 (b .add d (t 10) (k (i j 1))),MA 10 30])))
def c36:LCode:=(q (r 0 [CA 2 0]) (q (q (r 0 [MA 5 0,UA 6 (.nilc (t 5)),FA 7 1 6,LA 8 7,UA 9 (n (t 8)),CA 10 0]) (z 0 (.loop c36l0)))
 (q (r 0 [CA 2 140]) .ret)))
def c40l0:LCode:=q (r 0 [UA 10 (.next (t 9)),UA 11 (.ext (t 10) 0)]) (q (c (t 11) .skip (.exit 0)) (z 1 (q (r 0 [UA 12 (.entry (t 9)),UA 13 (.ext (t 12) 0),MA 4 13]) (r 2 [MA 14 3,
 (MA 15 4),UA 16 (.lits 0 1 1 [i j 0] [(0,(t 15))]),UA 17 (.append 1 1 8 (t 14) (t 16)),MA 3 17]))))
def c40:LCode:=(q (r 0 [UA 2 (m (k (.slice o 0 0)))]) (q (r 0 [UA 3 (m (k (.slice o 0 0)))]) (q (q (r 1 [MA 5 0,UA 6 (.nilc (t 5)),FA 7 1 6,LA 8 7,UA 9 (.range 0 (t 8))])
 (z 0 (.loop c40l0))) (q (r 0 [MA 18 3,UA 19 (.call 54 [(t 18)])]) (q (r 0 [MA 20 3,MA 2 20]) .ret)))))
def c43l0:LCode:=q (r 0 [UA 18 (b .lss g (t 17) (t 16))]) (q (c (t 18) .skip (.exit 0)) (q (z 1 (q (r 0 [XA 19 1 15 17,LA 20 19,MA 7 20]) (.tree 0 (v 0 [4,5] (SA 21 73 5)
 (v 1 [2,3,4,5] (MA 22 7) (h 2 (UA 23 (.call 53 [(t 22)])) d (h 3 (UA 24 (.eff .b2s 0 [(t 23)])) d (h 4 (UA 25 (.call 56 [(t 21),(t 24)])) g (h 5 (WA 73 5 25) g .done .none) .none) .none)
 .none)))))) (r 0 [UA 26 (b .add d (t 17) (k (i j 1))),MA 17 26])))
def c43:LCode:=(q (r 1 [UA 4 (.alloc 0 (.agg (yaf 16 (.int .u8 0))))]) (q (.tree 2 (v 1 [2,3,4,5,7] (MA 10 0) (v 2 [3,4,5,7] (UA 11 (.conv g .u8 (t 10))) (h 0 (UA 9 (.call 55 [])) g
 (h 3 (UA 12 (.lits 0 1 1 [.int .u8 0] [(0,(t 11))])) g (h 4 (UA 13 (.eff .b2s 0 [(t 12)])) g (h 5 (UA 14 (.call 56 [(t 9),(t 13)])) g (h 6 (UA 5 (.alloc 1 (.agg nT))) g (h 7 (WA 73 5 14) g .done
 .none) .none) (h 6 (UA 5 (.alloc 1 (.agg nT))) g (h 5 (UA 14 (.call 56 [(t 9),(t 13)])) g (h 7 (WA 73 5 14) g .done .none) .none) .none)) (h 6 (UA 5 (.alloc 1 (.agg nT))) g (h 4 (UA 13 (.eff .b2s 0 [(t 12)])) g
 (h 5 (UA 14 (.call 56 [(t 9),(t 13)])) g (h 7 (WA 73 5 14) g .done .none) .none) .none) .none)) (h 6 (UA 5 (.alloc 1 (.agg nT))) g (h 3 (UA 12 (.lits 0 1 1 [.int .u8 0] [(0,(t 11))])) g (h 4 (UA 13 (.eff .b2s 0 [(t 12)])) g
 (h 5 (UA 14 (.call 56 [(t 9),(t 13)])) g (h 7 (WA 73 5 14) g .done .none) .none) .none) .none) .none)) (h 3 (UA 12 (.lits 0 1 1 [.int .u8 0] [(0,(t 11))])) g (h 0 (UA 9 (.call 55 [])) g (h 4 (UA 13 (.eff .b2s 0 [(t 12)])) g
 (h 5 (UA 14 (.call 56 [(t 9),(t 13)])) g (h 6 (UA 5 (.alloc 1 (.agg nT))) g (h 7 (WA 73 5 14) g .done .none) .none) (h 6 (UA 5 (.alloc 1 (.agg nT))) g (h 5 (UA 14 (.call 56 [(t 9),(t 13)])) g
 (h 7 (WA 73 5 14) g .done .none) .none) .none)) (h 6 (UA 5 (.alloc 1 (.agg nT))) g (h 4 (UA 13 (.eff .b2s 0 [(t 12)])) g (h 5 (UA 14 (.call 56 [(t 9),(t 13)])) g (h 7 (WA 73 5 14) g
 .done .none) .none) .none) .none)) (h 4 (UA 13 (.eff .b2s 0 [(t 12)])) g (h 0 (UA 9 (.call 55 [])) g (h 5 (UA 14 (.call 56 [(t 9),(t 13)])) g (h 6 (UA 5 (.alloc 1 (.agg nT))) g (h 7 (WA 73 5 14) g
 .done .none) .none) (h 6 (UA 5 (.alloc 1 (.agg nT))) g (h 5 (UA 14 (.call 56 [(t 9),(t 13)])) g (h 7 (WA 73 5 14) g .done .none) .none) .none)) (h 6 (UA 5 (.alloc 1 (.agg nT))) g (h 0 (UA 9 (.call 55 [])) g
 (h 5 (UA 14 (.call 56 [(t 9),(t 13)])) g (h 7 (WA 73 5 14) g .done .none) .none) .none) .none)) (h 6 (UA 5 (.alloc 1 (.agg nT))) g (h 0 (UA 9 (.call 55 [])) g (h 4 (UA 13 (.eff .b2s 0 [(t 12)])) g
 (h 5 (UA 14 (.call 56 [(t 9),(t 13)])) g (h 7 (WA 73 5 14) g .done .none) .none) .none) (h 4 (UA 13 (.eff .b2s 0 [(t 12)])) g (h 0 (UA 9 (.call 55 [])) g (h 5 (UA 14 (.call 56 [(t 9),(t 13)])) g
 (h 7 (WA 73 5 14) g .done .none) .none) .none) .none)) .none))) (h 6 (UA 5 (.alloc 1 (.agg nT))) g (h 0 (UA 9 (.call 55 [])) g (h 3 (UA 12 (.lits 0 1 1 [.int .u8 0] [(0,(t 11))])) g (h 4 (UA 13 (.eff .b2s 0 [(t 12)])) g
 (h 5 (UA 14 (.call 56 [(t 9),(t 13)])) g (h 7 (WA 73 5 14) g .done .none) .none) .none) .none) (h 3 (UA 12 (.lits 0 1 1 [.int .u8 0] [(0,(t 11))])) g (h 0 (UA 9 (.call 55 [])) g (h 4 (UA 13 (.eff .b2s 0 [(t 12)])) g
 (h 5 (UA 14 (.call 56 [(t 9),(t 13)])) g (h 7 (WA 73 5 14) g .done .none) .none) .none) (h 4 (UA 13 (.eff .b2s 0 [(t 12)])) g (h 0 (UA 9 (.call 55 [])) g (h 5 (UA 14 (.call 56 [(t 9),(t 13)])) g
 (h 7 (WA 73 5 14) g .done .none) .none) .none) .none)) .none)) .none)))))) (q (q (r 0 [MA 15 1,UA 16 (n (t 15)),CA 17 0]) (z 0 (.loop c43l0))) (q (r 1 [SA 27 73 5,
 (UA 28 (.call 57 [(t 27)])),UA 8 (.alloc 0 (.agg (yaf 32 (.int .u8 0)))),WA 32 8 28]) (q (r 0 [UA 29 (.prim (.pslc 32 g d g) [(t 8),(k (i j 16))]),UA 30 (.prim (.s2a 16) [(t 29)]),
 (SA 31 16 30),WA 16 4 31]) .ret)))))
def c52l0:LCode:=q (r 0 [UA 14 (b .lss g (t 13) (t 12))]) (q (c (t 14) .skip (.exit 0)) (q (z 1 (q (r 1 [XA 15 4 11 13,SA 16 4 15,UA 7 (.alloc 0 (.agg #[i j 0,i j 0,i j 0,.string ⟨#[]⟩])),
 (WA 4 7 16)]) (q (r 0 [FA 17 0 7,FA 18 0 17,LA 19 18,MA 20 1,UA 21 (b .eql g (t 19) (t 20))]) (c (t 21) (r 2 [MA 22 5,SA 23 4 7,
 (UA 24 (.lits 0 4 1 [i j 0,i j 0,i j 0,.string ⟨#[]⟩] [(0,(t 23))])),UA 25 (.append 1 4 40 (t 22) (t 24)),MA 5 25]) .skip)))) (r 0 [UA 26 (b .add d (t 13) (k (i j 1))),MA 13 26])))
def c52:LCode:=(q (r 0 [UA 4 (m (k (.slice o 0 0)))]) (q (r 0 [UA 5 (m (k (.slice o 0 0)))]) (q (q (r 0 [MA 8 0,UA 9 (.nilc (t 8)),FA 10 4 9,LA 11 10,UA 12 (n (t 11)),
 (CA 13 0)]) (z 0 (.loop c52l0))) (q (r 0 [MA 27 5,MA 4 27]) .ret))))
def c73l0:LCode:=q (r 0 [UA 12 (b .lss g (t 11) (t 10))]) (q (c (t 12) .skip (.exit 0)) (q (z 1 (q (r 0 [MA 13 11,XA 14 1 9 11,LA 15 14,MA 7 13,MA 8 15])
 (q (z 2 (q (q (r 0 [MA 25 7,UA 26 (b .eql g (t 25) (k (i j 9))),MA 27 26,GA 28 (m (t 8)) 27 d,GA 29 (b .gtr g (t 28) (k (.int .u8 1))) 27 d,UA 30 (p (t 27) (t 29) (k (y g))),
 (MA 24 30)]) (c (t 24) .skip (r 0 [MA 31 7,UA 32 (b .gtr g (t 31) (k (i j 0))),MA 33 32,GA 34 (m (t 8)) 33 d,GA 35 (b .eql g (t 34) (k (.int .u8 0))) 33 d,UA 36 (p (t 33) (t 35) (k (y g))),
 (MA 24 36)]))) (c (t 24) (q (r 0 [CA 2 0,CA 3 0,CA 4 11]) .ret) (r 0 [MA 16 5,MA 17 8,UA 18 (b .and g (t 17) (k (.int .u8 127))),
 (UA 19 (.conv d .u64 (t 18))),MA 20 7,UA 21 (b .mul d (k (i j 7)) (t 20)),UA 22 (.shift .shl (t 19) (t 21)),UA 23 (b .or g (t 16) (t 22)),MA 5 23])))) (q (r 0 [MA 37 8,
 (UA 38 (b .lss g (t 37) (k (.int .u8 128))))]) (c (t 38) (q (r 0 [MA 39 7,UA 40 (b .add d (t 39) (k (i j 1))),MA 6 40]) (.exit 0)) .skip))))) (r 0 [UA 41 (b .add d (t 11) (k (i j 1))),
 (MA 11 41)])))
def c73:LCode:=(q (r 0 [CA 2 0,CA 3 0,CA 4 0]) (q (r 0 [UA 5 (m (k (.int .u64 0)))]) (q (r 0 [CA 6 0]) (q .skip (q (q (r 0 [MA 9 0,
 (UA 10 (n (t 9))),CA 11 0]) (z 0 (.loop c73l0))) (q (q (r 0 [MA 42 6,UA 43 (b .eql g (t 42) (k (i j 0)))]) (c (t 43) (q (r 0 [CA 2 0,CA 3 0,
 (CA 4 10)]) .ret) .skip)) (q (r 0 [MA 44 5,UA 45 (.shift .shr (t 44) (k (.int .u64 1))),UA 46 (.conv g .i64 (t 45)),MA 47 5,UA 48 (b .and g (t 47) (k (.int .u64 1))),
 (UA 49 (.conv g .i64 (t 48))),UA 50 (.neg (t 49)),UA 51 (b .xor g (t 46) (t 50)),MA 52 6,MA 2 51,MA 3 52,CA 4 0]) .ret)))))))
open Go Go.Fx Go.Proofs
theorem pol:Tryd.prog.follows .mixedOrders=true:=by kernel_rfl
theorem lw11:rlF Tryd.prog 11 c11=some (c11,[.tmp 2],8):=by kernel_rfl
theorem lw12:rlF Tryd.prog 12 c12=some (c12,[.tmp 4,.tmp 5,.tmp 6],70):=by kernel_rfl
theorem lw13:rlF Tryd.prog 13 c13=some (c13,[.tmp 4],41):=by kernel_rfl
theorem lw20:rlF Tryd.prog 20 c20=some (c20,[.tmp 2],7):=by kernel_rfl
theorem lw21:rlF Tryd.prog 21 c21=some (c21,[.cell 4 (some 64),.tmp 5],47):=by kernel_rfl
theorem lw23:rlF Tryd.prog 23 c23=some (c23,[.cell 4 (some 64)],22):=by kernel_rfl
theorem lw29:rlF Tryd.prog 29 c29=some (c29,[.tmp 2],8):=by kernel_rfl
theorem lw31:rlF Tryd.prog 31 c31=some (c31,[.tmp 3],8):=by kernel_rfl
theorem lw35:rlF Tryd.prog 35 c35=some (c35,[.tmp 4],18):=by kernel_rfl
theorem lw36:rlF Tryd.prog 36 c36=some (c36,[.tmp 2],31):=by kernel_rfl
theorem lw40:rlF Tryd.prog 40 c40=some (c40,[.tmp 2],21):=by kernel_rfl
theorem lw43:rlF Tryd.prog 43 c43=some (c43,[.cell 4 (some 16)],32):=by kernel_rfl
theorem lw52:rlF Tryd.prog 52 c52=some (c52,[.tmp 4],28):=by kernel_rfl
theorem lw73:rlF Tryd.prog 73 c73=some (c73,[.tmp 2,.tmp 3,.tmp 4],53):=by kernel_rfl
end Go.Fx.K
namespace Go.Fx.K
open Go Go.Fx
open Go.Operand renaming tmp → t, const → k
open Go.Value renaming int → i, bool → y
open Go.IntKind renaming i64 → j
open Option renaming some → s, none → o
open Go.Fx.LOp renaming mov → m, load → l, fld → f, bin → b, idx → x, store → w, pick → p, len → n, box → u
open Go.Fx.LCode renaming seq → q, reg → r, cond → c, block → z
open Go.Fx.LPlan renaming take → v, alt → h
open Bool renaming false → g, true → d
def c6:LCode:=(q (r 1 [UA 5 (u 0 (t 2)),CA 6 0]) (q (r 0 [MA 8 0,MA 9 1,UA 10 (.call 17 [(t 8),(t 9)]),MA 7 10]) (q (q (r 0 [MA 11 7,UA 12 (b .eql g (t 11) (k (i j 0)))])
 (c (t 12) (r 0 [MA 13 0,UA 14 (.call 18 [(t 13)]),MA 7 14]) .skip)) (q (q (r 0 [MA 15 7,UA 16 (b .eql g (t 15) (k (i j 0)))]) (c (t 16) (.tree 2 (v 0 [1,2,3,14] (MA 17 0)
 (v 1 [2,3,14] (UA 18 (.nilc (t 17))) (v 2 [3,14] (FA 19 1 18) (v 3 [14] (LA 20 19) (v 4 [14] (MA 21 1) (v 5 [6,7,8,10,13,14] (MA 22 0) (v 6 [7,8,10,13,14] (UA 23 (.nilc (t 22)))
 (v 7 [8,10,13,14] (FA 24 1 23) (v 8 [10,13,14] (LA 25 24) (v 9 [10,13,14] (MA 26 1) (v 11 [12,13,14] (SA 28 64 5) (h 10 (UA 27 (.lookup (.int .i64) (.slice o 0 0) g (t 25) (t 26))) d
 (h 12 (UA 29 (.lits 0 64 1 (yab 64 (.int .u8 0)) [(0,(t 28))])) d (h 13 (UA 30 (.append 1 64 64 (t 27) (t 29))) d (h 14 ⟨o,.mset (.int .i64) (t 20) (t 21) (t 30),o⟩ g .done .none) .none) .none)
 (h 12 (UA 29 (.lits 0 64 1 (yab 64 (.int .u8 0)) [(0,(t 28))])) d (h 10 (UA 27 (.lookup (.int .i64) (.slice o 0 0) g (t 25) (t 26))) d (h 13 (UA 30 (.append 1 64 64 (t 27) (t 29))) d (h 14 ⟨o,.mset (.int .i64) (t 20) (t 21) (t 30),o⟩ g
 .done .none) .none) .none) .none)))))))))))))) .skip)) (q (r 0 [MA 31 7,MA 6 31]) .ret)))))
def c7l0:LCode:=q (r 0 [UA 20 (.next (t 19)),UA 21 (.ext (t 20) 0)]) (q (c (t 21) .skip (.exit 0)) (z 1 (q (r 0 [UA 22 (.entry (t 19)),UA 23 (.ext (t 22) 0),UA 24 (.ext (t 22) 1),MA 4 23,
 (MA 5 24)]) (q (.tail 13 0 [MA 25 0,UA 26 (.nilc (t 25)),FA 27 0 26,LA 28 27,MA 29 4,MA 30 5,MA 31 5,UA 32 (n (t 31)),UA 33 (b .sub d (t 32) (k (i j 1))),
 (XA 34 64 30 33),SA 35 64 34,UA 36 (.build [.int .u8 0,.int .u8 0,.int .u8 0,.int .u8 0,.int .u8 0,.int .u8 0,.int .u8 0,.int .u8 0,.int .u8 0,.int .u8 0,.int .u8 0,.int .u8 0,.int .u8 0,.int .u8 0,.int .u8 0,.int .u8 0,.int .u8 0,.int .u8 0,.int .u8 0,.int .u8 0,.int .u8 0,.int .u8 0,.int .u8 0,.int .u8 0,.int .u8 0,.int .u8 0,.int .u8 0,.int .u8 0,.int .u8 0,.int .u8 0,.int .u8 0,.int .u8 0,.int .u8 0,.int .u8 0,.int .u8 0,.int .u8 0,.int .u8 0,.int .u8 0,.int .u8 0,.int .u8 0,.int .u8 0,.int .u8 0,.int .u8 0,.int .u8 0,.int .u8 0,.int .u8 0,.int .u8 0,.int .u8 0,.int .u8 0,.int .u8 0,.int .u8 0,.int .u8 0,.int .u8 0,.int .u8 0,.int .u8 0,.int .u8 0,.int .u8 0,.int .u8 0,.int .u8 0,.int .u8 0,.int .u8 0,.int .u8 0,.int .u8 0,.int .u8 0,.bool g] [(0,64,(t 35))]),
 (XA 37 65 28 29),WA 65 37 36]) (r 0 [MA 38 0,UA 39 (.nilc (t 38)),FA 40 1 39,LA 41 40,MA 42 4,⟨o,.mdel (.int .i64) (t 41) (t 42),o⟩])))))
def c7:LCode:=(q (r 0 [CA 2 0]) (q (r 0 [MA 6 0,UA 7 (.call 17 [(t 6),(k (i j 0))]),MA 3 7]) (q (q (r 0 [MA 8 3,UA 9 (b .eql g (t 8) (k (i j 0)))])
 (c (t 9) (r 0 [MA 10 0,UA 11 (.call 18 [(t 10)]),MA 3 11]) .skip)) (q (q (r 0 [MA 12 3,UA 13 (b .neq g (t 12) (k (i j 0)))]) (c (t 13) (q (r 0 [MA 14 3,MA 2 14])
 .ret) .skip)) (q (q (r 1 [MA 15 0,UA 16 (.nilc (t 15)),FA 17 1 16,LA 18 17,UA 19 (.range 0 (t 18))]) (z 0 (.loop c7l0))) (q (r 0 [CA 2 0]) .ret))))))

def c10:LCode:=(q (r 0 [CA 2 0]) (q (r 0 [MA 3 0,UA 4 (.nilc (t 3)),FA 5 1 4,LA 6 5,UA 7 (n (t 6)),MA 2 7]) .ret))
def c14l0:LCode:=q (r 0 [UA 11 (b .lss g (t 10) (t 9))]) (q (c (t 11) .skip (.exit 0)) (q (z 1 (q (r 0 [MA 12 10,MA 4 12]) (q (r 0 [MA 13 0,MA 14 4,UA 15 (.call 35 [(t 13),(t 14)])])
 (c (t 15) (r 0 [MA 16 3,UA 17 (b .add d (t 16) (k (i j 1))),MA 3 17]) .skip)))) (r 0 [UA 18 (b .add d (t 10) (k (i j 1))),MA 10 18])))
def c14:LCode:=(q (r 0 [CA 2 0]) (q (r 0 [CA 3 0]) (q (q (r 0 [MA 5 0,UA 6 (.nilc (t 5)),FA 7 1 6,LA 8 7,UA 9 (n (t 8)),CA 10 0])
 (z 0 (.loop c14l0))) (q (r 0 [MA 19 3,MA 2 19]) .ret))))
def c18:LCode:=(q (r 0 [CA 2 0]) (q (z 0 (q (r 0 [MA 4 0,UA 5 (.nilc (t 4)),FA 6 3 5,LA 7 6,UA 8 (b .eql g (t 7) (k (i j 0))),MA 3 8])
 (c (t 3) (q (r 0 [MA 9 0,UA 10 (.nilc (t 9)),FA 11 4 10,⟨o,w 1 (t 11) (k (y d)),o⟩]) (q (r 0 [CA 2 130]) .ret)) (q (r 0 [MA 13 0,UA 14 (.nilc (t 13)),
 (FA 15 3 14),LA 16 15,UA 17 (b .gtr g (t 16) (k (i j 0))),MA 12 17]) (c (t 12) (r 0 [MA 18 0,UA 19 (.nilc (t 18)),FA 20 3 19,LA 21 20,
 (UA 22 (b .sub d (t 21) (k (i j 1)))),UA 23 (.nilc (t 18)),FA 24 3 23,WA 1 24 22]) .skip))))) (q (r 0 [MA 25 0,UA 26 (.nilc (t 25)),FA 27 2 26,LA 28 27,
 (UA 29 (b .add d (t 28) (k (i j 1)))),UA 30 (.nilc (t 25)),FA 31 2 30,WA 1 31 29]) (q (r 0 [CA 2 0]) .ret))))
def c30l0:LCode:=q (r 0 [UA 9 (b .lss g (t 8) (t 7))]) (q (c (t 9) .skip (.exit 0)) (q (z 1 (q (r 0 [MA 10 8,MA 5 10]) (q (r 0 [MA 11 1,MA 12 0,MA 13 5,
 (XA 14 4 12 13),SA 15 4 14,UA 16 (.callv (t 11) [(t 15)])]) (c (t 16) (q (r 0 [MA 17 5,MA 4 17]) .ret) .skip)))) (r 0 [UA 18 (b .add d (t 8) (k (i j 1))),
 (MA 8 18)])))
def c30:LCode:=(q (r 0 [CA 4 0]) (q (q (r 0 [MA 6 0,UA 7 (n (t 6)),CA 8 0]) (z 0 (.loop c30l0))) (q (r 0 [UA 4 (m (k (.int .i64 (-1))))]) .ret)))
def c32l0:LCode:=q (r 0 [UA 18 (b .lss g (t 17) (k (i j 16)))]) (q (c (t 18) .skip (.exit 0)) (q (z 1 (q (r 0 [MA 19 17,MA 5 19]) (q (.tree 0 (v 0 [1,2,3,8,9] (MA 20 0)
 (v 1 [2,3,8,9] (UA 21 (.nilc (t 20))) (v 2 [3,8,9] (FA 22 0 21) (v 3 [8,9] (LA 23 22) (v 4 [6,8,9] (MA 24 1) (v 5 [6,8,9] (MA 25 5) (v 7 [8,9] (UA 27 (.build (yab 64 (.int .u8 0)) []))
 (h 6 (UA 26 (.call 39 [(t 24),(t 25)])) d (h 8 (UA 28 (.call 6 [(t 23),(t 26),(t 27)])) g (v 9 [] (MA 6 28) .done) .none) .none))))))))) (q (r 0 [MA 29 6,UA 30 (b .neq g (t 29) (k (i j 0)))])
 (c (t 30) (q (r 0 [MA 31 6,MA 4 31]) .ret) .skip))))) (r 0 [UA 32 (b .add d (t 17) (k (i j 1))),MA 17 32])))
def c32:LCode:=(q (r 0 [CA 4 0]) (q (q (r 0 [MA 9 0,UA 10 (.nilc (t 9)),FA 11 1 10,LA 12 11,MA 13 1,XA 14 1 12 13,LA 15 14,
 (UA 16 (b .eql g (t 15) (k (i j 0))))]) (c (t 16) (q (q (r 0 [CA 17 0]) (z 0 (.loop c32l0))) (q (r 0 [MA 33 0,UA 34 (.nilc (t 33)),FA 35 0 34,LA 36 35,
 (UA 37 (.call 7 [(t 36)])),MA 7 37]) (q (r 0 [MA 38 7,UA 39 (b .neq g (t 38) (k (i j 0)))]) (c (t 39) (q (r 0 [MA 40 7,MA 4 40]) .ret) .skip)))) .skip)) (q (r 0 [
 (MA 41 0),UA 42 (.nilc (t 41)),FA 43 2 42,LA 44 43,UA 45 (b .add d (t 44) (k (i j 1))),UA 46 (.nilc (t 41)),FA 47 2 46,WA 1 47 45]) (q (q (r 1 [
 (MA 48 0),MA 49 1,UA 50 (b .mul d (t 49) (k (i j 129))),MA 51 1,MA 52 0,UA 53 (.nilc (t 52)),FA 54 2 53,LA 55 54,UA 56 (.call 23 [(t 51),(t 55)]),
 (UA 57 (.lits 0 64 1 (yab 64 (.int .u8 0)) [(0,(t 56))])),UA 58 (.call 38 [(t 48),(t 50),(t 57)]),MA 8 58]) (q (r 0 [MA 59 8,UA 60 (b .neq g (t 59) (k (i j 0)))]) (c (t 60)
 (q (r 0 [MA 61 8,MA 4 61]) .ret) .skip))) (q (.tail 10 0 [MA 62 0,UA 63 (.nilc (t 62)),FA 64 1 63,LA 65 64,MA 66 1,MA 67 0,UA 68 (.nilc (t 67)),
 (FA 69 2 68),LA 70 69,XA 71 1 65 66,WA 1 71 70]) (q (r 0 [CA 4 0]) .ret))))))
def c33l0:LCode:=q (q (r 0 [MA 16 6,MA 17 0,UA 18 (n (t 17)),UA 19 (b .lss g (t 16) (t 18))]) (c (t 19) .skip (.exit 0))) (q (z 1 (q (r 1 [MA 22 0,MA 23 6,
 (XA 24 4 22 23),SA 25 4 24,UA 7 (.alloc 0 (.agg #[i j 0,i j 0,i j 0,.string ⟨#[]⟩])),WA 4 7 25]) (q (r 0 [MA 26 1,SA 27 4 7,UA 28 (.callv (t 26) [(t 27)]),
 (UA 29 (.not (t 28)))]) (c (t 29) (q (r 0 [MA 30 0,MA 31 5,SA 32 4 7,XA 33 4 30 31,WA 4 33 32]) (r 0 [MA 34 5,UA 35 (b .add d (t 34) (k (i j 1))),
 (MA 5 35)])) .skip)))) (r 0 [MA 20 6,UA 21 (b .add d (t 20) (k (i j 1))),MA 6 21]))
def c33:LCode:=(q (r 0 [UA 4 (m (k (.slice o 0 0)))]) (q (r 0 [MA 8 0,MA 9 1,UA 10 (.call 30 [(t 8),(t 9)]),MA 5 10]) (q (q (r 0 [MA 11 5,UA 12 (b .eql g (t 11) (k (.int .i64 (-1))))])
 (c (t 12) (q (r 0 [MA 13 0,MA 4 13]) .ret) .skip)) (q (q (r 0 [MA 14 5,UA 15 (b .add d (t 14) (k (i j 1))),MA 6 15]) (z 0 (.loop c33l0))) (q (r 0 [MA 36 0,
 (MA 37 5),UA 38 (.slice 4 (t 36) (s (t 37)) o o),⟨o,.eff (.clr 4 [i j 0,i j 0,i j 0,.string ⟨#[]⟩]) 0 [(t 38)],o⟩]) (q (r 0 [MA 39 0,MA 40 5,UA 41 (.slice 4 (t 39) o (s (t 40)) o),
 (MA 4 41)]) .ret))))))
def c39:LCode:=(q (r 0 [CA 4 0]) (q (r 0 [MA 5 0,UA 6 (b .mul d (t 5) (k (i j 129))),UA 7 (b .add d (t 6) (k (i j 1))),MA 8 1,UA 9 (b .mul d (t 8) (k (i j 8))),
 (UA 10 (b .add d (t 7) (t 9))),MA 4 10]) .ret))
def c94:LCode:=(q (r 0 [UA 4 (m (k (.int .u32 0)))]) (q (r 0 [MA 6 1,UA 7 (.conv g .u64 (t 6)),UA 8 (b .and g (t 7) (k (.int .u64 31))),MA 5 8]) (q (r 0 [MA 9 0,
 (MA 10 5),UA 11 (.shift .shl (t 9) (t 10)),MA 12 0,MA 13 5,UA 14 (b .sub g (k (.int .u64 32)) (t 13)),UA 15 (.shift .shr (t 12) (t 14)),UA 16 (b .or g (t 11) (t 15)),
 (MA 4 16)]) .ret)))
open Go Go.Fx Go.Proofs
theorem lw6:rlF Tryd.prog 6 c6=some (c6,[.tmp 6],32):=by kernel_rfl
theorem lw7:rlF Tryd.prog 7 c7=some (c7,[.tmp 2],43):=by kernel_rfl
theorem lw10:rlF Tryd.prog 10 c10=some (c10,[.tmp 2],8):=by kernel_rfl
theorem lw14:rlF Tryd.prog 14 c14=some (c14,[.tmp 2],20):=by kernel_rfl
theorem lw18:rlF Tryd.prog 18 c18=some (c18,[.tmp 2],32):=by kernel_rfl
theorem lw30:rlF Tryd.prog 30 c30=some (c30,[.tmp 4],19):=by kernel_rfl
theorem lw32:rlF Tryd.prog 32 c32=some (c32,[.tmp 4],72):=by kernel_rfl
theorem lw33:rlF Tryd.prog 33 c33=some (c33,[.tmp 4],42):=by kernel_rfl
theorem lw39:rlF Tryd.prog 39 c39=some (c39,[.tmp 4],11):=by kernel_rfl
theorem lw94:rlF Tryd.prog 94 c94=some (c94,[.tmp 4],17):=by kernel_rfl
end Go.Fx.K
