import Derived.Test.YtebjeeogjepcaaaGreatDoorT52
import Derived.Test.YtebjeeogjepcaaaGreatDoorHLow0
set_option linter.unusedVariables false
set_option linter.unusedSimpArgs false
set_option linter.unusedSectionVars false
open Int renaming le_refl → yaa, toNat_natCast → yac
open Nat renaming succ_mul → yab, mul_le_mul_right → yaf
open List renaming mem_append → yad, append_nil → yae
namespace Go.Fx.H
open Go Go.Fx Go.Proofs Go.Fx.R
section
variable {t u:Bs} {b k:Nat} {hv:List Sp}
theorem mk0 (hb:1≤b∧b≤4096) (ht:t.length≤4096):mkE t b=0:=by
 have:=Aq (s:=t.length) (b:=b) (by omega) (by omega)
 unfold mkE
 rw [if_neg (by omega),if_neg (by omega)]
theorem Jj (hb:1≤b∧b≤4096) (ht:t.length≤4096):mkM t b=⟨t.length,b,root (lvs t b)⟩:=by
 unfold mkM
 rw [if_pos (mk0 hb ht),yac]
theorem Ey (hb:1≤b∧b≤4096) (ht:t.length≤4096):(mkM t b).okP:=by
 have:=Aq (s:=t.length) (b:=b) (by omega) (by omega)
 rw [Jj hb ht]
 exact ⟨⟨by show (0:Int)≤t.length;omega,by show (t.length:Int)≤65536;omega⟩,⟨by show (1:Int)≤b;omega,by show (b:Int)≤4096;omega⟩,by show mY t.length b≤4096;omega⟩
theorem Mw (hb:1≤b∧b≤4096) (ht:t.length≤4096):(mkM t b).n=nb t.length b:=by
 rw [Jj hb ht];exact Mq hb.1
theorem Ej (hb:1≤b) (hk:k<nb t.length b):spn t b k=(((k*b:Nat):Int),((min t.length (k*b+b):Nat):Int))∧k*b<t.length:=by
 have h:=(sP hb).2 hk
 refine ⟨?_,h⟩
 unfold spn
 rw [l7]
 congr 1
 omega
theorem Mv (hb:1≤b∧b≤4096) (ht:t.length≤4096) (hk:k<nb t.length b):(mkM t b).span k=spn t b k:=by
 unfold Man.span
 rw [Mw hb ht,if_neg (by omega),(Ej hb.1 hk).1,Jj hb ht]
 have e1:(k:Int)*(b:Int)=((k*b:Nat):Int):=by rw [Int.natCast_mul]
 have e2:((k:Int)+1)*(b:Int)=((k*b+b:Nat):Int):=by rw [Int.add_mul,e1,Int.one_mul,Int.natCast_add]
 simp only
 rw [e1,e2]
 congr 1
 omega
theorem o5 (h:u.length=t.length):spn u b k=spn t b k:=by unfold spn;rw [l7,l7,h]
theorem o6 (hb:1≤b) (hk:k<nb t.length b):(0≤(spn t b k).1∧(spn t b k).1<(spn t b k).2)∧(spn t b k).2≤t.length∧(spn t b k).1=((k*b:Nat):Int)∧(spn t b k).2≤((k*b+b:Nat):Int):=by
 obtain ⟨e,h⟩:=Ej hb hk
 rw [e]
 generalize k*b=kb at *
 refine ⟨⟨?_,?_⟩,?_,?_,?_⟩<;>simp only<;>omega
theorem Ou (hb:1≤b) (hk:k<nb t.length b):(t.take (spn t b k).2.toNat).drop (spn t b k).1.toNat=bk t b k:=by
 obtain ⟨e,h⟩:=Ej hb hk
 rw [e]
 simp only [yac]
 rw [Ov]
theorem Ra (hk:k<nb t.length b):(lvs t b).getD k []=lf (bk t b k):=by
 unfold lvs Jr
 rw [List.getD_eq_getElem?_getD,List.getElem?_map,List.getElem?_map,List.getElem?_range hk]
 rfl
theorem Ir {i j:Nat} {x:Int} (hb:1≤b) (hi:i<nb t.length b) (hj:j<nb t.length b) (h1:(spn t b i).1≤x∧x<(spn t b i).2) (h2:(spn t b j).1≤x∧x<(spn t b j).2):i=j:=by
 have a1:=o6 hb hi
 have a2:=o6 hb hj
 rcases Nat.lt_trichotomy i j with h|h|h
 ·have:(i+1)*b≤j*b:=yaf b h
  rw [yab] at this
  omega
 ·exact h
 ·have:(j+1)*b≤i*b:=yaf b h
  rw [yab] at this
  omega
theorem Rs {l:List Sp} {s:Sp}:cov l s=true↔∀ x,s.1≤x→x<s.2→inS l x:=by
 unfold cov
 rw [List.isEmpty_iff,Jk nA]
 constructor
 ·intro h x h1 h2
  exact h x (mT.2 (bQ.2 (.inl ⟨h1,h2⟩)))
 ·intro h x hx
  rcases bQ.1 (mT.1 hx) with h1|h1
  ·exact h x h1.1 h1.2
  ·exact absurd h1 (by simp [inS])
theorem Fh {ls:List Bs} {n:Nat} {x:Int}:inS (dmO ls t b hv n) x↔∃ i,i<n∧dmg ls t b hv i=true∧(spn t b i).1≤x∧x<(spn t b i).2:=by
 unfold dmO
 constructor
 ·rintro ⟨s,hs,h1⟩
  obtain ⟨i,hi,rfl⟩:=List.mem_map.1 hs
  obtain ⟨h2,h3⟩:=List.mem_filter.1 hi
  exact ⟨i,List.mem_range.1 h2,h3,h1⟩
 ·rintro ⟨i,h2,h3,h1⟩
  exact ⟨_,List.mem_map.2 ⟨i,List.mem_filter.2 ⟨List.mem_range.2 h2,h3⟩,rfl⟩,h1⟩
theorem Ws {ls:List Bs} (hb:1≤b) (hk:k<nb t.length b):cov (ofS (dmO ls t b hv (nb t.length b))) (spn t b k)=dmg ls t b hv k:=by
 rw [Bool.eq_iff_iff,Rs]
 have hs:=o6 hb hk
 constructor
 ·intro h
  obtain ⟨i,h1,h2,h3⟩:=Fh.1 (mT.1 (h (spn t b k).1 (yaa _) hs.1.2))
  rw [Ir hb hk h1 ⟨yaa _,hs.1.2⟩ h3];exact h2
 ·intro h x h1 h2
  exact mT.2 (Fh.2 ⟨k,hk,h,h1,h2⟩)
theorem Pc {L:List Sp} {s:Sp} (hL:Sep L) (hs:s.1<s.2) (h:∀ v∈L,v.2≤s.1):tot (sE L s)=tot L+(s.2-s.1)∧∀ v∈sE L s,v.2≤s.2:=by
 rcases List.eq_nil_or_concat L with rfl|⟨A,v,rfl⟩
 ·have e:sE [] s=[s]:=Sep.ext (jR gV) (dS.2 hs) fun x=>by
   rw [pO gV,bQ]
   constructor
   ·rintro (h|h)
    ·exact absurd h (by simp [inS])
    ·exact .inl h
   ·rintro (h|h)
    ·exact .inr h
    ·exact absurd h (by simp [inS])
  rw [e]
  exact ⟨by simp [tot],by simp⟩
 ·rw [List.concat_eq_append] at *
  obtain ⟨sA,s1,sAv⟩:=eT.1 hL
  have hv:=dS.1 s1
  have hv2:=h v (by simp)
  by_cases hlt:v.2<s.1
  ·have e:sE (A++[v]) s=(A++[v])++[s]:=Sep.ext (jR hL) (eT.2 ⟨hL,dS.2 hs,fun a ha c hc=>by
    simp at hc;subst hc
    rcases yad.1 ha with ha|ha
    ·have:=sAv a ha v (by simp);omega
    ·simp at ha;subst ha;exact hlt⟩) fun x=>by
     rw [pO hL,gZ (m:=[s]),bQ (s:=s)]
     constructor
     ·rintro (h|h)
      ·exact .inl h
      ·exact .inr (.inl h)
     ·rintro (h|h|h)
      ·exact .inl h
      ·exact .inr h
      ·exact absurd h (by simp [inS])
   rw [e]
   refine ⟨by rw [lI (m:=[s])];simp [tot],fun c hc=>?_⟩
   rcases yad.1 hc with hc|hc
   ·have:=h c hc;omega
   ·simp at hc;subst hc;exact yaa _
  ·have he:v.2=s.1:=by omega
   have hsp:Sep (A++[(v.1,s.2)]):=eT.2 ⟨sA,dS.2 (by simp only;omega),fun a ha c hc=>by
    simp at hc;subst hc
    exact sAv a ha v (by simp)⟩
   have e:sE (A++[v]) s=A++[(v.1,s.2)]:=Sep.ext (jR hL) hsp fun x=>by
    rw [pO hL]
    simp only [gZ,bQ,c9,or_false]
    constructor
    ·rintro ((h|h)|h)
     ·exact .inl h
     ·exact .inr (by omega)
     ·exact .inr (by omega)
    ·rintro (h|h)
     ·exact .inl (.inl h)
     ·by_cases h3:x<v.2
      ·exact .inl (.inr ⟨h.1,h3⟩)
      ·exact .inr (by omega)
   rw [e]
   refine ⟨by simp only [lI,fF,oZ];omega,fun c hc=>?_⟩
   rcases yad.1 hc with hc|hc
   ·have:=h c (List.mem_append_left _ hc);omega
   ·simp at hc;subst hc;exact yaa _
theorem Oe {ls:List Bs} (hb:1≤b):∀ n,n≤nb t.length b→tot (ofS (dmO ls t b hv n))=tot (dmO ls t b hv n)∧∀ v∈ofS (dmO ls t b hv n),v.2≤((n*b:Nat):Int)
 | 0,_=>by
  have e:dmO ls t b hv 0=[]:=rfl
  rw [e]
  exact ⟨rfl,fun v hv=>absurd hv (by simp [ofS,sV])⟩
 | n+1,hn=>by
  obtain ⟨h1,h2⟩:=Oe hb n (by omega)
  have hs:=o6 hb (show n<nb t.length b by omega)
  have hm:(n+1)*b=n*b+b:=yab n b
  rw [fK,hm]
  cases hd:dmg ls t b hv n with
  | false =>
   simp only [Bool.false_eq_true,if_false,yae]
   exact ⟨h1,fun v hv=>by have:=h2 v hv;omega⟩
  | true =>
   simp only [if_true]
   rw [Qv]
   obtain ⟨h3,h4⟩:=Pc (L:=ofS (dmO ls t b hv n)) nA hs.1.2 fun v hv=>by have:=h2 v hv;omega
   refine ⟨?_,fun v hv=>?_⟩
   ·show tot (sE _ _)=_
    rw [h3,h1,lI];simp [tot]
   ·have:=h4 v hv;omega
end
section
variable {t:Bs} {b k:Nat}
theorem Tg {u:Bs} {hv:List Sp} (hb:1≤b∧b≤4096) (ht:t.length≤4096) (hu:u.length=t.length) (hh:vd hv=true) (hl:¬(hv≠[]∧(t.length:Int)<eM hv)):dmE (mkM t b) (lvs t b) u hv=0:=by
 refine dm0 ?_ ?_
 ·rw [Mw hb ht,nG,Jj hb ht]
  rintro (h|h|h|h)
  ·exact h rfl
  ·exact h (by rw [hu])
  ·rw [hh] at h;cases h
  ·exact hl h
 ·rw [Jj hb ht]
theorem aaQ {u:Bs} {hv:List Sp} (hb:1≤b∧b≤4096) (ht:t.length≤4096) (hu:u.length=t.length) (hh:vd hv=true) (hl:¬(hv≠[]∧(t.length:Int)<eM hv)):dmL (mkM t b) (lvs t b) u hv=ofS (dmO (lvs t b) u b hv (nb u.length b)):=by
 unfold dmL
 rw [if_neg (by rw [Tg hb ht hu hh hl];decide),Jj hb ht]
 simp only [yac]
end
end Go.Fx.H
namespace Go.Fx.H
open Go Go.Fx Go.Proofs Go.Fx.R
set_option maxRecDepth 20000
theorem c8_parts:c8=.seq (pt 0 c8) (.seq (pt 1 c8) (.seq (pt 2 c8) (.seq (pt 3 c8) (.seq (pt 4 c8) (.seq (pt 5 c8) (.seq (pt 6 c8) (rt 7 c8))))))):=by rfl
theorem c8l0_parts:c8l0=.seq (pt 0 c8l0) (.seq (pt 1 c8l0) (.seq (.block 1 (.seq (pt 0 (jO (pt 2 c8l0))) (.seq (pt 1 (jO (pt 2 c8l0))) (.seq (pt 2 (jO (pt 2 c8l0))) (.seq (pt 3 (jO (pt 2 c8l0))) (.seq (pt 4 (jO (pt 2 c8l0))) (.seq (pt 5 (jO (pt 2 c8l0))) (rt 6 (jO (pt 2 c8l0)))))))))) (rt 3 c8l0))):=by rfl
structure E8 (t:Bs) (b:Int) (u:Bs) (hv:List Sp) (e:Env):Prop where
 g0:get e 0=sv t
 g1:get e 1=.i b
 g2:get e 2=sv u
 g3:get e 3=aG hv
abbrev R8:St→Prop:=eO [] 0 [.tmp 8] (Is (.b true))
section
variable {t u:Bs} {b:Int} {hv:List Sp} {N:St→Prop} {X:Nat→St→Prop} {e:Env} {bb:Nat}
theorem adD (S:S13) (hE:E8 t b u hv e) (hN:∀ e b',t.length≤300→(1≤b∧b≤300)→u.length=t.length→hv.length≤40→vd hv=true→¬(hv≠[]∧(t.length:Int)<eM hv)→E8 t b u hv e→N ⟨e,[],b'⟩):aw cT (pt 1 c8) N X R8 ⟨e,[],bb⟩:=by
 obtain ⟨g0,g1,g2,g3⟩:=hE
 conv=>arg 2;whnf
 simp -implicitDefEqProofs only [rX,↓rY,aA,↓reduceIte,Nat.reduceEqDiff,reduceCtorEq,cxN,bX,g0,g1,g2,g3]
 cases d1:decide (300<(t.length:Int)) with
 | true =>
  simp -implicitDefEqProofs only [↓rY]
  refine aD S ⟨trivial,trivial⟩ rfl trivial ?_
  simp -implicitDefEqProofs only [rX,↓reduceIte,aR,aU,wfV]
 | false =>
 simp -implicitDefEqProofs only [↓rY]
 cases d2:decide (b<1) with
 | true =>
  simp -implicitDefEqProofs only [↓rY]
  refine aD S ⟨trivial,trivial⟩ rfl trivial ?_
  simp -implicitDefEqProofs only [rX,↓reduceIte,aR,aU,wfV]
 | false =>
 simp -implicitDefEqProofs only [↓rY]
 cases d3:decide (300<b) with
 | true =>
  simp -implicitDefEqProofs only [↓rY]
  refine aD S ⟨trivial,trivial⟩ rfl trivial ?_
  simp -implicitDefEqProofs only [rX,↓reduceIte,aR,aU,wfV]
 | false =>
 simp -implicitDefEqProofs only [↓rY]
 cases d4:((u.length:Int) != (t.length:Int)) with
 | true =>
  simp -implicitDefEqProofs only [↓rY]
  refine aD S ⟨trivial,trivial⟩ rfl trivial ?_
  simp -implicitDefEqProofs only [rX,↓reduceIte,aR,aU,wfV]
 | false =>
 simp -implicitDefEqProofs only [↓rY]
 intro _
 cases d5:decide (40<(hv.length:Int)) with
 | true =>
  simp -implicitDefEqProofs only [↓rY]
  refine aD S ⟨trivial,trivial⟩ rfl trivial ?_
  simp -implicitDefEqProofs only [rX,↓reduceIte,aR,aU,wfV]
 | false =>
 simp -implicitDefEqProofs only [↓rY]
 refine aD (adT hv) sp1 rfl trivial ?_
 cases d6:vd hv with
 | false =>
  simp -implicitDefEqProofs only [rX,↓rY,aA,↓reduceIte,Nat.reduceEqDiff]
  refine aD S ⟨trivial,trivial⟩ rfl trivial ?_
  simp -implicitDefEqProofs only [rX,↓reduceIte,aR,aU,wfV]
 | true =>
 have d1':=of_decide_eq_false d1
 have d2':=of_decide_eq_false d2
 have d3':=of_decide_eq_false d3
 have d4':(u.length:Int)=t.length:=by simpa using d4
 have d5':=of_decide_eq_false d5
 simp -implicitDefEqProofs only [rX,↓rY,aA,↓reduceIte,Nat.reduceEqDiff,reduceCtorEq,List.getElem_map,bX,fR,g0,g3]
 intro _
 cases d7:decide (0<(hv.length:Int)) with
 | false =>
  have d7':=of_decide_eq_false d7
  have hnil:hv=[]:=List.length_eq_zero_iff.1 (by omega)
  simp -implicitDefEqProofs only [↓rY]
  exact hN _ _ (by omega) (by omega) (by omega) (by omega) d6 (fun h=>h.1 hnil) ⟨g0,g1,g2,g3⟩
 | true =>
  have d7':=of_decide_eq_true d7
  have hne:hv≠[]:=by rintro rfl;simp at d7'
  have hlt:=fun hh=>u9 hne (hh:=hh)
  simp -implicitDefEqProofs only [↓rY]
  intro _
  refine ⟨by simp only [lo,Fx.hi];omega,by omega,by omega,?_⟩
  rw [hlt]
  cases d8:decide ((t.length:Int)<eM hv) with
  | true =>
   simp -implicitDefEqProofs only [↓rY]
   refine aD S ⟨trivial,trivial⟩ rfl trivial ?_
   simp -implicitDefEqProofs only [rX,↓reduceIte,aR,aU,wfV]
  | false =>
   have d8':=of_decide_eq_false d8
   simp -implicitDefEqProofs only [↓rY]
   exact hN _ _ (by omega) (by omega) (by omega) (by omega) d6 (fun h=>d8' h.2) ⟨g0,g1,g2,g3⟩
end
section
variable {t u:Bs} {n:Nat} {hv:List Sp} {N:St→Prop} {X:Nat→St→Prop} {e:Env} {bb:Nat}
theorem adC (ht:t.length≤300) (hE:E8 t n u hv e) (hN:∀ e b',E8 t n u hv e→get e 9=.ptr 0 0 0→get e 10=.i (mkE t n)→N ⟨e,[.var (mkM t n).enc],b'⟩):aw cT (pt 2 c8) N X R8 ⟨e,[],bb⟩:=by
 obtain ⟨g0,g1,g2,g3⟩:=hE
 obtain ⟨q1,q2,q3⟩:=iP (m:=mkM t n) lO
 obtain ⟨v1,v2,v3⟩:=iP (m:=yN) rfl
 conv=>arg 2;whnf
 simp -implicitDefEqProofs only [rX,↓reduceIte,Nat.reduceEqDiff,cxN,g0,g1]
 refine aD (Vp t n (by omega)) ⟨⟨trivial,trivial,trivial⟩,rfl,rfl,trivial⟩ (by simp [ren,b9,uZ]) trivial ?_
 simp -implicitDefEqProofs only [rX,↓rY,aA,cells?,splice,↓reduceIte,Nat.reduceEqDiff,aE,zM,q1,Cl]
 rw [v1,v3,yae]
 refine ⟨Nat.le_refl _,hN _ _ ⟨g0,g1,g2,g3⟩ ?_ ?_⟩<;>rfl
structure H8 (t u:Bs) (n:Nat) (hv:List Sp):Prop where
 x1:t.length≤300
 x2:1≤n∧n≤300
 x3:u.length=t.length
 x4:hv.length≤40
 x5:vd hv=true
 x6:¬(hv≠[]∧(t.length:Int)<eM hv)
abbrev oR (t u:Bs) (n:Nat) (hv:List Sp):List Sp:=ofS (dmO (lvs t n) u n hv (nb u.length n))
theorem adB (hH:H8 t u n hv) (hE:E8 t n u hv e) (g9:get e 9=.ptr 0 0 0) (g10:get e 10=.i (mkE t n)) (hN:∀ e b',E8 t n u hv e→get e 9=.ptr 0 0 0→get e 10=.i 0→get e 11=aG (oR t u n hv)→get e 12=.i 0→N ⟨e,[.var (mkM t n).enc],b'⟩):aw cT (pt 3 c8) N X R8 ⟨e,[.var (mkM t n).enc],bb⟩:=by
 obtain ⟨g0,g1,g2,g3⟩:=hE
 obtain ⟨h1,h2,h3,h4,h5,h6⟩:=hH
 obtain ⟨q1,q2,q3⟩:=iP (m:=mkM t n) lO
 rw [mk0 (by omega) (by omega)] at g10
 have hD:D16 (lvs t n):=Cm
 have hll:(lvs t n).length≤1000000000:=by
  rw [nG]
  have:=Ch (n:=t.length) (b:=n) (by omega)
  omega
 have o:=Zb (mkM t n) (lvs t n) u hv (Ey (by omega) (by omega)) lO hD hll (by omega) (by omega)
 rw [Tg (by omega) (by omega) h3 h5 h6,aaQ (by omega) (by omega) h3 h5 h6] at o
 conv=>arg 2;whnf
 simp -implicitDefEqProofs only [rX,↓rY,rdK,↓reduceIte,Nat.reduceEqDiff,reduceCtorEq,cxN,g0,g1,g2,g3,g9,q1,q2]
 refine aD (Qu t n (by omega) (by omega)) ⟨⟨trivial,trivial,trivial⟩,rfl,rfl,trivial⟩ rfl (by simp [aC,aB]) ?_
 simp -implicitDefEqProofs only [rX,↓reduceIte,Nat.reduceEqDiff]
 refine aD o ⟨⟨cJ.1,trivial,trivial,trivial,trivial⟩,cJ.2,⟨rfl,rfl⟩,rfl,⟨rfl,rfl⟩,trivial⟩ rfl (by simp [aC,aB]) ?_
 simp -implicitDefEqProofs only [rX,↓rY,↓reduceIte,Nat.reduceEqDiff]
 refine hN _ _ ⟨g0,g1,g2,g3⟩ ?_ ?_ ?_ ?_
 ·exact g9
 ·exact g10
 ·rfl
 ·rfl
theorem adA (hE:E8 t n u hv e) (g9:get e 9=.ptr 0 0 0) (g10:get e 10=.i 0) (g11:get e 11=aG (oR t u n hv)) (g12:get e 12=.i 0) (hN:∀ e b',E8 t n u hv e→get e 9=.ptr 0 0 0→get e 11=aG (oR t u n hv)→N ⟨e,[.var (mkM t n).enc],b'⟩):aw cT (pt 4 c8) N X R8 ⟨e,[.var (mkM t n).enc],bb⟩:=by
 obtain ⟨g0,g1,g2,g3⟩:=hE
 conv=>arg 2;whnf
 simp -implicitDefEqProofs only [rX,↓rY,aA,↓reduceIte,Nat.reduceEqDiff,aR,aU,wfV,cxN,g10,g12,bne_self_eq_false]
 exact hN _ _ ⟨g0,g1,g2,g3⟩ g9 g11
structure L8 (t u:Bs) (n:Nat) (hv:List Sp) (k:Nat) (e:Env):Prop where
 g0:get e 0=sv t
 g2:get e 2=sv u
 g3:get e 3=aG hv
 g9:get e 9=.ptr 0 0 0
 g11:get e 11=aG (oR t u n hv)
 g13:get e 13=.i (tot (dmO (lvs t n) u n hv k))
 g90:get e 90=.i k
 g89:get e 89=.i (nb t.length n)
abbrev h8 (t:Bs) (n k:Nat):List Blk:=[.var (mkM t n).enc,.var (enS (spn t n k))]
theorem acS {k:Nat} (hH:H8 t u n hv) (hk:k<nb t.length n) (hL:L8 t u n hv k e) (g14:get e 14=.i k) (hN:∀ e b',L8 t u n hv k e→get e 15=.ptr 1 0 0→N ⟨e,h8 t n k,b'⟩):aw cT (pt 1 (jO (pt 2 c8l0))) N X R8 ⟨e,[.var (mkM t n).enc],bb⟩:=by
 obtain ⟨g0,g2,g3,g9,g11,g13,g90,g89⟩:=hL
 obtain ⟨h1,h2,h3,h4,h5,h6⟩:=hH
 obtain ⟨q1,q2,q3⟩:=iP (m:=mkM t n) lO
 have o:=Vo (mkM t n) k (Ey (by omega) (by omega)) lO
 rw [Mv (by omega) (by omega) hk] at o
 conv=>arg 2;whnf
 simp -implicitDefEqProofs only [rX,↓rY,↓reduceIte,Nat.reduceEqDiff,cxN,g9,g14,q1,q2]
 refine aD o ⟨⟨cJ.1,trivial,trivial⟩,cJ.2,rfl,trivial⟩ rfl trivial ?_
 simp -implicitDefEqProofs only [rX,↓rY,aA,cells?,splice,↓reduceIte,Nat.reduceEqDiff,Nat.reduceAdd,aE,bL,iT]
 refine hN _ _ ⟨g0,g2,g3,g9,g11,g13,g90,g89⟩ ?_
 rfl
theorem acR {k:Nat} (hH:H8 t u n hv) (hk:k<nb t.length n) (hL:L8 t u n hv k e) (g15:get e 15=.ptr 1 0 0) (hN:∀ e b',L8 t u n hv k e→get e 15=.ptr 1 0 0→get e 16=sv (bk t n k)→get e 17=sv (bk u n k)→N ⟨e,h8 t n k,b'⟩):aw cT (pt 2 (jO (pt 2 c8l0))) N X R8 ⟨e,h8 t n k,bb⟩:=by
 obtain ⟨g0,g2,g3,g9,g11,g13,g90,g89⟩:=hL
 obtain ⟨h1,h2,h3,h4,h5,h6⟩:=hH
 conv=>arg 2;whnf
 simp -implicitDefEqProofs only [rX,↓rY,zD,↓reduceIte,Nat.reduceEqDiff,Nat.reduceAdd,cR,cxN,bX,g0,g2,g15,enS]
 have hs:=o6 h2.1 hk
 have e1:(sb t).extract (spn t n k).1.toNat (spn t n k).2.toNat=sb (bk t n k):=by rw [eV,Ou h2.1 hk]
 have e2:(sb u).extract (spn t n k).1.toNat (spn t n k).2.toNat=sb (bk u n k):=by
  rw [eV,←o5 h3,Ou h2.1 (by rw [h3];exact hk)]
 rw [e1,e2]
 refine ⟨⟨⟨by omega,by omega⟩,by omega,by omega⟩,⟨⟨by omega,by omega⟩,by omega,by omega⟩,hN _ _ ⟨g0,g2,g3,g9,g11,g13,g90,g89⟩ ?_ ?_ ?_⟩
 ·exact g15
 ·rfl
 ·rfl
theorem Gx {l:List Sp} {s:Sp} {h:List Blk} {g:Nat→Option Nat}:aM h g [aG l,.agg (enS s)]∧wkL [aG l,.agg (enS s)] (aX h g [aG l,.agg (enS s)]):=⟨⟨trivial,⟨trivial,trivial,trivial⟩,trivial⟩,⟨rfl,rfl⟩,⟨rfl,rfl,trivial⟩,trivial⟩
theorem Lf {k:Nat} (h1:t.length≤300) (h2:1≤n) (hk:k<nb t.length n):BdS (spn t n k):=by
 have:=o6 h2 hk
 unfold BdS
 omega
theorem Ox (hH:H8 t u n hv):Vd (oR t u n hv):=Kp nA fun x hx=>by
 obtain ⟨i,h1,_,h3⟩:=Fh.1 (mT.1 hx)
 have:=o6 hH.x2.1 h1
 have:=hH.x1
 have:=hH.x3
 omega
theorem acQ {k:Nat} (hH:H8 t u n hv) (hk:k<nb t.length n) (hL:L8 t u n hv k e) (g15:get e 15=.ptr 1 0 0) (g16:get e 16=sv (bk t n k)) (g17:get e 17=sv (bk u n k)) (hN:∀ e b',L8 t u n hv k e→get e 15=.ptr 1 0 0→get e 16=sv (bk t n k)→get e 17=sv (bk u n k)→get e 18=.b (dmg (lvs t n) u n hv k)→N ⟨e,h8 t n k,b'⟩):aw cT (pt 3 (jO (pt 2 c8l0))) N X R8 ⟨e,h8 t n k,bb⟩:=by
 obtain ⟨g0,g2,g3,g9,g11,g13,g90,g89⟩:=hL
 have hH0:=hH
 obtain ⟨h1,h2,h3,h4,h5,h6⟩:=hH
 have o:=Vn (oR t u n hv) (spn t n k) (Ox hH0) (Lf h1 h2.1 hk)
 have hc:cov (oR t u n hv) (spn t n k)=dmg (lvs t n) u n hv k:=by
  rw [←o5 h3];exact Ws h2.1 (by rw [h3];exact hk)
 rw [hc] at o
 conv=>arg 2;whnf
 simp -implicitDefEqProofs only [rX,↓rY,↓reduceIte,Nat.reduceEqDiff,Nat.reduceAdd,cxN,bL,bM,g11,g15]
 refine aD o Gx rfl trivial ?_
 simp -implicitDefEqProofs only [rX,↓reduceIte]
 refine hN _ _ ⟨g0,g2,g3,g9,g11,g13,g90,g89⟩ ?_ ?_ ?_ ?_
 ·exact g15
 ·exact g16
 ·exact g17
 ·rfl
structure M8 (t u:Bs) (n:Nat) (hv:List Sp) (k:Nat) (e:Env):Prop where
 g0:get e 0=sv t
 g2:get e 2=sv u
 g3:get e 3=aG hv
 g9:get e 9=.ptr 0 0 0
 g11:get e 11=aG (oR t u n hv)
 g13:get e 13=.i (tot (dmO (lvs t n) u n hv (k+1)))
 g90:get e 90=.i k
 g89:get e 89=.i (nb t.length n)
 g15:get e 15=.ptr 1 0 0
 g16:get e 16=sv (bk t n k)
 g17:get e 17=sv (bk u n k)
 g18:get e 18=.b (dmg (lvs t n) u n hv k)
theorem aaP (hH:H8 t u n hv):∀ k,k≤nb t.length n→0≤tot (dmO (lvs t n) u n hv k)∧tot (dmO (lvs t n) u n hv k)≤((k*n:Nat):Int)
 | 0,_=>⟨yaa _,by simp [dmO,tot]⟩
 | k+1,hk=>by
  have ih:=aaP hH k (by omega)
  have hs:=o6 (t:=u) hH.x2.1 (show k<nb u.length n by rw [hH.x3];omega)
  have hm:(k+1)*n=k*n+n:=yab k n
  rw [fK,lI,hm]
  split
  ·simp only [fF,oZ];omega
  ·simp only [oZ];omega
theorem acP {k:Nat} (hH:H8 t u n hv) (hk:k<nb t.length n) (hL:L8 t u n hv k e) (g15:get e 15=.ptr 1 0 0) (g16:get e 16=sv (bk t n k)) (g17:get e 17=sv (bk u n k)) (g18:get e 18=.b (dmg (lvs t n) u n hv k)) (hN:∀ e b',M8 t u n hv k e→N ⟨e,h8 t n k,b'⟩):aw cT (pt 4 (jO (pt 2 c8l0))) N X R8 ⟨e,h8 t n k,bb⟩:=by
 have hb:=aaP hH k (by omega)
 have hs:=o6 hH.x2.1 hk
 have hkn:k*n≤300:=by
  have:=(sP hH.x2.1).2 hk
  have:=hH.x1
  omega
 have hsum:=fK (ls:=lvs t n) (t:=u) (b:=n) (hv:=hv) (n:=k)
 obtain ⟨g0,g2,g3,g9,g11,g13,g90,g89⟩:=hL
 conv=>arg 2;whnf
 simp -implicitDefEqProofs only [rX,↓rY,↓reduceIte,Nat.reduceEqDiff,Nat.reduceAdd,cxN,g18]
 cases hd:dmg (lvs t n) u n hv k with
 | false =>
  rw [hd] at hsum g18
  simp -implicitDefEqProofs only [↓rY]
  refine hN _ _ ⟨g0,g2,g3,g9,g11,?_,g90,g89,g15,g16,g17,?_⟩
  ·rw [hsum]
   simp only [Bool.false_eq_true,if_false,yae]
   exact g13
  ·rw [hd];exact g18
 | true =>
  rw [hd] at hsum g18
  have h300:=hH.x1
  simp -implicitDefEqProofs only [rX,↓rY,g13,g15,enS]
  refine ⟨by simp only [lo,Fx.hi];omega,by simp only [lo,Fx.hi];omega,?_⟩
  refine hN _ _ ⟨g0,g2,g3,g9,g11,?_,g90,g89,g15,g16,g17,?_⟩
  ·rw [hsum,if_pos rfl,lI,o5 hH.x3]
   simp only [fF,oZ,Int.add_zero]
   rfl
  ·rw [hd];exact g18
theorem acO {k:Nat} (hH:H8 t u n hv) (hk:k<nb t.length n) (hL:M8 t u n hv k e) (hN:∀ e b',M8 t u n hv k e→get e 19=.b (bk t n k != bk u n k&&cov hv (spn t n k))→N ⟨e,h8 t n k,b'⟩):aw cT (pt 5 (jO (pt 2 c8l0))) N X R8 ⟨e,h8 t n k,bb⟩:=by
 obtain ⟨g0,g2,g3,g9,g11,g13,g90,g89,g15,g16,g17,g18⟩:=hL
 conv=>arg 2;whnf
 simp -implicitDefEqProofs only [rX,↓rY,aA,↓reduceIte,Nat.reduceEqDiff,Nat.reduceAdd,cxN,eK,g16,g17,eK]
 cases h:(bk t n k==bk u n k) with
 | true =>
  simp -implicitDefEqProofs only [rX,↓rY,kf]
  refine hN _ _ ⟨g0,g2,g3,g9,g11,g13,g90,g89,g15,g16,g17,g18⟩ ?_
  simp [bne,h]
  rfl
 | false =>
  simp -implicitDefEqProofs only [rX,↓rY,bL,bM,ke,g15,g3]
  refine aD (Vn hv (spn t n k) (Ee.1 hH.x5) (Lf hH.x1 hH.x2.1 hk)) Gx rfl trivial ?_
  simp -implicitDefEqProofs only [rX,↓rY,↓reduceIte,Nat.reduceEqDiff]
  refine hN _ _ ⟨g0,g2,g3,g9,g11,g13,g90,g89,g15,g16,g17,g18⟩ ?_
  simp [bne,h]
  rfl
theorem acN {k:Nat} (hH:H8 t u n hv) (hk:k<nb t.length n) (hL:M8 t u n hv k e) (g19:get e 19=.b (bk t n k != bk u n k&&cov hv (spn t n k))) (hN:∀ e b',M8 t u n hv k e→N ⟨e,h8 t n k,b'⟩):aw cT (rt 6 (jO (pt 2 c8l0))) N X R8 ⟨e,h8 t n k,bb⟩:=by
 obtain ⟨g0,g2,g3,g9,g11,g13,g90,g89,g15,g16,g17,g18⟩:=hL
 have hl1:(bk t n k).length≤100000000000:=by rw [l7];have:=hH.x1;omega
 have hl2:(bk u n k).length≤100000000000:=by rw [l7];have:=hH.x1;have:=hH.x3;omega
 have hku:k<nb u.length n:=by rw [hH.x3];exact hk
 have hdm:dmg (lvs t n) u n hv k=((lf (bk u n k) != lf (bk t n k))&&cov hv (spn t n k)):=by
  unfold dmg
  rw [Ra hk,o5 hH.x3]
 conv=>arg 2;whnf
 simp -implicitDefEqProofs only [rX,↓rY,zk,aA,↓reduceIte,Nat.reduceEqDiff,Nat.reduceAdd,aR,aU,wfV,cxN,g18,g19]
 cases hc:cov hv (spn t n k) with
 | false =>
  rw [hc,Bool.and_false] at hdm
  simp -implicitDefEqProofs only [↓rY,hdm,Bool.and_false,bne_self_eq_false]
  refine hN _ _ ⟨g0,g2,g3,g9,g11,g13,g90,g89,g15,g16,g17,?_⟩
  rw [hdm];rw [hdm] at g18;exact g18
 | true =>
  rw [hc,Bool.and_true] at hdm
  simp -implicitDefEqProofs only [rX,hdm]
  cases hf:(lf (bk u n k) != lf (bk t n k)) with
  | true =>
   have hne:(bk t n k != bk u n k)=true:=by
    rw [bne_iff_ne]
    rintro h
    rw [h] at hf
    simp at hf
   rw [hf] at hdm
   simp -implicitDefEqProofs only [↓rY,hne,bne_self_eq_false]
   refine hN _ _ ⟨g0,g2,g3,g9,g11,g13,g90,g89,g15,g16,g17,?_⟩
   rw [hdm];rw [hdm] at g18;exact g18
  | false =>
   have heq:lf (bk u n k)=lf (bk t n k):=by simpa using hf
   rw [hf] at hdm
   cases hx:(bk t n k != bk u n k) with
   | false =>
    simp -implicitDefEqProofs only [↓rY,bne_self_eq_false]
    refine hN _ _ ⟨g0,g2,g3,g9,g11,g13,g90,g89,g15,g16,g17,?_⟩
    rw [hdm];rw [hdm] at g18;exact g18
   | true =>
    simp -implicitDefEqProofs only [↓rY,g16,show (false != true)=true from rfl]
    refine aD (Mh (bk t n k) hl1) ⟨⟨trivial,trivial⟩,rfl,trivial⟩ (by simp [ren,a7]) trivial ?_
    simp -implicitDefEqProofs only [rX,↓rY,↓reduceIte,Nat.reduceEqDiff,g17]
    refine aD (Mh (bk u n k) hl2) ⟨⟨trivial,trivial⟩,rfl,trivial⟩ (by simp [ren,a7]) trivial ?_
    simp -implicitDefEqProofs only [rX,↓rY,aA,↓reduceIte,Nat.reduceEqDiff,Nat.reduceAdd,aR,aU,wfV,oM lS lS,heq,beq_self_eq_true]
    refine hN _ _ ⟨g0,g2,g3,g9,g11,g13,g90,g89,g15,g16,g17,?_⟩
    rw [hdm];rw [hdm] at g18;exact g18
theorem acZ (hH:H8 t u n hv) (hE:E8 t n u hv e) (g9:get e 9=.ptr 0 0 0) (g11:get e 11=aG (oR t u n hv)) (g13:get e 13=.i 0) (hN:∀ e b',get e 11=aG (oR t u n hv)→get e 13=.i (tot (oR t u n hv))→N ⟨e,[.var (mkM t n).enc],b'⟩):aw cT (pt 6 c8) N X R8 ⟨e,[.var (mkM t n).enc],bb⟩:=by
 obtain ⟨g0,g1,g2,g3⟩:=hE
 obtain ⟨q1,q2,q3⟩:=iP (m:=mkM t n) lO
 obtain ⟨h1,h2,h3,h4,h5,h6⟩:=id hH
 have o:=Mi (mkM t n) (Ey (by omega) (by omega))
 rw [Mw (by omega) (by omega)] at o
 conv=>arg 2;whnf
 simp -implicitDefEqProofs only [rX,↓rY,↓reduceIte,cxN,g9,q1,q2]
 refine aD o pM rfl trivial ?_
 simp -implicitDefEqProofs only [rX,aA]
 refine gG (fun k:Nat=>(⟨[(90,.i k),(89,.i (nb t.length n)),(13,.i (tot (dmO (lvs t n) u n hv k))),(11,aG (oR t u n hv)),(9,.ptr 0 0 0),(3,aG hv),(2,sv u),(0,sv t)],[.var (mkM t n).enc],0⟩:St)) (fun k=>k≤nb t.length n) (fun k=>nb t.length n-k) 0 (Nat.zero_le _) ?_ ?_
 ·simp -implicitDefEqProofs only [rX,↓reduceIte,Nat.reduceEqDiff,reduceCtorEq,leE,leH,leB,aC,aB,wfE,wfB,wfV,g0,g2,g3,g9,g11,g13,mP]
  exact ⟨⟨rfl,rfl⟩,cH _⟩
 intro k hk M hM
 rw [c8l0_parts]
 simp only [qJ]
 conv=>arg 2;whnf
 simp -implicitDefEqProofs only [rX,↓rY,↓reduceIte,Nat.reduceEqDiff]
 conv=>arg 2;whnf
 simp -implicitDefEqProofs only [rX,↓reduceIte]
 cases hd:decide ((k:Int)<(nb t.length n:Int)) with
 | false =>
  have hd':=of_decide_eq_false hd
  have:k=nb t.length n:=by omega
  subst this
  simp -implicitDefEqProofs only [↓rY]
  refine hN _ _ rfl ?_
  have e1:=(Oe (t:=u) (b:=n) (ls:=lvs t n) (hv:=hv) h2.1 (nb u.length n) (Nat.le_refl _)).1
  rw [oR,e1,h3]
  rfl
 | true =>
  have hd':=of_decide_eq_true hd
  have hkl:k<nb t.length n:=by omega
  simp -implicitDefEqProofs only [↓rY]
  conv=>arg 2;whnf
  simp -implicitDefEqProofs only [rX,↓reduceIte,Nat.reduceEqDiff]
  refine acS hH hkl ⟨rfl,rfl,rfl,rfl,rfl,rfl,rfl,rfl⟩ rfl fun e b hL g15=>?_
  rw [qJ]
  refine acR hH hkl hL g15 fun e b hL g15 g16 g17=>?_
  rw [qJ]
  refine acQ hH hkl hL g15 g16 g17 fun e b hL g15 g16 g17 g18=>?_
  rw [qJ]
  refine acP hH hkl hL g15 g16 g17 g18 fun e b hL=>?_
  rw [qJ]
  refine acO hH hkl hL fun e b hL g19=>?_
  refine acN hH hkl hL g19 fun e b hL=>?_
  obtain ⟨g0,g2,g3,g9,g11,g13,g90,g89,g15,g16,g17,g18⟩:=hL
  have hnb:=Ch (n:=t.length) h2.1
  conv=>arg 2;whnf
  simp -implicitDefEqProofs only [rX,↓rY,aA,↓reduceIte,Nat.reduceAdd,g90]
  refine ⟨⟨by simp only [lo];omega,by simp only [Fx.hi];omega⟩,hM _ (k+1) (by omega) (by omega) ?_⟩
  simp -implicitDefEqProofs only [rX,↓reduceIte,Nat.reduceEqDiff,reduceCtorEq,leE,leH,leB,aC,aB,wfE,wfB,wfV,g0,g2,g3,g9,g11,g13,g89,mP]
  exact ⟨by omega,cH _⟩
theorem acY (S:S13) (hH:H8 t u n hv) (g11:get e 11=aG (oR t u n hv)) (g13:get e 13=.i (tot (oR t u n hv))):aw cT (rt 7 c8) N X R8 ⟨e,[.var (mkM t n).enc],bb⟩:=by
 conv=>arg 2;whnf
 simp -implicitDefEqProofs only [rX,cxN]
 refine aD S ⟨trivial,trivial⟩ rfl trivial ?_
 simp -implicitDefEqProofs only [rX,↓rY,↓reduceIte,Nat.reduceEqDiff,g11,g13]
 refine aD (adS _ (Ox hH)) sp1 rfl trivial ?_
 simp -implicitDefEqProofs only [rX,↓rY,↓reduceIte,Nat.reduceEqDiff,aR,aU,wfV,beq_self_eq_true]
end
theorem ok8 (S:S13) (t:Bs) (b:Int) (u:Bs) (hv:List Sp):Ok 8 [sv t,.i b,sv u,aG hv] (Is (.b true)):=by
 refine bU lw8 (by simp) ?_
 rw [c8_parts]
 simp -implicitDefEqProofs only [qJ]
 conv=>arg 2;whnf
 simp -implicitDefEqProofs only [rX,aA,Nat.reduceAdd,cxN,aL]
 refine adD S (t:=t) (b:=b) (u:=u) (hv:=hv) ⟨rfl,rfl,rfl,rfl⟩ fun e _ x1 x2 x3 x4 x5 x6 hE=>?_
 obtain ⟨n,rfl⟩:∃ n:Nat,b=n:=⟨b.toNat,by omega⟩
 have hH:H8 t u n hv:=⟨x1,by omega,x3,x4,x5,x6⟩
 simp -implicitDefEqProofs only [qJ]
 refine adC x1 hE fun e _ hE g9 g10=>?_
 simp -implicitDefEqProofs only [qJ]
 refine adB hH hE g9 g10 fun e _ hE g9 g10 g11 g12=>?_
 simp -implicitDefEqProofs only [qJ]
 refine adA hE g9 g10 g11 g12 fun e _ hE g9 g11=>?_
 simp -implicitDefEqProofs only [qJ]
 conv=>arg 2;whnf
 simp -implicitDefEqProofs only [rX,aA]
 refine acZ hH (e:=(13,.v (.int .i64 0))::e) ⟨hE.g0,hE.g1,hE.g2,hE.g3⟩ g9 g11 rfl fun e _ g11 g13=>?_
 exact acY S hH g11 g13
theorem fn8:∀ xs,WfA [.str,tI,.str,Ud] xs→Fn Tryz.prog 8 xs [] [] (fun r _=>r=.b true):=by
 intro xs h
 obtain ⟨x1,_,rfl,h1,x2,_,rfl,h2,x3,_,rfl,h3,x4,_,rfl,h4,h⟩:=h
 obtain rfl:_=[]:=h
 obtain ⟨t,rfl⟩:=Kh h1
 obtain ⟨b,rfl,_⟩:=Tu h2
 obtain ⟨u,rfl⟩:=Kh h3
 obtain ⟨o,rfl⟩:=Tt h4
 exact aaL (ok8 adZ t b u o)
end Go.Fx.H
