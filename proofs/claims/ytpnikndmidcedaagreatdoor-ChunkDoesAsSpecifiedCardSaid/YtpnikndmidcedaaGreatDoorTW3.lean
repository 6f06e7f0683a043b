import Derived.Test.YtpnikndmidcedaaGreatDoorTO14
import Derived.Test.YtpnikndmidcedaaGreatDoorKLow1
set_option linter.unusedVariables false
set_option linter.unusedSimpArgs false
set_option linter.unusedSectionVars false
namespace Go.Fx.K
open Go Go.Fx Go.Proofs
set_option maxRecDepth 20000
theorem agU {f:FuncId} {xs:List V} (h:Ok f xs (Is (.b true))):Fn Tryz.prog f xs [] [] (fun r _=>r=.b true):=(iR h fun r h' hr=>hr.1).2
abbrev tOp:Fx.T:=.st [.int .u8,.int .u8,.int .u16,.str,.str]
abbrev abN:Fx.T:=.sl 5 tOp
theorem Cb {k:IntKind} (hk:lo k=0) {x:List V} (h:WfT (.int k) x):∃ n:Nat,x=[.v (.int k n)]∧(n:Int)≤hi k:=by
 obtain ⟨n,h1,h2,h3⟩:∃ n:Int,x=[.v (.int k n)]∧lo k≤n∧n≤hi k:=by simpa only [WfT] using h
 obtain ⟨m,rfl⟩:=Int.eq_ofNat_of_zero_le (show 0≤n by omega)
 exact ⟨m,h1,h3⟩
theorem Nw {x:List V} (h:WfT .str x):∃ l:Bs,x=[sv l]:=by
 obtain ⟨s,h1,_⟩:=h
 obtain ⟨l,rfl⟩:=abV (b:=s)
 exact ⟨l,h1⟩
theorem pM {t:Fx.T} {ts:List Fx.T} {x:List V} (h:Ec (t::ts) x):∃ a b,x=a++b∧WfT t a∧Ec ts b:=by
 rwa [Ec.eq_2] at h
theorem exM {α β:Type} {g:α→β} {p:α→Prop}:∀ {els:List β},(∀ x∈els,∃ a,x=g a∧p a)→∃ l:List α,els=l.map g∧∀ a∈l,p a
 | [],_=>⟨[],rfl,by simp⟩
 | x::r,h=>by
  obtain ⟨a,rfl,ha⟩:=h x List.mem_cons_self
  obtain ⟨l,rfl,hl⟩:=exM (els:=r) fun y hy=>h y (List.mem_cons_of_mem _ hy)
  exact ⟨a::l,rfl,fun b hb=>(List.mem_cons.1 hb).elim (fun e=>e▸ha) (hl b)⟩
theorem abL {x:List V} (h:WfT tOp x):∃ o:Op,x=o.enc∧o.kind<256∧o.seg<256:=by
 rw [WfT] at h
 obtain ⟨_,_,rfl,q0,h⟩:=pM h
 obtain ⟨_,_,rfl,q1,h⟩:=pM h
 obtain ⟨_,_,rfl,q2,h⟩:=pM h
 obtain ⟨_,_,rfl,q3,h⟩:=pM h
 obtain ⟨_,_,rfl,q4,h⟩:=pM h
 rw [Ec.eq_1] at h
 subst h
 obtain ⟨n0,rfl,h0⟩:=Cb rfl q0
 obtain ⟨n1,rfl,h1⟩:=Cb rfl q1
 obtain ⟨n2,rfl,h2⟩:=Cb rfl q2
 obtain ⟨k,rfl⟩:=Nw q3
 obtain ⟨d,rfl⟩:=Nw q4
 have a0:(n0:Int)≤255:=h0
 have a1:(n1:Int)≤255:=h1
 exact ⟨⟨n0,n1,n2,k,d⟩,rfl,by show n0<256;omega,by show n1<256;omega⟩
theorem fn3:∀ xs,WfA [.int .u8,abN] xs→Fn Tryz.prog 3 xs [] [] (fun r _=>r=.b true):=by
 intro xs h
 obtain ⟨x1,_,rfl,h1,x2,_,rfl,h2,h⟩:=h
 obtain rfl:_=[]:=h
 obtain ⟨n,hn,hb⟩:=Cb rfl (show WfT (.int .u8) [x1] from h1)
 have a1:(n:Int)≤255:=hb
 obtain rfl:x1=.v (.int .u8 n):=by simpa using hn
 have h2':WfT abN [x2]:=h2
 rw [WfT] at h2'
 obtain ⟨els,h3,_,he⟩:=h2'
 obtain ⟨l,rfl,hl⟩:=exM (g:=Op.enc) (p:=fun o:Op=>o.kind<256∧o.seg<256) fun x hx=>abL (he x hx)
 obtain rfl:x2=.ro 5 (l.map Op.enc):=by simpa using h3
 exact agU (ok3 n (by omega) l hl)
end Go.Fx.K
