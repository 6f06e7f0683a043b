import Derived.Test.YtgajgdgaghmgjaaGreatDoorFxUse
import Derived.Test.YtgajgdgaghmgjaaGreatDoorFxFrz
import Derived.Test.YtgajgdgaghmgjaaGreatDoorProg
set_option linter.unusedVariables false
set_option linter.unusedSimpArgs false
set_option linter.unusedSectionVars false
open Array renaming replicate → yaa
open List renaming replicate → yab, getElem?_eq_some_iff → yaf, mem_append_right → yag
open Option.some renaming injEq → yac
open Prod.mk renaming injEq → yad
open Option renaming map_some → yae
namespace Go.Fx
open Go.RowKit
def Jx (b:Option Blk) (K:RS→Env→Prop):Prop :=
 match b with
 | some (.rcd t e)=>K t e
 | _=>False
theorem afQ {t:RS} {e:Env} {K:RS→Env→Prop}:Jx (some (.rcd t e)) K=K t e:=rfl
@[congr] theorem arN {b b':Option Blk} {K:RS→Env→Prop} (q:b=b'):Jx b K=Jx b' K:=by rw [q]
theorem o7 {h:List Blk} {k:Nat} {K:RS→Env→Prop}:vM h k K=Jx h[k]? K:=by
 unfold vM Jx;rfl
def Pg (x:V) (K:Nat→Prop):Prop :=
 match x with
 | .itr k=>K k
 | _=>False
theorem agP {k:Nat} {K:Nat→Prop}:Pg (.itr k) K=K k:=rfl
@[congr] theorem arX {x x':V} {K:Nat→Prop} (q:x=x'):Pg x K=Pg x' K:=by rw [q]
def Iw (Y:Nat→Yt) (k:Nat) (xs:List V) (s:St) (K:V→St→Prop):Prop:=Y k xs s K
@[congr] theorem aoH {Y:Nat→Yt} {k:Nat} {xs xs':List V} {s s':St} {K:V→St→Prop} (q:xs=xs') (q2:s=s'):Iw Y k xs s K=Iw Y k xs' s' K:=by rw [q,q2]
def Tp (t:RS) (A:Prop) (B:Nat→Prop) (C:Prop):Prop :=
 match t with
 | .ready=>A
 | .out none=>C
 | .out (some j)=>B j
 | _=>False
theorem ahG {A C:Prop} {B:Nat→Prop}:Tp .ready A B C=A:=rfl
theorem Au {A C:Prop} {B:Nat→Prop}:Tp (.out none) A B C=C:=rfl
theorem ahF {A C:Prop} {B:Nat→Prop} {j:Nat}:Tp (.out (some j)) A B C=B j:=rfl
@[congr] theorem asH {t t':RS} {A C:Prop} {B:Nat→Prop} (q:t=t'):Tp t A B C=Tp t' A B C:=by rw [q]
section
variable {cx:Cx} {e:Env} {h:List Blk} {b:Nat} {K:V→St→Prop} {Ks:St→Prop} {N R:St→Prop} {X:Nat→St→Prop} {d:Option Nat} {op:LOp}
@[congr] theorem aoL {l:List aH} {s s':St} {Ks:St→Prop} (q:s=s'):aB cx l s Ks=aB cx l s' Ks:=by rw [q]
theorem acR {m n:Nat} {l:List aH}:aw cx (.yreg m n l) N X R ⟨e,h,b⟩=aB cx l ⟨e,h++yab n .dead,h.length⟩ N:=rfl
theorem oK {n m:Nat} {p:LPlan} {l:List aH}:aw cx (.ytree n p m l) N X R ⟨e,h,b⟩=awP cx p [] (fun s'=>aB cx l s' N) ⟨e,h++yab n .dead,h.length⟩:=rfl
theorem Tx:aB cx [] ⟨e,h,b⟩ Ks=Ks ⟨e,h,b⟩:=rfl
theorem gH {f:Operand} {xs:List Operand} {r:List aH}:aB cx (⟨d,.yld f xs,none⟩::r) ⟨e,h,b⟩ Ks=Pg (ev e f) fun k=>Iw cx.y k (xs.map (ev e)) ⟨e,h,b⟩ fun x s'=>aB cx r (s'.put d x) Ks:=by
 show pY cx f xs ⟨e,h,b⟩ _=_
 unfold pY Pg Iw;rfl
theorem Zx {f:Operand} {xs:List Operand} {g:Nat} {w:Bool} {r:List aH}:aB cx (⟨d,.yld f xs,some (g,w)⟩::r) ⟨e,h,b⟩ Ks=aZ (get e g) w
   (Pg (ev ((g,.b w)::e) f) fun k=>Iw cx.y k (xs.map (ev ((g,.b w)::e))) ⟨(g,.b w)::e,h,b⟩ fun x s'=>aB cx r (s'.put d x) Ks)
   (aB cx r (St.put ⟨(g,.b !w)::e,h,b⟩ d (.v (.tuple #[]))) Ks)
   (aB cx r (St.put ⟨e,h,b⟩ d (.v (.tuple #[]))) Ks):=by
 show aZ (get e g) w (pY cx f xs ⟨(g,.b w)::e,h,b⟩ _) _ _=_
 unfold pY Pg Iw;rfl
theorem aeH {x:Operand} {r:List aH}:aB cx (⟨d,(.mov x),none⟩::r) ⟨e,h,b⟩ Ks=aOp cx (.mov x) ⟨e,h,b⟩ fun x s'=>aB cx r (s'.put d x) Ks:=rfl
theorem aeM {x:Operand} {g:Nat} {w:Bool} {r:List aH}:aB cx (⟨d,(.mov x),some (g,w)⟩::r) ⟨e,h,b⟩ Ks=aZ (get e g) w
   (aOp cx (.mov x) ⟨(g,.b w)::e,h,b⟩ fun x s'=>aB cx r (s'.put d x) Ks)
   (aB cx r (St.put ⟨(g,.b !w)::e,h,b⟩ d (.v (.tuple #[]))) Ks)
   (aB cx r (St.put ⟨e,h,b⟩ d (.v (.tuple #[]))) Ks):=rfl
theorem Zy {c x y:Operand} {r:List aH}:aB cx (⟨d,(.pick c x y),none⟩::r) ⟨e,h,b⟩ Ks=aOp cx (.pick c x y) ⟨e,h,b⟩ fun x s'=>aB cx r (s'.put d x) Ks:=rfl
theorem sT {c x y:Operand} {g:Nat} {w:Bool} {r:List aH}:aB cx (⟨d,(.pick c x y),some (g,w)⟩::r) ⟨e,h,b⟩ Ks=aZ (get e g) w
   (aOp cx (.pick c x y) ⟨(g,.b w)::e,h,b⟩ fun x s'=>aB cx r (s'.put d x) Ks)
   (aB cx r (St.put ⟨(g,.b !w)::e,h,b⟩ d (.v (.tuple #[]))) Ks)
   (aB cx r (St.put ⟨e,h,b⟩ d (.v (.tuple #[]))) Ks):=rfl
theorem x5 {j:Nat} {x:Operand} {r:List aH}:aB cx (⟨d,(.box j x),none⟩::r) ⟨e,h,b⟩ Ks=aOp cx (.box j x) ⟨e,h,b⟩ fun x s'=>aB cx r (s'.put d x) Ks:=rfl
theorem yW {j:Nat} {x:Operand} {g:Nat} {w:Bool} {r:List aH}:aB cx (⟨d,(.box j x),some (g,w)⟩::r) ⟨e,h,b⟩ Ks=aZ (get e g) w
   (aOp cx (.box j x) ⟨(g,.b w)::e,h,b⟩ fun x s'=>aB cx r (s'.put d x) Ks)
   (aB cx r (St.put ⟨(g,.b !w)::e,h,b⟩ d (.v (.tuple #[]))) Ks)
   (aB cx r (St.put ⟨e,h,b⟩ d (.v (.tuple #[]))) Ks):=rfl
theorem nC {j:Nat} {z:Value} {r:List aH}:aB cx (⟨d,(.alloc j z),none⟩::r) ⟨e,h,b⟩ Ks=aOp cx (.alloc j z) ⟨e,h,b⟩ fun x s'=>aB cx r (s'.put d x) Ks:=rfl
theorem nQ {j:Nat} {z:Value} {g:Nat} {w:Bool} {r:List aH}:aB cx (⟨d,(.alloc j z),some (g,w)⟩::r) ⟨e,h,b⟩ Ks=aZ (get e g) w
   (aOp cx (.alloc j z) ⟨(g,.b w)::e,h,b⟩ fun x s'=>aB cx r (s'.put d x) Ks)
   (aB cx r (St.put ⟨(g,.b !w)::e,h,b⟩ d (.v (.tuple #[]))) Ks)
   (aB cx r (St.put ⟨e,h,b⟩ d (.v (.tuple #[]))) Ks):=rfl
theorem Zz {n:Option Nat} {x:Operand} {r:List aH}:aB cx (⟨d,(.load n x),none⟩::r) ⟨e,h,b⟩ Ks=aOp cx (.load n x) ⟨e,h,b⟩ fun x s'=>aB cx r (s'.put d x) Ks:=rfl
theorem aaA {n:Option Nat} {x:Operand} {g:Nat} {w:Bool} {r:List aH}:aB cx (⟨d,(.load n x),some (g,w)⟩::r) ⟨e,h,b⟩ Ks=aZ (get e g) w
   (aOp cx (.load n x) ⟨(g,.b w)::e,h,b⟩ fun x s'=>aB cx r (s'.put d x) Ks)
   (aB cx r (St.put ⟨(g,.b !w)::e,h,b⟩ d (.v (.tuple #[]))) Ks)
   (aB cx r (St.put ⟨e,h,b⟩ d (.v (.tuple #[]))) Ks):=rfl
theorem mQ {n:Nat} {x y:Operand} {r:List aH}:aB cx (⟨d,(.store n x y),none⟩::r) ⟨e,h,b⟩ Ks=aOp cx (.store n x y) ⟨e,h,b⟩ fun x s'=>aB cx r (s'.put d x) Ks:=rfl
theorem nD {n:Nat} {x y:Operand} {g:Nat} {w:Bool} {r:List aH}:aB cx (⟨d,(.store n x y),some (g,w)⟩::r) ⟨e,h,b⟩ Ks=aZ (get e g) w
   (aOp cx (.store n x y) ⟨(g,.b w)::e,h,b⟩ fun x s'=>aB cx r (s'.put d x) Ks)
   (aB cx r (St.put ⟨(g,.b !w)::e,h,b⟩ d (.v (.tuple #[]))) Ks)
   (aB cx r (St.put ⟨e,h,b⟩ d (.v (.tuple #[]))) Ks):=rfl
theorem aeJ {n:Nat} {x:Operand} {r:List aH}:aB cx (⟨d,(.fld n x),none⟩::r) ⟨e,h,b⟩ Ks=aOp cx (.fld n x) ⟨e,h,b⟩ fun x s'=>aB cx r (s'.put d x) Ks:=rfl
theorem aeO {n:Nat} {x:Operand} {g:Nat} {w:Bool} {r:List aH}:aB cx (⟨d,(.fld n x),some (g,w)⟩::r) ⟨e,h,b⟩ Ks=aZ (get e g) w
   (aOp cx (.fld n x) ⟨(g,.b w)::e,h,b⟩ fun x s'=>aB cx r (s'.put d x) Ks)
   (aB cx r (St.put ⟨(g,.b !w)::e,h,b⟩ d (.v (.tuple #[]))) Ks)
   (aB cx r (St.put ⟨e,h,b⟩ d (.v (.tuple #[]))) Ks):=rfl
theorem aeI {n:Nat} {x i:Operand} {r:List aH}:aB cx (⟨d,(.idx n x i),none⟩::r) ⟨e,h,b⟩ Ks=aOp cx (.idx n x i) ⟨e,h,b⟩ fun x s'=>aB cx r (s'.put d x) Ks:=rfl
theorem aeN {n:Nat} {x i:Operand} {g:Nat} {w:Bool} {r:List aH}:aB cx (⟨d,(.idx n x i),some (g,w)⟩::r) ⟨e,h,b⟩ Ks=aZ (get e g) w
   (aOp cx (.idx n x i) ⟨(g,.b w)::e,h,b⟩ fun x s'=>aB cx r (s'.put d x) Ks)
   (aB cx r (St.put ⟨(g,.b !w)::e,h,b⟩ d (.v (.tuple #[]))) Ks)
   (aB cx r (St.put ⟨e,h,b⟩ d (.v (.tuple #[]))) Ks):=rfl
theorem aeK {o:BinOp} {ex:Bool} {x y:Operand} {r:List aH}:aB cx (⟨d,(.bin o ex x y),none⟩::r) ⟨e,h,b⟩ Ks=aOp cx (.bin o ex x y) ⟨e,h,b⟩ fun x s'=>aB cx r (s'.put d x) Ks:=rfl
theorem uK {o:BinOp} {ex:Bool} {x y:Operand} {g:Nat} {w:Bool} {r:List aH}:aB cx (⟨d,(.bin o ex x y),some (g,w)⟩::r) ⟨e,h,b⟩ Ks=aZ (get e g) w
   (aOp cx (.bin o ex x y) ⟨(g,.b w)::e,h,b⟩ fun x s'=>aB cx r (s'.put d x) Ks)
   (aB cx r (St.put ⟨(g,.b !w)::e,h,b⟩ d (.v (.tuple #[]))) Ks)
   (aB cx r (St.put ⟨e,h,b⟩ d (.v (.tuple #[]))) Ks):=rfl
theorem uJ {x:Operand} {r:List aH}:aB cx (⟨d,(.len x),none⟩::r) ⟨e,h,b⟩ Ks=aOp cx (.len x) ⟨e,h,b⟩ fun x s'=>aB cx r (s'.put d x) Ks:=rfl
theorem yM {x:Operand} {g:Nat} {w:Bool} {r:List aH}:aB cx (⟨d,(.len x),some (g,w)⟩::r) ⟨e,h,b⟩ Ks=aZ (get e g) w
   (aOp cx (.len x) ⟨(g,.b w)::e,h,b⟩ fun x s'=>aB cx r (s'.put d x) Ks)
   (aB cx r (St.put ⟨(g,.b !w)::e,h,b⟩ d (.v (.tuple #[]))) Ks)
   (aB cx r (St.put ⟨e,h,b⟩ d (.v (.tuple #[]))) Ks):=rfl
theorem fY {x:Operand} {r:List aH}:aB cx (⟨d,(.lens x),none⟩::r) ⟨e,h,b⟩ Ks=aOp cx (.lens x) ⟨e,h,b⟩ fun x s'=>aB cx r (s'.put d x) Ks:=rfl
theorem s9 {x:Operand} {g:Nat} {w:Bool} {r:List aH}:aB cx (⟨d,(.lens x),some (g,w)⟩::r) ⟨e,h,b⟩ Ks=aZ (get e g) w
   (aOp cx (.lens x) ⟨(g,.b w)::e,h,b⟩ fun x s'=>aB cx r (s'.put d x) Ks)
   (aB cx r (St.put ⟨(g,.b !w)::e,h,b⟩ d (.v (.tuple #[]))) Ks)
   (aB cx r (St.put ⟨e,h,b⟩ d (.v (.tuple #[]))) Ks):=rfl
theorem gI {x:Operand} {r:List aH}:aB cx (⟨d,(.not x),none⟩::r) ⟨e,h,b⟩ Ks=aOp cx (.not x) ⟨e,h,b⟩ fun x s'=>aB cx r (s'.put d x) Ks:=rfl
theorem aeL {x:Operand} {g:Nat} {w:Bool} {r:List aH}:aB cx (⟨d,(.not x),some (g,w)⟩::r) ⟨e,h,b⟩ Ks=aZ (get e g) w
   (aOp cx (.not x) ⟨(g,.b w)::e,h,b⟩ fun x s'=>aB cx r (s'.put d x) Ks)
   (aB cx r (St.put ⟨(g,.b !w)::e,h,b⟩ d (.v (.tuple #[]))) Ks)
   (aB cx r (St.put ⟨e,h,b⟩ d (.v (.tuple #[]))) Ks):=rfl
theorem xR {x:Operand} {r:List aH}:aB cx (⟨d,(.neg x),none⟩::r) ⟨e,h,b⟩ Ks=aOp cx (.neg x) ⟨e,h,b⟩ fun x s'=>aB cx r (s'.put d x) Ks:=rfl
theorem yK {x:Operand} {g:Nat} {w:Bool} {r:List aH}:aB cx (⟨d,(.neg x),some (g,w)⟩::r) ⟨e,h,b⟩ Ks=aZ (get e g) w
   (aOp cx (.neg x) ⟨(g,.b w)::e,h,b⟩ fun x s'=>aB cx r (s'.put d x) Ks)
   (aB cx r (St.put ⟨(g,.b !w)::e,h,b⟩ d (.v (.tuple #[]))) Ks)
   (aB cx r (St.put ⟨e,h,b⟩ d (.v (.tuple #[]))) Ks):=rfl
theorem sJ {ex:Bool} {k:IntKind} {x:Operand} {r:List aH}:aB cx (⟨d,(.conv ex k x),none⟩::r) ⟨e,h,b⟩ Ks=aOp cx (.conv ex k x) ⟨e,h,b⟩ fun x s'=>aB cx r (s'.put d x) Ks:=rfl
theorem tD {ex:Bool} {k:IntKind} {x:Operand} {g:Nat} {w:Bool} {r:List aH}:aB cx (⟨d,(.conv ex k x),some (g,w)⟩::r) ⟨e,h,b⟩ Ks=aZ (get e g) w
   (aOp cx (.conv ex k x) ⟨(g,.b w)::e,h,b⟩ fun x s'=>aB cx r (s'.put d x) Ks)
   (aB cx r (St.put ⟨(g,.b !w)::e,h,b⟩ d (.v (.tuple #[]))) Ks)
   (aB cx r (St.put ⟨e,h,b⟩ d (.v (.tuple #[]))) Ks):=rfl
theorem eC {mx:Bool} {x y:Operand} {r:List aH}:aB cx (⟨d,(.minmax mx x y),none⟩::r) ⟨e,h,b⟩ Ks=aOp cx (.minmax mx x y) ⟨e,h,b⟩ fun x s'=>aB cx r (s'.put d x) Ks:=rfl
theorem iR {mx:Bool} {x y:Operand} {g:Nat} {w:Bool} {r:List aH}:aB cx (⟨d,(.minmax mx x y),some (g,w)⟩::r) ⟨e,h,b⟩ Ks=aZ (get e g) w
   (aOp cx (.minmax mx x y) ⟨(g,.b w)::e,h,b⟩ fun x s'=>aB cx r (s'.put d x) Ks)
   (aB cx r (St.put ⟨(g,.b !w)::e,h,b⟩ d (.v (.tuple #[]))) Ks)
   (aB cx r (St.put ⟨e,h,b⟩ d (.v (.tuple #[]))) Ks):=rfl
theorem Hh {f:FuncId} {cs:List Operand} {r:List aH}:aB cx (⟨d,(.fn f cs),none⟩::r) ⟨e,h,b⟩ Ks=aOp cx (.fn f cs) ⟨e,h,b⟩ fun x s'=>aB cx r (s'.put d x) Ks:=rfl
theorem Hk {f:FuncId} {cs:List Operand} {g:Nat} {w:Bool} {r:List aH}:aB cx (⟨d,(.fn f cs),some (g,w)⟩::r) ⟨e,h,b⟩ Ks=aZ (get e g) w
   (aOp cx (.fn f cs) ⟨(g,.b w)::e,h,b⟩ fun x s'=>aB cx r (s'.put d x) Ks)
   (aB cx r (St.put ⟨(g,.b !w)::e,h,b⟩ d (.v (.tuple #[]))) Ks)
   (aB cx r (St.put ⟨e,h,b⟩ d (.v (.tuple #[]))) Ks):=rfl
theorem mZ {off:Nat} {n:Option Nat} {x:Operand} {r:List aH}:aB cx (⟨d,(.field off n x),none⟩::r) ⟨e,h,b⟩ Ks=aOp cx (.field off n x) ⟨e,h,b⟩ fun x s'=>aB cx r (s'.put d x) Ks:=rfl
theorem nM {off:Nat} {n:Option Nat} {x:Operand} {g:Nat} {w:Bool} {r:List aH}:aB cx (⟨d,(.field off n x),some (g,w)⟩::r) ⟨e,h,b⟩ Ks=aZ (get e g) w
   (aOp cx (.field off n x) ⟨(g,.b w)::e,h,b⟩ fun x s'=>aB cx r (s'.put d x) Ks)
   (aB cx r (St.put ⟨(g,.b !w)::e,h,b⟩ d (.v (.tuple #[]))) Ks)
   (aB cx r (St.put ⟨e,h,b⟩ d (.v (.tuple #[]))) Ks):=rfl
theorem mR {z:Nat} {x:Operand} {l u m:Option Operand} {r:List aH}:aB cx (⟨d,(.slice z x l u m),none⟩::r) ⟨e,h,b⟩ Ks=aOp cx (.slice z x l u m) ⟨e,h,b⟩ fun x s'=>aB cx r (s'.put d x) Ks:=rfl
theorem nE {z:Nat} {x:Operand} {l u m:Option Operand} {g:Nat} {w:Bool} {r:List aH}:aB cx (⟨d,(.slice z x l u m),some (g,w)⟩::r) ⟨e,h,b⟩ Ks=aZ (get e g) w
   (aOp cx (.slice z x l u m) ⟨(g,.b w)::e,h,b⟩ fun x s'=>aB cx r (s'.put d x) Ks)
   (aB cx r (St.put ⟨(g,.b !w)::e,h,b⟩ d (.v (.tuple #[]))) Ks)
   (aB cx r (St.put ⟨e,h,b⟩ d (.v (.tuple #[]))) Ks):=rfl
theorem j8 {z:List Value} {ps:List (Nat × Nat × Operand)} {r:List aH}:aB cx (⟨d,(.build z ps),none⟩::r) ⟨e,h,b⟩ Ks=aOp cx (.build z ps) ⟨e,h,b⟩ fun x s'=>aB cx r (s'.put d x) Ks:=rfl
theorem nP {z:List Value} {ps:List (Nat × Nat × Operand)} {g:Nat} {w:Bool} {r:List aH}:aB cx (⟨d,(.build z ps),some (g,w)⟩::r) ⟨e,h,b⟩ Ks=aZ (get e g) w
   (aOp cx (.build z ps) ⟨(g,.b w)::e,h,b⟩ fun x s'=>aB cx r (s'.put d x) Ks)
   (aB cx r (St.put ⟨(g,.b !w)::e,h,b⟩ d (.v (.tuple #[]))) Ks)
   (aB cx r (St.put ⟨e,h,b⟩ d (.v (.tuple #[]))) Ks):=rfl
theorem xW {neg:Bool} {x y:Operand} {r:List aH}:aB cx (⟨d,(.eqb neg x y),none⟩::r) ⟨e,h,b⟩ Ks=aOp cx (.eqb neg x y) ⟨e,h,b⟩ fun x s'=>aB cx r (s'.put d x) Ks:=rfl
theorem yS {neg:Bool} {x y:Operand} {g:Nat} {w:Bool} {r:List aH}:aB cx (⟨d,(.eqb neg x y),some (g,w)⟩::r) ⟨e,h,b⟩ Ks=aZ (get e g) w
   (aOp cx (.eqb neg x y) ⟨(g,.b w)::e,h,b⟩ fun x s'=>aB cx r (s'.put d x) Ks)
   (aB cx r (St.put ⟨(g,.b !w)::e,h,b⟩ d (.v (.tuple #[]))) Ks)
   (aB cx r (St.put ⟨e,h,b⟩ d (.v (.tuple #[]))) Ks):=rfl
theorem xV {neg:Bool} {ks:List (Nat × TypeDesc)} {x y:Operand} {r:List aH}:aB cx (⟨d,(.eqf neg ks x y),none⟩::r) ⟨e,h,b⟩ Ks=aOp cx (.eqf neg ks x y) ⟨e,h,b⟩ fun x s'=>aB cx r (s'.put d x) Ks:=rfl
theorem yQ {neg:Bool} {ks:List (Nat × TypeDesc)} {x y:Operand} {g:Nat} {w:Bool} {r:List aH}:aB cx (⟨d,(.eqf neg ks x y),some (g,w)⟩::r) ⟨e,h,b⟩ Ks=aZ (get e g) w
   (aOp cx (.eqf neg ks x y) ⟨(g,.b w)::e,h,b⟩ fun x s'=>aB cx r (s'.put d x) Ks)
   (aB cx r (St.put ⟨(g,.b !w)::e,h,b⟩ d (.v (.tuple #[]))) Ks)
   (aB cx r (St.put ⟨e,h,b⟩ d (.v (.tuple #[]))) Ks):=rfl
theorem mS {o:BinOp} {x y:Operand} {r:List aH}:aB cx (⟨d,(.shift o x y),none⟩::r) ⟨e,h,b⟩ Ks=aOp cx (.shift o x y) ⟨e,h,b⟩ fun x s'=>aB cx r (s'.put d x) Ks:=rfl
theorem nF {o:BinOp} {x y:Operand} {g:Nat} {w:Bool} {r:List aH}:aB cx (⟨d,(.shift o x y),some (g,w)⟩::r) ⟨e,h,b⟩ Ks=aZ (get e g) w
   (aOp cx (.shift o x y) ⟨(g,.b w)::e,h,b⟩ fun x s'=>aB cx r (s'.put d x) Ks)
   (aB cx r (St.put ⟨(g,.b !w)::e,h,b⟩ d (.v (.tuple #[]))) Ks)
   (aB cx r (St.put ⟨e,h,b⟩ d (.v (.tuple #[]))) Ks):=rfl
theorem xU {neg:Bool} {x:Operand} {v:Value} {r:List aH}:aB cx (⟨d,(.eqn neg x (.const v)),none⟩::r) ⟨e,h,b⟩ Ks=aOp cx (.eqn neg x (.const v)) ⟨e,h,b⟩ fun x s'=>aB cx r (s'.put d x) Ks:=rfl
theorem yP {neg:Bool} {x:Operand} {v:Value} {g:Nat} {w:Bool} {r:List aH}:aB cx (⟨d,(.eqn neg x (.const v)),some (g,w)⟩::r) ⟨e,h,b⟩ Ks=aZ (get e g) w
   (aOp cx (.eqn neg x (.const v)) ⟨(g,.b w)::e,h,b⟩ fun x s'=>aB cx r (s'.put d x) Ks)
   (aB cx r (St.put ⟨(g,.b !w)::e,h,b⟩ d (.v (.tuple #[]))) Ks)
   (aB cx r (St.put ⟨e,h,b⟩ d (.v (.tuple #[]))) Ks):=rfl
theorem sF {j sz n:Nat} {z:List Value} {ps:List (Nat × Operand)} {r:List aH}:aB cx (⟨d,(.lits j sz n z ps),none⟩::r) ⟨e,h,b⟩ Ks=aOp cx (.lits j sz n z ps) ⟨e,h,b⟩ fun x s'=>aB cx r (s'.put d x) Ks:=rfl
theorem sZ {j sz n:Nat} {z:List Value} {ps:List (Nat × Operand)} {g:Nat} {w:Bool} {r:List aH}:aB cx (⟨d,(.lits j sz n z ps),some (g,w)⟩::r) ⟨e,h,b⟩ Ks=aZ (get e g) w
   (aOp cx (.lits j sz n z ps) ⟨(g,.b w)::e,h,b⟩ fun x s'=>aB cx r (s'.put d x) Ks)
   (aB cx r (St.put ⟨(g,.b !w)::e,h,b⟩ d (.v (.tuple #[]))) Ks)
   (aB cx r (St.put ⟨e,h,b⟩ d (.v (.tuple #[]))) Ks):=rfl
theorem Hg {j sz bytes:Nat} {z:List Value} {l c:Operand} {r:List aH}:aB cx (⟨d,(.mk j sz bytes z l c),none⟩::r) ⟨e,h,b⟩ Ks=aOp cx (.mk j sz bytes z l c) ⟨e,h,b⟩ fun x s'=>aB cx r (s'.put d x) Ks:=rfl
theorem Hj {j sz bytes:Nat} {z:List Value} {l c:Operand} {g:Nat} {w:Bool} {r:List aH}:aB cx (⟨d,(.mk j sz bytes z l c),some (g,w)⟩::r) ⟨e,h,b⟩ Ks=aZ (get e g) w
   (aOp cx (.mk j sz bytes z l c) ⟨(g,.b w)::e,h,b⟩ fun x s'=>aB cx r (s'.put d x) Ks)
   (aB cx r (St.put ⟨(g,.b !w)::e,h,b⟩ d (.v (.tuple #[]))) Ks)
   (aB cx r (St.put ⟨e,h,b⟩ d (.v (.tuple #[]))) Ks):=rfl
theorem iQ {j sz bytes:Nat} {x y:Operand} {r:List aH}:aB cx (⟨d,(.append j sz bytes x y),none⟩::r) ⟨e,h,b⟩ Ks=aOp cx (.append j sz bytes x y) ⟨e,h,b⟩ fun x s'=>aB cx r (s'.put d x) Ks:=rfl
theorem iT {j sz bytes:Nat} {x y:Operand} {g:Nat} {w:Bool} {r:List aH}:aB cx (⟨d,(.append j sz bytes x y),some (g,w)⟩::r) ⟨e,h,b⟩ Ks=aZ (get e g) w
   (aOp cx (.append j sz bytes x y) ⟨(g,.b w)::e,h,b⟩ fun x s'=>aB cx r (s'.put d x) Ks)
   (aB cx r (St.put ⟨(g,.b !w)::e,h,b⟩ d (.v (.tuple #[]))) Ks)
   (aB cx r (St.put ⟨e,h,b⟩ d (.v (.tuple #[]))) Ks):=rfl
theorem sH {sz:Nat} {x y:Operand} {r:List aH}:aB cx (⟨d,(.copy sz x y),none⟩::r) ⟨e,h,b⟩ Ks=aOp cx (.copy sz x y) ⟨e,h,b⟩ fun x s'=>aB cx r (s'.put d x) Ks:=rfl
theorem tC {sz:Nat} {x y:Operand} {g:Nat} {w:Bool} {r:List aH}:aB cx (⟨d,(.copy sz x y),some (g,w)⟩::r) ⟨e,h,b⟩ Ks=aZ (get e g) w
   (aOp cx (.copy sz x y) ⟨(g,.b w)::e,h,b⟩ fun x s'=>aB cx r (s'.put d x) Ks)
   (aB cx r (St.put ⟨(g,.b !w)::e,h,b⟩ d (.v (.tuple #[]))) Ks)
   (aB cx r (St.put ⟨e,h,b⟩ d (.v (.tuple #[]))) Ks):=rfl
theorem xS {j sz bytes:Nat} {z:List Value} {l c:Operand} {r:List aH}:aB cx (⟨d,(.mkv j sz bytes z l c),none⟩::r) ⟨e,h,b⟩ Ks=aOp cx (.mkv j sz bytes z l c) ⟨e,h,b⟩ fun x s'=>aB cx r (s'.put d x) Ks:=rfl
theorem yL {j sz bytes:Nat} {z:List Value} {l c:Operand} {g:Nat} {w:Bool} {r:List aH}:aB cx (⟨d,(.mkv j sz bytes z l c),some (g,w)⟩::r) ⟨e,h,b⟩ Ks=aZ (get e g) w
   (aOp cx (.mkv j sz bytes z l c) ⟨(g,.b w)::e,h,b⟩ fun x s'=>aB cx r (s'.put d x) Ks)
   (aB cx r (St.put ⟨(g,.b !w)::e,h,b⟩ d (.v (.tuple #[]))) Ks)
   (aB cx r (St.put ⟨e,h,b⟩ d (.v (.tuple #[]))) Ks):=rfl
theorem sA {kd:TypeDesc} {m k x:Operand} {r:List aH}:aB cx (⟨d,(.mset kd m k x),none⟩::r) ⟨e,h,b⟩ Ks=aOp cx (.mset kd m k x) ⟨e,h,b⟩ fun x s'=>aB cx r (s'.put d x) Ks:=rfl
theorem sW {kd:TypeDesc} {m k x:Operand} {g:Nat} {w:Bool} {r:List aH}:aB cx (⟨d,(.mset kd m k x),some (g,w)⟩::r) ⟨e,h,b⟩ Ks=aZ (get e g) w
   (aOp cx (.mset kd m k x) ⟨(g,.b w)::e,h,b⟩ fun x s'=>aB cx r (s'.put d x) Ks)
   (aB cx r (St.put ⟨(g,.b !w)::e,h,b⟩ d (.v (.tuple #[]))) Ks)
   (aB cx r (St.put ⟨e,h,b⟩ d (.v (.tuple #[]))) Ks):=rfl
theorem mW {j:Nat} {r:List aH}:aB cx (⟨d,(.mkmap j none),none⟩::r) ⟨e,h,b⟩ Ks=aOp cx (.mkmap j none) ⟨e,h,b⟩ fun x s'=>aB cx r (s'.put d x) Ks:=rfl
theorem nJ {j:Nat} {g:Nat} {w:Bool} {r:List aH}:aB cx (⟨d,(.mkmap j none),some (g,w)⟩::r) ⟨e,h,b⟩ Ks=aZ (get e g) w
   (aOp cx (.mkmap j none) ⟨(g,.b w)::e,h,b⟩ fun x s'=>aB cx r (s'.put d x) Ks)
   (aB cx r (St.put ⟨(g,.b !w)::e,h,b⟩ d (.v (.tuple #[]))) Ks)
   (aB cx r (St.put ⟨e,h,b⟩ d (.v (.tuple #[]))) Ks):=rfl
theorem iP {kd:TypeDesc} {z:Value} {ok:Bool} {m k:Operand} {r:List aH}:aB cx (⟨d,(.lookup kd z ok m k),none⟩::r) ⟨e,h,b⟩ Ks=aOp cx (.lookup kd z ok m k) ⟨e,h,b⟩ fun x s'=>aB cx r (s'.put d x) Ks:=rfl
theorem iS {kd:TypeDesc} {z:Value} {ok:Bool} {m k:Operand} {g:Nat} {w:Bool} {r:List aH}:aB cx (⟨d,(.lookup kd z ok m k),some (g,w)⟩::r) ⟨e,h,b⟩ Ks=aZ (get e g) w
   (aOp cx (.lookup kd z ok m k) ⟨(g,.b w)::e,h,b⟩ fun x s'=>aB cx r (s'.put d x) Ks)
   (aB cx r (St.put ⟨(g,.b !w)::e,h,b⟩ d (.v (.tuple #[]))) Ks)
   (aB cx r (St.put ⟨e,h,b⟩ d (.v (.tuple #[]))) Ks):=rfl
theorem sB {m:Operand} {r:List aH}:aB cx (⟨d,(.mlen m),none⟩::r) ⟨e,h,b⟩ Ks=aOp cx (.mlen m) ⟨e,h,b⟩ fun x s'=>aB cx r (s'.put d x) Ks:=rfl
theorem sX {m:Operand} {g:Nat} {w:Bool} {r:List aH}:aB cx (⟨d,(.mlen m),some (g,w)⟩::r) ⟨e,h,b⟩ Ks=aZ (get e g) w
   (aOp cx (.mlen m) ⟨(g,.b w)::e,h,b⟩ fun x s'=>aB cx r (s'.put d x) Ks)
   (aB cx r (St.put ⟨(g,.b !w)::e,h,b⟩ d (.v (.tuple #[]))) Ks)
   (aB cx r (St.put ⟨e,h,b⟩ d (.v (.tuple #[]))) Ks):=rfl
theorem mT {j:Nat} {m:Operand} {r:List aH}:aB cx (⟨d,(.range j m),none⟩::r) ⟨e,h,b⟩ Ks=aOp cx (.range j m) ⟨e,h,b⟩ fun x s'=>aB cx r (s'.put d x) Ks:=rfl
theorem nG {j:Nat} {m:Operand} {g:Nat} {w:Bool} {r:List aH}:aB cx (⟨d,(.range j m),some (g,w)⟩::r) ⟨e,h,b⟩ Ks=aZ (get e g) w
   (aOp cx (.range j m) ⟨(g,.b w)::e,h,b⟩ fun x s'=>aB cx r (s'.put d x) Ks)
   (aB cx r (St.put ⟨(g,.b !w)::e,h,b⟩ d (.v (.tuple #[]))) Ks)
   (aB cx r (St.put ⟨e,h,b⟩ d (.v (.tuple #[]))) Ks):=rfl
theorem r9 {i:Operand} {r:List aH}:aB cx (⟨d,(.next i),none⟩::r) ⟨e,h,b⟩ Ks=aOp cx (.next i) ⟨e,h,b⟩ fun x s'=>aB cx r (s'.put d x) Ks:=rfl
theorem sV {i:Operand} {g:Nat} {w:Bool} {r:List aH}:aB cx (⟨d,(.next i),some (g,w)⟩::r) ⟨e,h,b⟩ Ks=aZ (get e g) w
   (aOp cx (.next i) ⟨(g,.b w)::e,h,b⟩ fun x s'=>aB cx r (s'.put d x) Ks)
   (aB cx r (St.put ⟨(g,.b !w)::e,h,b⟩ d (.v (.tuple #[]))) Ks)
   (aB cx r (St.put ⟨e,h,b⟩ d (.v (.tuple #[]))) Ks):=rfl
theorem m9 {i:Operand} {r:List aH}:aB cx (⟨d,(.entry i),none⟩::r) ⟨e,h,b⟩ Ks=aOp cx (.entry i) ⟨e,h,b⟩ fun x s'=>aB cx r (s'.put d x) Ks:=rfl
theorem nN {i:Operand} {g:Nat} {w:Bool} {r:List aH}:aB cx (⟨d,(.entry i),some (g,w)⟩::r) ⟨e,h,b⟩ Ks=aZ (get e g) w
   (aOp cx (.entry i) ⟨(g,.b w)::e,h,b⟩ fun x s'=>aB cx r (s'.put d x) Ks)
   (aB cx r (St.put ⟨(g,.b !w)::e,h,b⟩ d (.v (.tuple #[]))) Ks)
   (aB cx r (St.put ⟨e,h,b⟩ d (.v (.tuple #[]))) Ks):=rfl
theorem rV {n sz:Nat} {x i:Operand} {r:List aH}:aB cx (⟨d,(.prim (.pidx n sz) [x,i]),none⟩::r) ⟨e,h,b⟩ Ks=aOp cx (.prim (.pidx n sz) [x,i]) ⟨e,h,b⟩ fun x s'=>aB cx r (s'.put d x) Ks:=rfl
theorem sS {n sz:Nat} {x i:Operand} {g:Nat} {w:Bool} {r:List aH}:aB cx (⟨d,(.prim (.pidx n sz) [x,i]),some (g,w)⟩::r) ⟨e,h,b⟩ Ks=aZ (get e g) w
   (aOp cx (.prim (.pidx n sz) [x,i]) ⟨(g,.b w)::e,h,b⟩ fun x s'=>aB cx r (s'.put d x) Ks)
   (aB cx r (St.put ⟨(g,.b !w)::e,h,b⟩ d (.v (.tuple #[]))) Ks)
   (aB cx r (St.put ⟨e,h,b⟩ d (.v (.tuple #[]))) Ks):=rfl
theorem xP {n:Nat} {x:Operand} {r:List aH}:aB cx (⟨d,(.prim (.pslc n false false false) [x]),none⟩::r) ⟨e,h,b⟩ Ks=aOp cx (.prim (.pslc n false false false) [x]) ⟨e,h,b⟩ fun x s'=>aB cx r (s'.put d x) Ks:=rfl
theorem yI {n:Nat} {x:Operand} {g:Nat} {w:Bool} {r:List aH}:aB cx (⟨d,(.prim (.pslc n false false false) [x]),some (g,w)⟩::r) ⟨e,h,b⟩ Ks=aZ (get e g) w
   (aOp cx (.prim (.pslc n false false false) [x]) ⟨(g,.b w)::e,h,b⟩ fun x s'=>aB cx r (s'.put d x) Ks)
   (aB cx r (St.put ⟨(g,.b !w)::e,h,b⟩ d (.v (.tuple #[]))) Ks)
   (aB cx r (St.put ⟨e,h,b⟩ d (.v (.tuple #[]))) Ks):=rfl
theorem xO {n:Nat} {x l:Operand} {r:List aH}:aB cx (⟨d,(.prim (.pslc n true false false) [x,l]),none⟩::r) ⟨e,h,b⟩ Ks=aOp cx (.prim (.pslc n true false false) [x,l]) ⟨e,h,b⟩ fun x s'=>aB cx r (s'.put d x) Ks:=rfl
theorem yH {n:Nat} {x l:Operand} {g:Nat} {w:Bool} {r:List aH}:aB cx (⟨d,(.prim (.pslc n true false false) [x,l]),some (g,w)⟩::r) ⟨e,h,b⟩ Ks=aZ (get e g) w
   (aOp cx (.prim (.pslc n true false false) [x,l]) ⟨(g,.b w)::e,h,b⟩ fun x s'=>aB cx r (s'.put d x) Ks)
   (aB cx r (St.put ⟨(g,.b !w)::e,h,b⟩ d (.v (.tuple #[]))) Ks)
   (aB cx r (St.put ⟨e,h,b⟩ d (.v (.tuple #[]))) Ks):=rfl
theorem xN {n:Nat} {x u:Operand} {r:List aH}:aB cx (⟨d,(.prim (.pslc n false true false) [x,u]),none⟩::r) ⟨e,h,b⟩ Ks=aOp cx (.prim (.pslc n false true false) [x,u]) ⟨e,h,b⟩ fun x s'=>aB cx r (s'.put d x) Ks:=rfl
theorem yG {n:Nat} {x u:Operand} {g:Nat} {w:Bool} {r:List aH}:aB cx (⟨d,(.prim (.pslc n false true false) [x,u]),some (g,w)⟩::r) ⟨e,h,b⟩ Ks=aZ (get e g) w
   (aOp cx (.prim (.pslc n false true false) [x,u]) ⟨(g,.b w)::e,h,b⟩ fun x s'=>aB cx r (s'.put d x) Ks)
   (aB cx r (St.put ⟨(g,.b !w)::e,h,b⟩ d (.v (.tuple #[]))) Ks)
   (aB cx r (St.put ⟨e,h,b⟩ d (.v (.tuple #[]))) Ks):=rfl
theorem rU {n:Nat} {x l u:Operand} {r:List aH}:aB cx (⟨d,(.prim (.pslc n true true false) [x,l,u]),none⟩::r) ⟨e,h,b⟩ Ks=aOp cx (.prim (.pslc n true true false) [x,l,u]) ⟨e,h,b⟩ fun x s'=>aB cx r (s'.put d x) Ks:=rfl
theorem sR {n:Nat} {x l u:Operand} {g:Nat} {w:Bool} {r:List aH}:aB cx (⟨d,(.prim (.pslc n true true false) [x,l,u]),some (g,w)⟩::r) ⟨e,h,b⟩ Ks=aZ (get e g) w
   (aOp cx (.prim (.pslc n true true false) [x,l,u]) ⟨(g,.b w)::e,h,b⟩ fun x s'=>aB cx r (s'.put d x) Ks)
   (aB cx r (St.put ⟨(g,.b !w)::e,h,b⟩ d (.v (.tuple #[]))) Ks)
   (aB cx r (St.put ⟨e,h,b⟩ d (.v (.tuple #[]))) Ks):=rfl
theorem mU {n:Nat} {x l u m:Operand} {r:List aH}:aB cx (⟨d,(.prim (.pslc n true true true) [x,l,u,m]),none⟩::r) ⟨e,h,b⟩ Ks=aOp cx (.prim (.pslc n true true true) [x,l,u,m]) ⟨e,h,b⟩ fun x s'=>aB cx r (s'.put d x) Ks:=rfl
theorem nH {n:Nat} {x l u m:Operand} {g:Nat} {w:Bool} {r:List aH}:aB cx (⟨d,(.prim (.pslc n true true true) [x,l,u,m]),some (g,w)⟩::r) ⟨e,h,b⟩ Ks=aZ (get e g) w
   (aOp cx (.prim (.pslc n true true true) [x,l,u,m]) ⟨(g,.b w)::e,h,b⟩ fun x s'=>aB cx r (s'.put d x) Ks)
   (aB cx r (St.put ⟨(g,.b !w)::e,h,b⟩ d (.v (.tuple #[]))) Ks)
   (aB cx r (St.put ⟨e,h,b⟩ d (.v (.tuple #[]))) Ks):=rfl
theorem xQ {neg:Bool} {x y:Operand} {r:List aH}:aB cx (⟨d,(.prim (.peq neg) [x,y]),none⟩::r) ⟨e,h,b⟩ Ks=aOp cx (.prim (.peq neg) [x,y]) ⟨e,h,b⟩ fun x s'=>aB cx r (s'.put d x) Ks:=rfl
theorem yJ {neg:Bool} {x y:Operand} {g:Nat} {w:Bool} {r:List aH}:aB cx (⟨d,(.prim (.peq neg) [x,y]),some (g,w)⟩::r) ⟨e,h,b⟩ Ks=aZ (get e g) w
   (aOp cx (.prim (.peq neg) [x,y]) ⟨(g,.b w)::e,h,b⟩ fun x s'=>aB cx r (s'.put d x) Ks)
   (aB cx r (St.put ⟨(g,.b !w)::e,h,b⟩ d (.v (.tuple #[]))) Ks)
   (aB cx r (St.put ⟨e,h,b⟩ d (.v (.tuple #[]))) Ks):=rfl
theorem sM {n sz:Nat} {x i:Operand} {r:List aH}:aB cx (⟨d,(.prim (.aidx n sz true) [x,i]),none⟩::r) ⟨e,h,b⟩ Ks=aOp cx (.prim (.aidx n sz true) [x,i]) ⟨e,h,b⟩ fun x s'=>aB cx r (s'.put d x) Ks:=rfl
theorem tG {n sz:Nat} {x i:Operand} {g:Nat} {w:Bool} {r:List aH}:aB cx (⟨d,(.prim (.aidx n sz true) [x,i]),some (g,w)⟩::r) ⟨e,h,b⟩ Ks=aZ (get e g) w
   (aOp cx (.prim (.aidx n sz true) [x,i]) ⟨(g,.b w)::e,h,b⟩ fun x s'=>aB cx r (s'.put d x) Ks)
   (aB cx r (St.put ⟨(g,.b !w)::e,h,b⟩ d (.v (.tuple #[]))) Ks)
   (aB cx r (St.put ⟨e,h,b⟩ d (.v (.tuple #[]))) Ks):=rfl
theorem sN {n sz:Nat} {x i:Operand} {r:List aH}:aB cx (⟨d,(.prim (.aidx n sz false) [x,i]),none⟩::r) ⟨e,h,b⟩ Ks=aOp cx (.prim (.aidx n sz false) [x,i]) ⟨e,h,b⟩ fun x s'=>aB cx r (s'.put d x) Ks:=rfl
theorem tH {n sz:Nat} {x i:Operand} {g:Nat} {w:Bool} {r:List aH}:aB cx (⟨d,(.prim (.aidx n sz false) [x,i]),some (g,w)⟩::r) ⟨e,h,b⟩ Ks=aZ (get e g) w
   (aOp cx (.prim (.aidx n sz false) [x,i]) ⟨(g,.b w)::e,h,b⟩ fun x s'=>aB cx r (s'.put d x) Ks)
   (aB cx r (St.put ⟨(g,.b !w)::e,h,b⟩ d (.v (.tuple #[]))) Ks)
   (aB cx r (St.put ⟨e,h,b⟩ d (.v (.tuple #[]))) Ks):=rfl
theorem x8 {neg:Bool} {ks:List (Nat × TypeDesc)} {x y:Operand} {r:List aH}:aB cx (⟨d,(.prim (.aeq neg ks) [x,y]),none⟩::r) ⟨e,h,b⟩ Ks=aOp cx (.prim (.aeq neg ks) [x,y]) ⟨e,h,b⟩ fun x s'=>aB cx r (s'.put d x) Ks:=rfl
theorem yZ {neg:Bool} {ks:List (Nat × TypeDesc)} {x y:Operand} {g:Nat} {w:Bool} {r:List aH}:aB cx (⟨d,(.prim (.aeq neg ks) [x,y]),some (g,w)⟩::r) ⟨e,h,b⟩ Ks=aZ (get e g) w
   (aOp cx (.prim (.aeq neg ks) [x,y]) ⟨(g,.b w)::e,h,b⟩ fun x s'=>aB cx r (s'.put d x) Ks)
   (aB cx r (St.put ⟨(g,.b !w)::e,h,b⟩ d (.v (.tuple #[]))) Ks)
   (aB cx r (St.put ⟨e,h,b⟩ d (.v (.tuple #[]))) Ks):=rfl
theorem rS {x i:Operand} {r:List aH}:aB cx (⟨d,(.prim .sidx [x,i]),none⟩::r) ⟨e,h,b⟩ Ks=aOp cx (.prim .sidx [x,i]) ⟨e,h,b⟩ fun x s'=>aB cx r (s'.put d x) Ks:=rfl
theorem sP {x i:Operand} {g:Nat} {w:Bool} {r:List aH}:aB cx (⟨d,(.prim .sidx [x,i]),some (g,w)⟩::r) ⟨e,h,b⟩ Ks=aZ (get e g) w
   (aOp cx (.prim .sidx [x,i]) ⟨(g,.b w)::e,h,b⟩ fun x s'=>aB cx r (s'.put d x) Ks)
   (aB cx r (St.put ⟨(g,.b !w)::e,h,b⟩ d (.v (.tuple #[]))) Ks)
   (aB cx r (St.put ⟨e,h,b⟩ d (.v (.tuple #[]))) Ks):=rfl
theorem xL {x:Operand} {r:List aH}:aB cx (⟨d,(.prim (.sslc false false) [x]),none⟩::r) ⟨e,h,b⟩ Ks=aOp cx (.prim (.sslc false false) [x]) ⟨e,h,b⟩ fun x s'=>aB cx r (s'.put d x) Ks:=rfl
theorem yE {x:Operand} {g:Nat} {w:Bool} {r:List aH}:aB cx (⟨d,(.prim (.sslc false false) [x]),some (g,w)⟩::r) ⟨e,h,b⟩ Ks=aZ (get e g) w
   (aOp cx (.prim (.sslc false false) [x]) ⟨(g,.b w)::e,h,b⟩ fun x s'=>aB cx r (s'.put d x) Ks)
   (aB cx r (St.put ⟨(g,.b !w)::e,h,b⟩ d (.v (.tuple #[]))) Ks)
   (aB cx r (St.put ⟨e,h,b⟩ d (.v (.tuple #[]))) Ks):=rfl
theorem xK {x l:Operand} {r:List aH}:aB cx (⟨d,(.prim (.sslc true false) [x,l]),none⟩::r) ⟨e,h,b⟩ Ks=aOp cx (.prim (.sslc true false) [x,l]) ⟨e,h,b⟩ fun x s'=>aB cx r (s'.put d x) Ks:=rfl
theorem yD {x l:Operand} {g:Nat} {w:Bool} {r:List aH}:aB cx (⟨d,(.prim (.sslc true false) [x,l]),some (g,w)⟩::r) ⟨e,h,b⟩ Ks=aZ (get e g) w
   (aOp cx (.prim (.sslc true false) [x,l]) ⟨(g,.b w)::e,h,b⟩ fun x s'=>aB cx r (s'.put d x) Ks)
   (aB cx r (St.put ⟨(g,.b !w)::e,h,b⟩ d (.v (.tuple #[]))) Ks)
   (aB cx r (St.put ⟨e,h,b⟩ d (.v (.tuple #[]))) Ks):=rfl
theorem xJ {x u:Operand} {r:List aH}:aB cx (⟨d,(.prim (.sslc false true) [x,u]),none⟩::r) ⟨e,h,b⟩ Ks=aOp cx (.prim (.sslc false true) [x,u]) ⟨e,h,b⟩ fun x s'=>aB cx r (s'.put d x) Ks:=rfl
theorem x9 {x u:Operand} {g:Nat} {w:Bool} {r:List aH}:aB cx (⟨d,(.prim (.sslc false true) [x,u]),some (g,w)⟩::r) ⟨e,h,b⟩ Ks=aZ (get e g) w
   (aOp cx (.prim (.sslc false true) [x,u]) ⟨(g,.b w)::e,h,b⟩ fun x s'=>aB cx r (s'.put d x) Ks)
   (aB cx r (St.put ⟨(g,.b !w)::e,h,b⟩ d (.v (.tuple #[]))) Ks)
   (aB cx r (St.put ⟨e,h,b⟩ d (.v (.tuple #[]))) Ks):=rfl
theorem fX {x l u:Operand} {r:List aH}:aB cx (⟨d,(.prim (.sslc true true) [x,l,u]),none⟩::r) ⟨e,h,b⟩ Ks=aOp cx (.prim (.sslc true true) [x,l,u]) ⟨e,h,b⟩ fun x s'=>aB cx r (s'.put d x) Ks:=rfl
theorem sO {x l u:Operand} {g:Nat} {w:Bool} {r:List aH}:aB cx (⟨d,(.prim (.sslc true true) [x,l,u]),some (g,w)⟩::r) ⟨e,h,b⟩ Ks=aZ (get e g) w
   (aOp cx (.prim (.sslc true true) [x,l,u]) ⟨(g,.b w)::e,h,b⟩ fun x s'=>aB cx r (s'.put d x) Ks)
   (aB cx r (St.put ⟨(g,.b !w)::e,h,b⟩ d (.v (.tuple #[]))) Ks)
   (aB cx r (St.put ⟨e,h,b⟩ d (.v (.tuple #[]))) Ks):=rfl
theorem rT {o:BinOp} {x y:Operand} {r:List aH}:aB cx (⟨d,(.prim (.sbin o) [x,y]),none⟩::r) ⟨e,h,b⟩ Ks=aOp cx (.prim (.sbin o) [x,y]) ⟨e,h,b⟩ fun x s'=>aB cx r (s'.put d x) Ks:=rfl
theorem sQ {o:BinOp} {x y:Operand} {g:Nat} {w:Bool} {r:List aH}:aB cx (⟨d,(.prim (.sbin o) [x,y]),some (g,w)⟩::r) ⟨e,h,b⟩ Ks=aZ (get e g) w
   (aOp cx (.prim (.sbin o) [x,y]) ⟨(g,.b w)::e,h,b⟩ fun x s'=>aB cx r (s'.put d x) Ks)
   (aB cx r (St.put ⟨(g,.b !w)::e,h,b⟩ d (.v (.tuple #[]))) Ks)
   (aB cx r (St.put ⟨e,h,b⟩ d (.v (.tuple #[]))) Ks):=rfl
theorem Hf {mx:Bool} {x:Operand} {xr:List Operand} {r:List aH}:aB cx (⟨d,(.prim (.mm mx) (x::xr)),none⟩::r) ⟨e,h,b⟩ Ks=aOp cx (.prim (.mm mx) (x::xr)) ⟨e,h,b⟩ fun x s'=>aB cx r (s'.put d x) Ks:=rfl
theorem Hi {mx:Bool} {x:Operand} {xr:List Operand} {g:Nat} {w:Bool} {r:List aH}:aB cx (⟨d,(.prim (.mm mx) (x::xr)),some (g,w)⟩::r) ⟨e,h,b⟩ Ks=aZ (get e g) w
   (aOp cx (.prim (.mm mx) (x::xr)) ⟨(g,.b w)::e,h,b⟩ fun x s'=>aB cx r (s'.put d x) Ks)
   (aB cx r (St.put ⟨(g,.b !w)::e,h,b⟩ d (.v (.tuple #[]))) Ks)
   (aB cx r (St.put ⟨e,h,b⟩ d (.v (.tuple #[]))) Ks):=rfl
theorem sG {g n:Nat} {i:Operand} {r:List aH}:aB cx (⟨d,(.prim (.gidx g n) [i]),none⟩::r) ⟨e,h,b⟩ Ks=aOp cx (.prim (.gidx g n) [i]) ⟨e,h,b⟩ fun x s'=>aB cx r (s'.put d x) Ks:=rfl
theorem tA {g n:Nat} {i:Operand} {g:Nat} {w:Bool} {r:List aH}:aB cx (⟨d,(.prim (.gidx g n) [i]),some (g,w)⟩::r) ⟨e,h,b⟩ Ks=aZ (get e g) w
   (aOp cx (.prim (.gidx g n) [i]) ⟨(g,.b w)::e,h,b⟩ fun x s'=>aB cx r (s'.put d x) Ks)
   (aB cx r (St.put ⟨(g,.b !w)::e,h,b⟩ d (.v (.tuple #[]))) Ks)
   (aB cx r (St.put ⟨e,h,b⟩ d (.v (.tuple #[]))) Ks):=rfl
theorem xM {n:Nat} {x:Operand} {r:List aH}:aB cx (⟨d,(.prim (.s2a n) [x]),none⟩::r) ⟨e,h,b⟩ Ks=aOp cx (.prim (.s2a n) [x]) ⟨e,h,b⟩ fun x s'=>aB cx r (s'.put d x) Ks:=rfl
theorem yF {n:Nat} {x:Operand} {g:Nat} {w:Bool} {r:List aH}:aB cx (⟨d,(.prim (.s2a n) [x]),some (g,w)⟩::r) ⟨e,h,b⟩ Ks=aZ (get e g) w
   (aOp cx (.prim (.s2a n) [x]) ⟨(g,.b w)::e,h,b⟩ fun x s'=>aB cx r (s'.put d x) Ks)
   (aB cx r (St.put ⟨(g,.b !w)::e,h,b⟩ d (.v (.tuple #[]))) Ks)
   (aB cx r (St.put ⟨e,h,b⟩ d (.v (.tuple #[]))) Ks):=rfl
theorem xY {x:Operand} {r:List aH}:aB cx (⟨d,(.prim .cpl [x]),none⟩::r) ⟨e,h,b⟩ Ks=aOp cx (.prim .cpl [x]) ⟨e,h,b⟩ fun x s'=>aB cx r (s'.put d x) Ks:=rfl
theorem yU {x:Operand} {g:Nat} {w:Bool} {r:List aH}:aB cx (⟨d,(.prim .cpl [x]),some (g,w)⟩::r) ⟨e,h,b⟩ Ks=aZ (get e g) w
   (aOp cx (.prim .cpl [x]) ⟨(g,.b w)::e,h,b⟩ fun x s'=>aB cx r (s'.put d x) Ks)
   (aB cx r (St.put ⟨(g,.b !w)::e,h,b⟩ d (.v (.tuple #[]))) Ks)
   (aB cx r (St.put ⟨e,h,b⟩ d (.v (.tuple #[]))) Ks):=rfl
theorem xZ {sz j:Nat} {z:List Value} {x:Operand} {r:List aH}:aB cx (⟨d,(.eff (.clr sz z) j [x]),none⟩::r) ⟨e,h,b⟩ Ks=aOp cx (.eff (.clr sz z) j [x]) ⟨e,h,b⟩ fun x s'=>aB cx r (s'.put d x) Ks:=rfl
theorem yV {sz j:Nat} {z:List Value} {x:Operand} {g:Nat} {w:Bool} {r:List aH}:aB cx (⟨d,(.eff (.clr sz z) j [x]),some (g,w)⟩::r) ⟨e,h,b⟩ Ks=aZ (get e g) w
   (aOp cx (.eff (.clr sz z) j [x]) ⟨(g,.b w)::e,h,b⟩ fun x s'=>aB cx r (s'.put d x) Ks)
   (aB cx r (St.put ⟨(g,.b !w)::e,h,b⟩ d (.v (.tuple #[]))) Ks)
   (aB cx r (St.put ⟨e,h,b⟩ d (.v (.tuple #[]))) Ks):=rfl
theorem mX {ks:List (Nat × TypeDesc)} {z:Value} {ok:Bool} {j:Nat} {m k:Operand} {r:List aH}:aB cx (⟨d,(.eff (.look ks z ok) j [m,k]),none⟩::r) ⟨e,h,b⟩ Ks=aOp cx (.eff (.look ks z ok) j [m,k]) ⟨e,h,b⟩ fun x s'=>aB cx r (s'.put d x) Ks:=rfl
theorem nK {ks:List (Nat × TypeDesc)} {z:Value} {ok:Bool} {j:Nat} {m k:Operand} {g:Nat} {w:Bool} {r:List aH}:aB cx (⟨d,(.eff (.look ks z ok) j [m,k]),some (g,w)⟩::r) ⟨e,h,b⟩ Ks=aZ (get e g) w
   (aOp cx (.eff (.look ks z ok) j [m,k]) ⟨(g,.b w)::e,h,b⟩ fun x s'=>aB cx r (s'.put d x) Ks)
   (aB cx r (St.put ⟨(g,.b !w)::e,h,b⟩ d (.v (.tuple #[]))) Ks)
   (aB cx r (St.put ⟨e,h,b⟩ d (.v (.tuple #[]))) Ks):=rfl
theorem mV {ks:List (Nat × TypeDesc)} {j:Nat} {m k x:Operand} {r:List aH}:aB cx (⟨d,(.eff (.mset ks) j [m,k,x]),none⟩::r) ⟨e,h,b⟩ Ks=aOp cx (.eff (.mset ks) j [m,k,x]) ⟨e,h,b⟩ fun x s'=>aB cx r (s'.put d x) Ks:=rfl
theorem nI {ks:List (Nat × TypeDesc)} {j:Nat} {m k x:Operand} {g:Nat} {w:Bool} {r:List aH}:aB cx (⟨d,(.eff (.mset ks) j [m,k,x]),some (g,w)⟩::r) ⟨e,h,b⟩ Ks=aZ (get e g) w
   (aOp cx (.eff (.mset ks) j [m,k,x]) ⟨(g,.b w)::e,h,b⟩ fun x s'=>aB cx r (s'.put d x) Ks)
   (aB cx r (St.put ⟨(g,.b !w)::e,h,b⟩ d (.v (.tuple #[]))) Ks)
   (aB cx r (St.put ⟨e,h,b⟩ d (.v (.tuple #[]))) Ks):=rfl
theorem x6 {j:Nat} {x:Operand} {r:List aH}:aB cx (⟨d,(.eff .b2s j [x]),none⟩::r) ⟨e,h,b⟩ Ks=aOp cx (.eff .b2s j [x]) ⟨e,h,b⟩ fun x s'=>aB cx r (s'.put d x) Ks:=rfl
theorem yX {j:Nat} {x:Operand} {g:Nat} {w:Bool} {r:List aH}:aB cx (⟨d,(.eff .b2s j [x]),some (g,w)⟩::r) ⟨e,h,b⟩ Ks=aZ (get e g) w
   (aOp cx (.eff .b2s j [x]) ⟨(g,.b w)::e,h,b⟩ fun x s'=>aB cx r (s'.put d x) Ks)
   (aB cx r (St.put ⟨(g,.b !w)::e,h,b⟩ d (.v (.tuple #[]))) Ks)
   (aB cx r (St.put ⟨e,h,b⟩ d (.v (.tuple #[]))) Ks):=rfl
theorem mY {g n j:Nat} {r:List aH}:aB cx (⟨d,(.eff (.gload g n) j []),none⟩::r) ⟨e,h,b⟩ Ks=aOp cx (.eff (.gload g n) j []) ⟨e,h,b⟩ fun x s'=>aB cx r (s'.put d x) Ks:=rfl
theorem nL {g n j:Nat} {g:Nat} {w:Bool} {r:List aH}:aB cx (⟨d,(.eff (.gload g n) j []),some (g,w)⟩::r) ⟨e,h,b⟩ Ks=aZ (get e g) w
   (aOp cx (.eff (.gload g n) j []) ⟨(g,.b w)::e,h,b⟩ fun x s'=>aB cx r (s'.put d x) Ks)
   (aB cx r (St.put ⟨(g,.b !w)::e,h,b⟩ d (.v (.tuple #[]))) Ks)
   (aB cx r (St.put ⟨e,h,b⟩ d (.v (.tuple #[]))) Ks):=rfl
theorem xX {j:Nat} {x y:Operand} {r:List aH}:aB cx (⟨d,(.eff .cps j [x,y]),none⟩::r) ⟨e,h,b⟩ Ks=aOp cx (.eff .cps j [x,y]) ⟨e,h,b⟩ fun x s'=>aB cx r (s'.put d x) Ks:=rfl
theorem yT {j:Nat} {x y:Operand} {g:Nat} {w:Bool} {r:List aH}:aB cx (⟨d,(.eff .cps j [x,y]),some (g,w)⟩::r) ⟨e,h,b⟩ Ks=aZ (get e g) w
   (aOp cx (.eff .cps j [x,y]) ⟨(g,.b w)::e,h,b⟩ fun x s'=>aB cx r (s'.put d x) Ks)
   (aB cx r (St.put ⟨(g,.b !w)::e,h,b⟩ d (.v (.tuple #[]))) Ks)
   (aB cx r (St.put ⟨e,h,b⟩ d (.v (.tuple #[]))) Ks):=rfl
theorem x7 {bytes j:Nat} {x y:Operand} {r:List aH}:aB cx (⟨d,(.eff (.aps bytes) j [x,y]),none⟩::r) ⟨e,h,b⟩ Ks=aOp cx (.eff (.aps bytes) j [x,y]) ⟨e,h,b⟩ fun x s'=>aB cx r (s'.put d x) Ks:=rfl
theorem yY {bytes j:Nat} {x y:Operand} {g:Nat} {w:Bool} {r:List aH}:aB cx (⟨d,(.eff (.aps bytes) j [x,y]),some (g,w)⟩::r) ⟨e,h,b⟩ Ks=aZ (get e g) w
   (aOp cx (.eff (.aps bytes) j [x,y]) ⟨(g,.b w)::e,h,b⟩ fun x s'=>aB cx r (s'.put d x) Ks)
   (aB cx r (St.put ⟨(g,.b !w)::e,h,b⟩ d (.v (.tuple #[]))) Ks)
   (aB cx r (St.put ⟨e,h,b⟩ d (.v (.tuple #[]))) Ks):=rfl
theorem sE {sz n j:Nat} {z:List Value} {ix:List Nat} {xs:List Operand} {r:List aH}:aB cx (⟨d,(.eff (.litv sz n z ix) j xs),none⟩::r) ⟨e,h,b⟩ Ks=aOp cx (.eff (.litv sz n z ix) j xs) ⟨e,h,b⟩ fun x s'=>aB cx r (s'.put d x) Ks:=rfl
theorem sY {sz n j:Nat} {z:List Value} {ix:List Nat} {xs:List Operand} {g:Nat} {w:Bool} {r:List aH}:aB cx (⟨d,(.eff (.litv sz n z ix) j xs),some (g,w)⟩::r) ⟨e,h,b⟩ Ks=aZ (get e g) w
   (aOp cx (.eff (.litv sz n z ix) j xs) ⟨(g,.b w)::e,h,b⟩ fun x s'=>aB cx r (s'.put d x) Ks)
   (aB cx r (St.put ⟨(g,.b !w)::e,h,b⟩ d (.v (.tuple #[]))) Ks)
   (aB cx r (St.put ⟨e,h,b⟩ d (.v (.tuple #[]))) Ks):=rfl
theorem sL {sz bytes j:Nat} {x y:Operand} {r:List aH}:aB cx (⟨d,(.eff (.appv sz bytes) j [x,y]),none⟩::r) ⟨e,h,b⟩ Ks=aOp cx (.eff (.appv sz bytes) j [x,y]) ⟨e,h,b⟩ fun x s'=>aB cx r (s'.put d x) Ks:=rfl
theorem tF {sz bytes j:Nat} {x y:Operand} {g:Nat} {w:Bool} {r:List aH}:aB cx (⟨d,(.eff (.appv sz bytes) j [x,y]),some (g,w)⟩::r) ⟨e,h,b⟩ Ks=aZ (get e g) w
   (aOp cx (.eff (.appv sz bytes) j [x,y]) ⟨(g,.b w)::e,h,b⟩ fun x s'=>aB cx r (s'.put d x) Ks)
   (aB cx r (St.put ⟨(g,.b !w)::e,h,b⟩ d (.v (.tuple #[]))) Ks)
   (aB cx r (St.put ⟨e,h,b⟩ d (.v (.tuple #[]))) Ks):=rfl
theorem sK {f:FuncId} {xs:List Operand} {r:List aH}:aB cx (⟨d,(.call f xs),none⟩::r) ⟨e,h,b⟩ Ks=aOp cx (.call f xs) ⟨e,h,b⟩ fun x s'=>aB cx r (s'.put d x) Ks:=rfl
theorem tE {f:FuncId} {xs:List Operand} {g:Nat} {w:Bool} {r:List aH}:aB cx (⟨d,(.call f xs),some (g,w)⟩::r) ⟨e,h,b⟩ Ks=aZ (get e g) w
   (aOp cx (.call f xs) ⟨(g,.b w)::e,h,b⟩ fun x s'=>aB cx r (s'.put d x) Ks)
   (aB cx r (St.put ⟨(g,.b !w)::e,h,b⟩ d (.v (.tuple #[]))) Ks)
   (aB cx r (St.put ⟨e,h,b⟩ d (.v (.tuple #[]))) Ks):=rfl
theorem xT {x:Operand} {i:Nat} {r:List aH}:aB cx (⟨d,(.ext x i),none⟩::r) ⟨e,h,b⟩ Ks=aOp cx (.ext x i) ⟨e,h,b⟩ fun x s'=>aB cx r (s'.put d x) Ks:=rfl
theorem yN {x:Operand} {i:Nat} {g:Nat} {w:Bool} {r:List aH}:aB cx (⟨d,(.ext x i),some (g,w)⟩::r) ⟨e,h,b⟩ Ks=aZ (get e g) w
   (aOp cx (.ext x i) ⟨(g,.b w)::e,h,b⟩ fun x s'=>aB cx r (s'.put d x) Ks)
   (aB cx r (St.put ⟨(g,.b !w)::e,h,b⟩ d (.v (.tuple #[]))) Ks)
   (aB cx r (St.put ⟨e,h,b⟩ d (.v (.tuple #[]))) Ks):=rfl
theorem r8 {x:Operand} {r:List aH}:aB cx (⟨d,(.nilc x),none⟩::r) ⟨e,h,b⟩ Ks=aOp cx (.nilc x) ⟨e,h,b⟩ fun x s'=>aB cx r (s'.put d x) Ks:=rfl
theorem sU {x:Operand} {g:Nat} {w:Bool} {r:List aH}:aB cx (⟨d,(.nilc x),some (g,w)⟩::r) ⟨e,h,b⟩ Ks=aZ (get e g) w
   (aOp cx (.nilc x) ⟨(g,.b w)::e,h,b⟩ fun x s'=>aB cx r (s'.put d x) Ks)
   (aB cx r (St.put ⟨(g,.b !w)::e,h,b⟩ d (.v (.tuple #[]))) Ks)
   (aB cx r (St.put ⟨e,h,b⟩ d (.v (.tuple #[]))) Ks):=rfl
theorem nA {f:Operand} {xs:List Operand} {r:List aH}:aB cx (⟨d,(.callv f xs),none⟩::r) ⟨e,h,b⟩ Ks=aOp cx (.callv f xs) ⟨e,h,b⟩ fun x s'=>aB cx r (s'.put d x) Ks:=rfl
theorem nO {f:Operand} {xs:List Operand} {g:Nat} {w:Bool} {r:List aH}:aB cx (⟨d,(.callv f xs),some (g,w)⟩::r) ⟨e,h,b⟩ Ks=aZ (get e g) w
   (aOp cx (.callv f xs) ⟨(g,.b w)::e,h,b⟩ fun x s'=>aB cx r (s'.put d x) Ks)
   (aB cx r (St.put ⟨(g,.b !w)::e,h,b⟩ d (.v (.tuple #[]))) Ks)
   (aB cx r (St.put ⟨e,h,b⟩ d (.v (.tuple #[]))) Ks):=rfl
theorem acN {k:Nat}:Bv k Ks ⟨e,h,b⟩=Jx h[k]? fun t e'=>t=.ready∧Ks ⟨e,h.set k (.rcd .busy e'),b⟩:=o7
theorem abX {k kE bI:Nat} {t:RS} {y:Bool}:fT k kE bI K y t ⟨e,h,b⟩=Jx h[k]? fun t2 e2=>t2=.busy∧Jx h[kE]? fun t3 eI=>t3=.ghost∧K (.b y) ⟨eI,(h.set k (.rcd t e2)).set kE .dead,bI⟩:=by
 unfold fT
 simp only [o7]
theorem abY {k:Nat}:Fw k N X R h=Jx h[k]? fun t e=>(wfE (h.set k .dead) e∧wfB (h.set k .dead) (h.set k .dead))∧Tp t (N ⟨e,h.set k .dead,0⟩) (fun j=>X j ⟨e,h.set k .dead,0⟩) (R ⟨e,h.set k .dead,0⟩):=by
 unfold Fw
 simp only [o7]
 rfl
@[congr] theorem aoK {k:Nat} {s s':St} (q:s=s'):Bv k Ks s=Bv k Ks s':=by rw [q]
@[congr] theorem aoD {k kE bI:Nat} {t:RS} {y:Bool} {s s':St} (q:s=s'):fT k kE bI K y t s=fT k kE bI K y t s':=by rw [q]
@[congr] theorem aoE {k:Nat} {h h':List Blk} (q:h=h'):Fw k N X R h=Fw k N X R h':=by rw [q]
def yR (cx:Cx) (ps:List Nat) (asg body:LCode) (k:Nat):Yt:=fun xs sI K=>vM sI.h k fun t e=>t=.ready∧xs.length=ps.length ∧
 aw { cx with fx:=sI.h.length::k::cx.fx,y:=fun _ _ _ _=>False,rk:=some k } asg
  (Bv k fun s1=>aw { cx with fx:=sI.h.length::k::cx.fx,y:=fun _ _ _ _=>False,rk:=some k } body
   (fT k sI.h.length sI.b K true .ready) (fun j=>fT k sI.h.length sI.b K false (.out (some j))) (fT k sI.h.length sI.b K false (.out none)) s1)
  (fun _ _=>False) (fun _=>False) ⟨fF ps xs e,sI.h++[.rcd .ghost sI.e],sI.b⟩
theorem Ag {g:Operand} {ps:List Nat} {asg body:LCode} {gf:FuncId} {caps:List V} (n:Nat) (hn:h.length=n) (hg:ev e g=.clo gf caps) (hrk:v6 cx.rk h)
  (hit:cx.it gf (.itr n::caps) (n::cx.fx) n (yR cx ps asg body n) (h++[.rcd .ready e]) (Fw n N X R)):aw cx (.rfn g ps asg body) N X R ⟨e,h,b⟩:=by
 subst hn
 simp only [aw,hg]
 exact ⟨hrk,hit⟩
theorem Bg {ps:List Nat} {asg body:LCode} {k:Nat} {xs:List V} {e0:Env} (n:Nat) (hn:h.length=n) (hk:h[k]?=some (.rcd .ready e0)) (hl:xs.length=ps.length)
  (hgo:aw ⟨cx.C,n::k::cx.fx,cx.bn,cx.it,Y0,some k⟩ asg (Bv k fun s1=>aw ⟨cx.C,n::k::cx.fx,cx.bn,cx.it,Y0,some k⟩ body
   (fT k n b K true .ready) (fun j=>fT k n b K false (.out (some j))) (fT k n b K false (.out none)) s1) (fun _ _=>False) (fun _=>False) ⟨fF ps xs e0,h++[.rcd .ghost e],b⟩) :
  yR cx ps asg body k xs ⟨e,h,b⟩ K:=by
 subst hn
 unfold yR vM
 rw [show (⟨e,h,b⟩:St).h[k]?=some (.rcd .ready e0) from hk]
 exact ⟨rfl,hl,hgo⟩
end
end Go.Fx
namespace Go.Fx
open Go.RowKit
theorem Jf {P:Program} {f:FuncId} {args:List V} {h0:List Blk} {mv:List Nat} {R R':V→List Blk→Prop} (fx:List Nat) (hfx:∀ k,k<h0.length→k∉mv→k∈fx) (hlt:∀ k∈fx,k<h0.length∧k∉mv) (h:Fn P f args h0 mv R)
  (hR:∀ r hs,R r hs→aD fx hs∧∃ r' hs',R' r' hs'∧h0.length≤hs'.length∧leG fx ⟨[(0,r)],hs,0⟩ ⟨[(0,r')],hs',0⟩):Fn P f args h0 mv R':=by
 intro ρ X w vals h1 h2
 refine Calls.mono (h ρ X w vals h1 h2) ?_
 rintro e w' ⟨val,r,h',ρ',q1,q2,q3,q4,q5,q6⟩
 obtain ⟨hk,r',hs',g1,g1l,g2⟩:=hR r h' q2.1
 have hg:Good ρ X w fx 1 ⟨[(0,r)],h',0⟩ ⟨#[val],[]⟩ w':=by
  refine ⟨ρ',⟨⟨q3,fun k hk=>q6 k (hlt k hk).1 (hlt k hk).2⟩,hk⟩,⟨q4,fun i=>?_⟩,rfl,Marks.nil⟩
  by_cases hi:i=0
  ·subst hi;exact q5
  ·have:get [(0,r)] i=.any:=by simp [get,hi]
   rw [this];trivial
 obtain ⟨ρ2,⟨⟨p1,p1b⟩,_⟩,⟨p2,p3⟩,_⟩:=hg.leG g2
 exact ⟨val,r',hs',ρ2,q1,⟨g1,g1l⟩,p1,p2,p3 0,fun k hk hm=>p1b k (hfx k hk hm)⟩
end Go.Fx
namespace Go.Fx
open Go.RowKit
end Go.Fx
namespace Go.Fx
open Go.RowKit
theorem Kb {P:Program} {f:FuncId} {xs ys:List V} {h0:List Blk} {y:V} (h:OkN P f ys [] [] (Is y)) (hy:wkL ys (gvL (fun _=>true) h0 xs)) :
  OkN P f xs h0 (List.range h0.length) (IsA y (yab h0.length .dead)):=by
 refine ⟨h.1,?_⟩
 intro ρ X w vals h1 h2
 refine Calls.mono (h.2 (dW ρ fun _=>true) X w vals (Mi h1) (oU _ _ _ hy (pC h1 _ _ h2))) ?_
 rintro e w' ⟨val,r,h',ρ',q1,⟨⟨rfl,rfl⟩,_⟩,q3,q4,q5,_⟩
 refine ⟨val,r,_,ρ',q1,⟨⟨rfl,rfl⟩,by simp⟩,Bp.trans q3,⟨q4.inj,fun k _=>q4.out k (Nat.zero_le _),fun k b hb=>?_,q4.disj,q4.lt,q4.xlt⟩,q5,fun k hk hkm=>absurd (List.mem_range.2 hk) hkm⟩
 rw [List.getElem?_replicate] at hb
 split at hb
 ·cases hb
  exact q4.out k (Nat.zero_le _)
 ·cases hb
theorem resP_mono {h:List Blk} {e:Env}:∀ (rs:List eK) (acc:List V) {K K':List V→Prop},(∀ xs,K xs→K' xs)→aY h e rs acc K→aY h e rs acc K':=by
 intro rs
 induction rs with
 | nil=>intro acc K K' hk h;exact hk _ h
 | cons r rs ih =>
  intro acc K K' hk hh
  cases r with
  | tmp t=>exact ih _ hk hh
  | cell a n =>
   simp only [aY] at hh ⊢
   have hcs:∀ (n:Option Nat) (f:Nat) (cs:List V) {A B:V→Prop},(∀ x,A x→B x)→bX n f cs A→bX n f cs B:=by
    intro n f cs A B hab hl
    unfold bX at hl ⊢
    split at hl
    ·unfold cW at hl ⊢
     split at hl
     ·exact hab _ hl
     ·exact hl.elim
    ·exact ⟨hl.1,hab _ hl.2⟩
   unfold hJ at hh ⊢
   split at hh
   ·unfold pQ at hh ⊢
    split at hh
    ·exact hcs _ _ _ (fun x=>ih _ hk) hh
    ·obtain ⟨hi,hh⟩:=hh;exact ⟨hi,hcs _ _ _ (fun x=>ih _ hk) hh⟩
    ·obtain ⟨hi,hh⟩:=hh;exact ⟨hi,hcs _ _ _ (fun x=>ih _ hk) hh⟩
    ·exact hh.elim
   ·obtain ⟨hi,hh⟩:=hh;exact ⟨hi,hcs _ _ _ (fun x=>ih _ hk) hh⟩
   ·exact hh.elim
end Go.Fx
namespace Go.Fx
open Go.RowKit
end Go.Fx
namespace Go.Fx
open Go.RowKit
def FnD (P:Program) (f:FuncId) (args:List V) (h0:List Blk) (mv:List Nat) (R:V→List Blk→Prop):Prop :=
 ∀ (ρ:Nat→Loc) (X:Nat→Prop) (w:World) (vals:List Value),Rep ρ X w h0→bL ρ X w args vals →
  CallsDIn Fence.wide 0 P f vals.toArray .returning w fun e u w'=>u=.returning∧∃ val r h' ρ',e=.returned val∧(R r h'∧h0.length≤h'.length)∧Fr ρ w ρ' w'∧Rep ρ' X w' h'∧aX ρ' X w' r val ∧
   ∀ k,k<h0.length→k∉mv→ρ' k=ρ k
section
variable {ρ:Nat→Loc} {X:Nat→Prop} {w:World} {P:Program}
theorem Nr {cx:Cx} (hcx:∀ f zas h0 mv R,cx.C f zas h0 mv R→dY P f∧FnD P f zas h0 mv R) {f:FuncId} {args:List V} {vals:List Value} {s:St} {t:Array Value} {K:V→St→Prop} (hr:Rep ρ X w s.h) (he:cS ρ X w s.e t) (hfx:aD cx.fx s.h)
  (ha:bL ρ X w args vals) (h:aR cx f args s K):dY P f∧CallsDIn Fence.wide 0 P f vals.toArray .returning w fun e u w'=>u=.returning∧∃ val,e=.returned val∧oM cx.fx cx.bn ρ X w t K val w':=by
 obtain ⟨ι,zas,mv,R,⟨⟨hn,hlt0⟩,hmv⟩,hok,hwk,hC,hK⟩:=h
 have hlt:∀ k∈ι,k<s.h.length:=fun k hk=>(hlt0 k hk).1
 obtain ⟨hcall,hFn⟩:=hcx _ _ _ _ _ hC
 refine ⟨hcall,?_⟩
 have hargs:=oU _ _ _ hwk (iY hr (ι:=ι) _ _ hok ha)
 refine (hFn _ _ w vals (Gi hr hn hlt) hargs).mono ?_
 rintro e u w' ⟨rfl,val,r,h',ρc,rfl,⟨hR,hl⟩,hf,hrep,hval,hstay⟩
 have hl':ι.length≤h'.length:=by simpa using hl
 obtain ⟨hkeep,hK'⟩:=hK r h' hR hl'
 have hat:∀ j k,ι[j]?=some k→j∉mv→ρc j=ρ k:=fun j k hj hm=>by
  rw [hstay j (by simpa using (yaf.1 hj).1) hm,fV hj]
 have hag:∀ k,k∉mv.filterMap (ι[·]?)→(ρ k).real=true→bK ρ ρc ι s.h.length k=ρ k:=by
  intro k hk hreal
  cases hp:pos ι k with
  | some j =>
   simp only [bK,hp]
   exact hat j k (cQ hp) (fun hm=>hk (List.mem_filterMap.2 ⟨j,hm,cQ hp⟩))
  | none =>
   simp only [bK,hp]
   by_cases hk':k<s.h.length
   ·rw [if_pos hk']
   ·rw [hr.out k (by omega)] at hreal
    cases hreal
 have hfr:=Gq hr hf
 refine ⟨rfl,val,rfl,_,_,bK ρ ρc ι s.h.length,hK',⟨hkeep,fun k hk=>?_,fun k hk hreal=>?_⟩,hfr,Ja hr hn hlt hl' hf hrep hag,t6 hfr _ hag he,tM (tZ hr) (fun a c hb _=>oJ hn hlt hb) _ _ hval⟩
 cases hp:pos ι k with
 | some j =>
  simp only [bK,hp]
  exact hat j k (cQ hp) (fun hm=>hmv j hm k (cQ hp) hk)
 | none =>
  simp only [bK,hp]
  have:=bB hfx k hk
  have hkl:k<s.h.length:=by
   unfold aC at this
   split at this
   ·exact this.elim
   ·rename_i hb
    exact (yaf.1 hb).1
   ·exact this.elim
  rw [if_pos hkl]
 ·have hnot:k∉ι:=fun hi=>(hlt0 k hi).2 hk
  refine ⟨hag k (fun hm=>?_) hreal,(hf.keep _ (hr.lt k hreal) (dA hr hnot hreal)).1⟩
  obtain ⟨j,_,hj⟩:=List.mem_filterMap.1 hm
  exact hnot (List.mem_of_getElem? hj)
end
inductive LDf where
 | seq (l:LCode) (d:LDf)
 | dfr (n:Nat) (ls:List aH) (g:FuncId) (xs:List Operand) (l:LCode)
def Yq (o:Oper):Option (FuncId × List Operand) :=
 match o.op,o.guard with
 | .defer c,none=>match c.callee with
  | .value (.func g)=>some (g,c.args.toList)
  | _=>none
 | _,_=>none
def Jw (P:Program) (N:Nat):Code→LDf→Option LDf
 | .seq a b,.seq x d=>match rlC P N a x,Jw P N b d with
  | some x',some d'=>some (.seq x' d')
  | _,_=>none
 | .seq (.region _ ops draw) b,.dfr n ls _ _ y=>match draw,ops.toList.getLast?,eU P ops N ops.toList.dropLast ls,rlC P N b y with
  | false,some od,some ls',some y'=>match Yq od,od.dst with
   | some (g,xs),none=>some (.dfr n ls' g xs y')
   | _,_=>none
  | _,_,_,_=>none
 | _,_=>none
def Zi (cx:Cx) (C:Ctr) (E:St→Prop):LDf→St→Prop
 | .seq l d,s=>aw cx l (Zi cx C E d) (fun _ _=>False) E s
 | .dfr n ls g xs l,s=>eV cx ls { s with b:=s.h.length,h:=s.h++yab n .dead } fun s1=>∃ (ks:List Nat) (ps:List V),(ps=ks.map (fun k=>V.ptr k 0 0)∧xs.map (ev s1.e)=ps)∧aD (ks++cx.fx) s1.h ∧
   aw { cx with fx:=ks++cx.fx } l (fun s'=>aR { cx with C:=C } g ps s' fun _ s''=>E s'') (fun _ _=>False) (fun s'=>aR { cx with C:=C } g ps s' fun _ s''=>E s'') s1
section
variable {P:Program} {X:Nat→Prop} {N:Nat}
theorem Bd [DBase] {ρ0:Nat→Loc} {w0:World} {fx:List Nat} {cx:Cx} (hcx:cx.ok P) (hfxe:cx.fx=fx) {ops:Array Oper} {Q:Exit→Act→World→Prop} {K:St→Prop} {tl:List Oper} (hQ:∀ s a w,K s→Good ρ0 X w0 fx N s a w→wpList P ops Q tl a w) :
  ∀ (os:List Oper) (ls0 ls:List aH) (s:St) (a:Act) (w:World),eU P ops N os ls0=some ls→Good ρ0 X w0 fx N s a w→eV cx ls s K→wpList P ops Q (os++tl) a w
 | os,ls0,[],s,a,w,hm,hg,h=>by
  have:=nU hm
  subst this
  exact hQ s a w h hg
 | [],ls0,l::ls,s,a,w,hm,hg,h=>by
  cases ls0<;>simp [eU] at hm
 | o::os,ls0,l::ls,s,a,w,hm,hg,h=>by
  obtain ⟨l0,r0,op,g,rfl,h1,h2,hd,rfl,h4⟩:=iW hm
  obtain ⟨ρ,hpre,⟨hr,he⟩,hN,hdf⟩:=hg
  simp only [eV] at h
  rw [List.cons_append]
  unfold wpList
  rcases fB hN h2 he h with ⟨hw,e',_,he',h'⟩|⟨hw,e',_,he',h'⟩
  ·rw [if_pos hw]
   left
   refine Oper.wp_mono ?_ (oL hcx h1 (s:={ s with e:=e' }) hr he' (by rw [hfxe];exact hpre.2) h')
   rintro a' w' ⟨val,rfl,hs⟩
   rw [hfxe] at hs
   obtain ⟨x,s',hK,hgood⟩:=Good.sound (s:=s) hpre ⟨hN,hdf⟩ hd hs
   exact Bd hcx hfxe hQ os r0 ls _ _ _ h4 hgood hK
  ·rw [if_neg (by rw [hw];exact Bool.false_ne_true)]
   have hh:(St.put { s with e:=e' } o.dst (.v (.tuple #[]))).h=s.h:=by cases o.dst<;>rfl
   refine Bd hcx hfxe hQ os r0 ls _ _ _ h4 ⟨ρ,⟨hpre.1,by rw [hh];exact hpre.2⟩,⟨by rw [hh];exact hr,?_⟩,by rw [size_put];exact hN,by cases o.dst<;>exact hdf⟩ h'
   exact eJ (e:=e') (x:=.v (.tuple #[])) (val:=undef) he' rfl (fun n hn=>by rw [hN];exact hd n hn) _ rfl
theorem Mm {ρ ρ':Nat→Loc} {w w':World}:∀ (ks:List Nat) (vals:List Value),(∀ k∈ks,ρ' k=ρ k)→bL ρ X w (ks.map fun k=>V.ptr k 0 0) vals→bL ρ' X w' (ks.map fun k=>V.ptr k 0 0) vals
 | [],[],_,_=>trivial
 | k::ks,v::vals,hk,h=>⟨by
   have:=h.1
   simp only [aX] at this ⊢
   rw [hk k (by simp)]
   exact this,Mm ks vals (fun j hj=>hk j (List.mem_cons_of_mem _ hj)) h.2⟩
 | [],_::_,_,h=>h.elim
 | _::_,[],_,h=>h.elim
theorem Tq {o:Oper} {g:FuncId} {xs:List Operand} (h:Yq o=some (g,xs)):∃ c,o.op=.defer c∧o.guard=none∧c.callee=.value (.func g)∧c.args.toList=xs:=by
 unfold Yq at h
 split at h
 ·rename_i c h1 h2
  split at h
  ·rename_i g' h3
   simp only [yac,yad] at h
   obtain ⟨rfl,rfl⟩:=h
   exact ⟨c,h1,h2,h3,rfl⟩
  ·cases h
 ·cases h
theorem Pt [B0:DBase] (hP:P.follows .mixedOrders=true) {fn:Func} {R:Ending→World→Prop} (hRo:∀ w,¬R .outgrown w) {cx:Cx} (hcx:cx.ok P) {C:Ctr} (hC:∀ f zas h0 mv R,C f zas h0 mv R→dY P f∧FnD P f zas h0 mv R) (hbn:cx.bn=[]) (hy:cx.y=fun _ _ _ _=>False) (hrk:cx.rk=none) {E:St→Prop} {ρ0:Nat→Loc} {w0:World}
  (hE:∀ s a w,E s→Good ρ0 X w0 cx.fx N s a w→LeavesInM Fence.wide 0 P fn a.tmps R a.defers .returning w) {c2:Code} {y y':LCode} (hy':rlC P N c2 y=some y') {ks:List Nat} {ps:List V} {g:FuncId} {s1:St} {a1:Act} {w1:World} {ρ:Nat→Loc} {vals:List Value} (hpk:ps=ks.map fun k=>V.ptr k 0 0)
  (hkp:aD (ks++cx.fx) s1.h) (hrun:aw { cx with fx:=ks++cx.fx } y' (fun s'=>aR { cx with C:=C } g ps s' fun _ s''=>E s'') (fun _ _=>False) (fun s'=>aR { cx with C:=C } g ps s' fun _ s''=>E s'') s1)
  (hf:Fr ρ0 w0 ρ w1) (hfx:∀ k∈cx.fx,ρ k=ρ0 k) (hkp1:aD cx.fx s1.h) (hr:Rep ρ X w1 s1.h) (he:cS ρ X w1 s1.e a1.tmps) (hN:a1.tmps.size=N) (hM:Marks ρ w0 w1 a1.defers) (hvals:bL ρ X w1 (ks.map fun k=>V.ptr k 0 0) vals) :
  c2.wpIn (FR none) 0 P (bodyPostM Fence.wide 0 P fn R) { a1 with defers:={ target:=.fn (.func g) #[],args:=vals.toArray }::a1.defers } w1:=by
 have hno:¬LetsOut (bodyPostM Fence.wide 0 P fn R):=fun ⟨_,w',hq⟩=>hRo w' hq
 let B:DBase:=⟨{ target:=.fn (.func g) #[],args:=vals.toArray }::a1.defers⟩
 have hgd:@Good ρ X w1 (ks++cx.fx) N B s1 { a1 with defers:={ target:=.fn (.func g) #[],args:=vals.toArray }::a1.defers } w1 :=
  ⟨ρ,⟨⟨Fr.refl _ _,fun _ _=>rfl⟩,hkp⟩,⟨hr,he⟩,hN,@Marks.nil B _ _ _⟩
 have hend:∀ s' a' w',aR { cx with C:=C } g ps s' (fun _ s''=>E s'')→@Good ρ X w1 (ks++cx.fx) N B s' a' w'→LeavesInM Fence.wide 0 P fn a'.tmps R a'.defers .returning w':=by
  intro s' a' w' hcp hg'
  obtain ⟨n,hn⟩:=@Good.marked X B _ _ _ _ _ _ _ hg'
  refine @rC X B _ _ _ _ P fn R s' (fun a2 w2 hg2 hb=>?_) n a' w' hn hg'
  rw [hb]
  obtain ⟨ρ2,⟨⟨hf2,hfx2⟩,hkp2⟩,⟨hr2,he2⟩,hN2,_⟩:=hg2
  have hkp3:aD cx.fx s'.h:=dP fun k hk=>bB hkp2 k (yag _ hk)
  have hv2:bL ρ2 X w2 ps vals:=by
   rw [hpk]
   exact Mm ks vals (fun k hk=>hfx2 k (List.mem_append_left _ hk)) hvals
  obtain ⟨hcall,hcd⟩:=Nr (cx:={ cx with C:=C }) hC hr2 he2 hkp3 hv2 hcp
  refine ⟨by simp,.inr ⟨fun h=>(by cases h),.func g,#[],g,vals.toArray,rfl,?_,fun _ _=>trivial,?_⟩⟩
  ·simp [invoke,iO hcall]
  ·refine hcd.mono ?_
   rintro e u w3 ⟨rfl,val,rfl,x,s'',ρ3,hK,⟨hkp4,hfx3,_⟩,hf3,hr3,he3,hv3⟩
   show LeavesInM Fence.wide 0 P fn a2.tmps R a1.defers (settle .returning) w3
   have:=hE s'' { a2 with defers:=a1.defers } w3 hK ⟨ρ3,⟨⟨hf.trans (hf2.trans hf3),fun k hk=>(hfx3 k hk).trans ((hfx2 k (yag _ hk)).trans (hfx k hk))⟩,hkp4⟩,⟨hr3,he3⟩,hN2,@Marks.fr B0 _ _ _ _ _ _ hf3 (@Marks.fr B0 _ _ _ _ _ _ hf2 hM)⟩
   exact this
 exact @xG P X N hP c2 y y' hy' B none { cx with fx:=ks++cx.fx } ρ w1 ⟨hcx.1,hcx.2⟩ (.inl rfl) (by unfold ROk;simp only [hrk]) (fun k=>by simp only [hy];exact rR) _ _ (fun _ _=>False) _ hno
  (fun s' a' w' h1 h2=>hend s' a' w' h1 h2) (fun _ _ _ _ hx _=>hx.elim) (fun s' a' w' h1 h2=>hend s' a' w' h1 h2) s1 _ w1 hrun hgd
theorem Pv (hP:P.follows .mixedOrders=true) {fn:Func} {R:Ending→World→Prop} (hRo:∀ w,¬R .outgrown w) {cx:Cx} (hcx:cx.ok P) {C:Ctr} (hC:∀ f zas h0 mv R,C f zas h0 mv R→dY P f∧FnD P f zas h0 mv R) (hbn:cx.bn=[]) (hy:cx.y=fun _ _ _ _=>False) (hrk:cx.rk=none) {E:St→Prop} {ρ0:Nat→Loc} {w0:World}
  (hE:∀ s a w,E s→Good ρ0 X w0 cx.fx N s a w→LeavesInM Fence.wide 0 P fn a.tmps R a.defers .returning w) :
  ∀ (d0:LDf) (c:Code) (d:LDf),Jw P N c d0=some d→∀ s a w,Zi cx C E d s→Good ρ0 X w0 cx.fx N s a w→c.wpIn (FR none) 0 P (bodyPostM Fence.wide 0 P fn R) a w:=by
 have hno:¬LetsOut (bodyPostM Fence.wide 0 P fn R):=fun ⟨_,w',hq⟩=>hRo w' hq
 intro d0
 induction d0 with
 | seq x d0 ih =>
  intro c d hm s a w h hg
  cases c with
  | seq c1 c2 =>
   simp only [Jw] at hm
   split at hm
   ·rename_i x' d' hx hd
    simp only [yac] at hm
    subst hm
    refine wpIn_seq (xG (P:=P) (X:=X) (N:=N) hP c1 _ _ hx none cx ρ0 w0 hcx (.inl rfl) (by unfold ROk;rw [hrk];trivial) (fun k=>by rw [hy];exact rR) _ (Zi cx C E d') (fun _ _=>False) E (gE hno) ?_ (fun _ _ _ _ hx _=>hx.elim) ?_ s a w h hg)
    ·intro s' a' w' h' hg'
     exact ih _ _ hd s' a' w' h' hg'
    ·intro s' a' w' h' hg'
     exact hE s' a' w' h' hg'
   ·cases hm
  | _=>simp [Jw] at hm
 | dfr n ls g xs y =>
  intro c d hm s a w h hg
  cases c with
  | seq c1 c2 =>
   cases c1 with
   | region id ops draw =>
    simp only [Jw] at hm
    split at hm
    ·rename_i od ls' y' hl hls hy'
     split at hm
     ·rename_i g' xs' hod hdst
      simp only [yac] at hm
      subst hm
      have hops:ops.toList=ops.toList.dropLast++[od]:=by
       obtain ⟨h1,h2⟩:=List.getLast?_eq_some_iff.1 hl
       rw [h2];simp
      refine wpIn_seq (wpIn_region_list (Ez (gE hno) _ (.inl rfl) _ _ ?_))
      rw [hops]
      refine Bd (cx:=cx) (N:=N) hcx rfl ?_ _ _ _ _ a w hls (hg.reserve _ _) h
      intro s1 a1 w1 h1 hg1
      obtain ⟨ks,ps,⟨hpk,hps⟩,hkp,hrun⟩:=h1
      obtain ⟨ρ,⟨⟨hf,hfx⟩,hkp1⟩,⟨hr,he⟩,hN,hM⟩:=hg1
      obtain ⟨c,hop,hgd,hcal,hargs⟩:=Tq hod
      have hw:Region.wanted od (yielded ops a1.tmps)=true:=by simp [Region.wanted,hgd]
      have hvals:=lF he xs'
      rw [hps,hpk] at hvals
      unfold wpList
      rw [if_pos hw]
      left
      unfold Oper.wp execOp
      have ha:(c.args.map a1.eval)=(xs'.map a1.eval).toArray:=by apply Array.ext';simp [hargs]
      simp only [hop,resolve,hcal,ha,Act.eval,Deferred.ofValue,Sem.run_bind,Sem.run_pure,Result.andThen_ok,Array.empty_append,Oper.upon_defer,hdst,Act.put]
      unfold wpList
      simp only [Exit.then]
      refine Pt hP hRo hcx hC hbn hy hrk hE hy' (hpk:=hpk) hkp hrun hf hfx hkp1 hr he hN hM hvals
     ·cases hm
    ·cases hm
   | _=>simp [Jw] at hm
  | _=>simp [Jw] at hm
end
def afO (P:Program) (f:FuncId) (d0:LDf):Option (LDf × List eK × Nat) :=
 match P.funcs[f]? with
 | some fn=>match fn.body,uD P fn.results.toList,decide (fn.results.toList.length≤4)&&!(fn.name == "runtime.NumGoroutine") with
  | some c,some rs,true=>(Jw P fn.ntmps c d0).map fun l=>(l,rs,fn.ntmps)
  | _,_,_=>none
 | none=>none
def CD0 (P:Program):Ctr:=fun f xs h0 mv R=>dY P f∧FnD P f xs h0 mv R
theorem abB {P:Program} (hP:P.follows .mixedOrders=true) {f:FuncId} {d0 d:LDf} {rs:List eK} {nt:Nat} (fx:List Nat) (hl:afO P f d0=some (d,rs,nt)) {args:List V} {h0:List Blk} {mv:List Nat} {R:V→List Blk→Prop} (hlen:args.length≤nt) (hb:aD fx h0)
  (hfx:∀ k,k<h0.length→k∉mv→k∈fx) (h:Zi (cxN P fx) (CD0 P) (dD fx h0.length rs R) d ⟨aO 0 args,h0,0⟩):OkN P f args h0 mv R:=by
 unfold afO at hl
 split at hl
 ·rename_i fn hf
  split at hl
  ·rename_i c rs' hb' hr ht
   simp only [Bool.and_eq_true,Bool.not_eq_true',decide_eq_true_eq] at ht
   cases hm:Jw P fn.ntmps c d0 with
   | none=>simp [hm] at hl
   | some l1 =>
    simp only [hm,yae,yac,yad] at hl
    obtain ⟨rfl,rfl,rfl⟩:=hl
    refine ⟨⟨fn,hf,ht.2,by simp [hb']⟩,?_⟩
    intro ρ X w vals hr0 ha
    have hvl:=cZ ha
    refine (callsIn_wide (n:=0)).1 (callsIn_of_wp_marks hf hb' trivial ?_)
    have hgd:Good ρ X w fx fn.ntmps ⟨aO 0 args,h0,0⟩ { tmps:=vals.toArray++yaa (fn.ntmps-vals.toArray.size) undef,defers:=[] } w :=
     ⟨ρ,⟨⟨Fr.refl _ _,fun _ _=>rfl⟩,hb⟩,⟨hr0,tY ha _⟩,by simp;omega,Marks.nil⟩
    have hend:∀ s,dD fx h0.length rs' R s→∀ a w',Good ρ X w fx fn.ntmps s a w'→∃ v,(results fn a.tmps).run P w'=.ok v w'∧∃ val r h' ρ',Ending.returned v=.returned val∧(R r h'∧h0.length≤h'.length)∧Fr ρ w ρ' w'∧Rep ρ' X w' h'∧aX ρ' X w' r val ∧
      ∀ k,k<h0.length→k∉mv→ρ' k=ρ k:=by
     intro s hret a w' hgood
     obtain ⟨ρ',⟨⟨hf1,hfx1⟩,hk1⟩,⟨hr1,he1⟩,hN1,hd1⟩:=hgood
     obtain ⟨xs,vs,h5,h6,h7⟩:=p8 hr1 he1 fn.results.toList rs' [] [] hr trivial hret
     obtain ⟨p,⟨h8,h9,h10,h11,h12⟩,h13⟩:=h5
     refine ⟨Do vs,mD ht.1 h7,_,_,p,dJ ρ' p,rfl,⟨h13,h10⟩,hf1.trans pG,xD hr1 h8 h12,?_,fun k hk hkm=>?_⟩
     ·exact fN _ _ h11 (Jp (by simpa using h6))
     ·have hkf:=hfx k hk hkm
      rw [cY (bB h9 k hkf)]
      exact hfx1 k hkf
    refine Pv (P:=P) (X:=X) (N:=fn.ntmps) hP ?_ (Pm P fx) (fun _ _ _ _ _ h=>h) rfl rfl rfl ?_ d0 c l1 hm _ _ _ h hgd
    ·rintro w' ⟨val,_,_,_,hq,_⟩
     cases hq
    ·intro s a w' hret hgood
     exact oE (hend s hret) a.defers a w' rfl hgood
  ·cases hl
 ·cases hl
section
variable {P:Program} {X:Nat→Prop} {N:Nat}
theorem u9 [DBase] {ρ0:Nat→Loc} {w0:World} {fx:List Nat} {cx:Cx} (hcx:cx.ok P) (hfxe:cx.fx=fx) {D:List Deferred} {ops:Array Oper} {Q:Exit→Act→World→Prop} {K:St→Prop} (hQ:∀ s a w,K s→Good ρ0 X w0 fx N s a w→a.defers=D→Q .normal a w) :
  ∀ (os:List Oper) (ls0 ls:List aH) (s:St) (a:Act) (w:World),eU P ops N os ls0=some ls→Good ρ0 X w0 fx N s a w→a.defers=D→eV cx ls s K→wpList P ops Q os a w
 | os,ls0,[],s,a,w,hm,hg,hD,h=>by
  have:=nU hm
  subst this
  exact hQ s a w h hg hD
 | [],ls0,l::ls,s,a,w,hm,hg,hD,h=>by
  cases ls0<;>simp [eU] at hm
 | o::os,ls0,l::ls,s,a,w,hm,hg,hD,h=>by
  obtain ⟨l0,r0,op,g,rfl,h1,h2,hd,rfl,h4⟩:=iW hm
  obtain ⟨ρ,hpre,⟨hr,he⟩,hN,hdf⟩:=hg
  simp only [eV] at h
  unfold wpList
  rcases fB hN h2 he h with ⟨hw,e',_,he',h'⟩|⟨hw,e',_,he',h'⟩
  ·rw [if_pos hw]
   left
   refine Oper.wp_mono ?_ (oL hcx h1 (s:={ s with e:=e' }) hr he' (by rw [hfxe];exact hpre.2) h')
   rintro a' w' ⟨val,rfl,hs⟩
   rw [hfxe] at hs
   obtain ⟨x,s',hK,hgood⟩:=Good.sound (s:=s) hpre ⟨hN,hdf⟩ hd hs
   exact u9 hcx hfxe hQ os r0 ls _ _ _ h4 hgood (by rw [lU];exact hD) hK
  ·rw [if_neg (by rw [hw];exact Bool.false_ne_true)]
   have hh:(St.put { s with e:=e' } o.dst (.v (.tuple #[]))).h=s.h:=by cases o.dst<;>rfl
   refine u9 hcx hfxe hQ os r0 ls _ _ _ h4 ⟨ρ,⟨hpre.1,by rw [hh];exact hpre.2⟩,⟨by rw [hh];exact hr,?_⟩,by rw [size_put];exact hN,by cases o.dst<;>exact hdf⟩ (by rw [lU];exact hD) h'
   exact eJ (e:=e') (x:=.v (.tuple #[])) (val:=undef) he' rfl (fun n hn=>by rw [hN];exact hd n hn) _ rfl
end
def afN (P:Program) (f:FuncId) (l0:List aH):Option (List aH × List eK × Nat) :=
 match P.funcs[f]? with
 | some fn=>match fn.body,uD P fn.results.toList,decide (fn.results.toList.length≤4)&&!(fn.name == "runtime.NumGoroutine") with
  | some (.region _ ops false),some rs,true=>(eU P ops fn.ntmps ops.toList l0).map fun l=>(l,rs,fn.ntmps)
  | _,_,_=>none
 | none=>none
theorem ahM {P:Program} {f:FuncId} {l0 l:List aH} {rs:List eK} {nt:Nat} (fx:List Nat) (hl:afN P f l0=some (l,rs,nt)) {args:List V} {h0:List Blk} {mv:List Nat} {R:V→List Blk→Prop} (hlen:args.length≤nt) (hb:aD fx h0)
  (hfx:∀ k,k<h0.length→k∉mv→k∈fx) (h:eV (cxN P fx) l ⟨aO 0 args,h0,0⟩ (dD fx h0.length rs R)):CD0 P f args h0 mv R:=by
 unfold afN at hl
 split at hl
 ·rename_i fn hf
  split at hl
  ·rename_i id ops rs' hb' hr ht
   simp only [Bool.and_eq_true,Bool.not_eq_true',decide_eq_true_eq] at ht
   cases hm:eU P ops fn.ntmps ops.toList l0 with
   | none=>simp [hm] at hl
   | some l1 =>
    simp only [hm,yae,yac,yad] at hl
    obtain ⟨rfl,rfl,rfl⟩:=hl
    refine ⟨⟨fn,hf,ht.2,by simp [hb']⟩,?_⟩
    intro ρ X w vals hr0 ha
    have hvl:=cZ ha
    refine (callsDIn_of_wp (R:=fun e w'=>∃ val r h' ρ',e=.returned val∧(R r h'∧h0.length≤h'.length)∧Fr ρ w ρ' w'∧Rep ρ' X w' h'∧aX ρ' X w' r val∧∀ k,k<h0.length→k∉mv→ρ' k=ρ k) hf hb' trivial ?_).mono ?_
    ·have hgd:Good ρ X w fx fn.ntmps ⟨aO 0 args,h0,0⟩ { tmps:=vals.toArray++yaa (fn.ntmps-vals.toArray.size) undef,defers:=[] } w :=
      ⟨ρ,⟨⟨Fr.refl _ _,fun _ _=>rfl⟩,hb⟩,⟨hr0,tY ha _⟩,by simp;omega,Marks.nil⟩
     have hno:¬LetsOut (bodyPost P fn fun e w'=>∃ val r h' ρ',e=.returned val∧(R r h'∧h0.length≤h'.length)∧Fr ρ w ρ' w'∧Rep ρ' X w' h'∧aX ρ' X w' r val∧∀ k,k<h0.length→k∉mv→ρ' k=ρ k):=by
      rintro ⟨a,w',val,_,_,_,hq,_⟩
      cases hq
     refine wpIn_region_list (Ez (r:=none) hno _ (.inl rfl) _ _ ?_)
     refine u9 (P:=P) (X:=X) (N:=fn.ntmps) (Pm P fx) rfl (D:=[]) ?_ _ _ _ _ _ _ hm hgd rfl h
     intro s a w' hret hgood hdf
     obtain ⟨ρ',⟨⟨hf1,hfx1⟩,hk1⟩,⟨hr1,he1⟩,hN1,hd1⟩:=hgood
     obtain ⟨xs,vs,h5,h6,h7⟩:=p8 hr1 he1 fn.results.toList rs' [] [] hr trivial hret
     obtain ⟨p,⟨h8,h9,h10,h11,h12⟩,h13⟩:=h5
     refine ⟨hdf,Do vs,mD ht.1 h7,_,_,p,dJ ρ' p,rfl,⟨h13,h10⟩,hf1.trans pG,xD hr1 h8 h12,?_,fun k hk hkm=>?_⟩
     ·exact fN _ _ h11 (Jp (by simpa using h6))
     ·have hkf:=hfx k hk hkm
      rw [cY (bB h9 k hkf)]
      exact hfx1 k hkf
    ·rintro e u w' ⟨rfl,hR⟩
     exact ⟨rfl,hR⟩
  ·cases hl
 ·cases hl
end Go.Fx
namespace Go.Fx
open Go
open And renaming intro → aI
set_option linter.defProp false
def rX:=aI (aI (aI (aI (aI (aI (aI (@Bool.and_self) (aI (@Bool.and_true) (@Bool.false_eq_true))) (aI (@Bool.not_false) (aI (@Bool.not_true) (@List.all_cons.{0})))) (aI (aI (@List.all_nil.{0}) (aI (@List.append_nil.{0}) (@List.cons_append.{0}))) (aI (aI (@List.drop_nil.{0}) (@List.drop_zero.{0})) (aI (@List.getD_eq_getElem?_getD.{0}) (@List.getElem?_cons_zero.{0}))))) (aI (aI (aI (@List.length_append.{0}) (aI (@List.length_cons.{0}) (@List.length_map.{0,0}))) (aI (aI (@List.length_nil.{0}) (@List.length_replicate.{0})) (aI (@List.map_cons.{0,0}) (@List.map_nil.{0,0})))) (aI (aI (@List.mem_cons.{0}) (aI (@List.nil_append.{0}) (@List.not_mem_nil.{0}))) (aI (aI (@List.reverse_cons.{0}) (@List.reverse_nil.{0})) (aI (@List.set_cons_zero.{0}) (@List.take_nil.{0})))))) (aI (aI (aI (aI (@List.take_zero.{0}) (aI (@Nat.add_zero) (@Nat.le_refl))) (aI (aI (@Nat.zero_add) (@Option.getD_none.{0})) (aI (@Option.getD_some.{0}) (@Option.map_none.{0,0})))) (aI (aI (@yae.{0,0}) (aI (@V.v.injEq) (@Value.bool.injEq))) (aI (aI (@Value.int.injEq) (@zh)) (aI (@zi) (@zj))))) (aI (aI (aI (@and_self) (aI (@and_true) (@qV))) (aI (aI (@qW) (@qR)) (aI (@qS) (@qT)))) (aI (aI (@qU) (aI (@zd) (@zc))) (aI (aI (@zf) (@ze)) (aI (@za) (@qY))))))) (aI (aI (aI (aI (aI (@zg) (aI (@zb) (@qX))) (aI (@qZ) (aI (@qQ) (@wa)))) (aI (aI (@wc) (aI (@wd) (@kV))) (aI (aI (@kX) (@kU)) (aI (@false_or) (@kZ))))) (aI (aI (aI (@wh) (aI (@wi) (@wb))) (aI (aI (@wq) (@ww)) (aI (@wB) (@wF)))) (aI (aI (@wJ) (aI (@wN) (@wR))) (aI (aI (@wV) (@wl)) (aI (@lg0) (@lg1)))))) (aI (aI (aI (aI (@jg) (aI (@jl) (@jq))) (aI (aI (@jx) (@jC)) (aI (@jH) (@jM)))) (aI (aI (@jO) (aI (@jQ) (@jS))) (aI (aI (@lg2) (@lg3)) (aI (@lg4) (@lg5))))) (aI (aI (aI (@lg6) (aI (@lg7) (@lg8))) (aI (aI (@lg9) (@wu)) (aI (@wy) (@jk)))) (aI (aI (@jp) (aI (@jv) (@jB))) (aI (aI (@jG) (@jL)) (aI (@wD) (@wH)))))))) (aI (aI (aI (aI (aI (aI (@wL) (aI (@wP) (@wT))) (aI (@wX) (aI (@jb) (@jf)))) (aI (aI (@qas) (aI (@wm) (@wv))) (aI (aI (@jh) (@jm)) (aI (@jr) (@jy))))) (aI (aI (aI (@jD) (aI (@jI) (@jN))) (aI (aI (@jP) (@jR)) (aI (@jT) (@wz)))) (aI (aI (@wE) (aI (@wI) (@wM))) (aI (aI (@wQ) (@wU)) (aI (@wY) (@jc)))))) (aI (aI (aI (aI (@wt) (aI (@wx) (@wC))) (aI (aI (@wG) (@wK)) (aI (@wO) (@wS)))) (aI (aI (@wW) (aI (@not_false_eq_true) (@ko))) (aI (aI (@kn) (@zo)) (aI (@zO) (@kL))))) (aI (aI (aI (@kI) (aI (@zu) (@zn))) (aI (aI (@zH) (@kO)) (aI (@kR) (@zA)))) (aI (aI (@zP) (aI (@kD) (@kK))) (aI (aI (@zJ) (@zL)) (aI (@kP) (@zr))))))) (aI (aI (aI (aI (aI (@zE) (aI (@kz) (@kJ))) (aI (aI (@zt) (@zv)) (aI (@zw) (@zM)))) (aI (aI (@zp) (aI (@kG) (@zB))) (aI (aI (@zN) (@zV)) (aI (@zQ) (@ky))))) (aI (aI (aI (@zk) (aI (@kH) (@zy))) (aI (aI (@kQ) (@zx)) (aI (@zm) (@kb)))) (aI (aI (@kc) (aI (@ke) (@kf))) (aI (aI (@kC) (@kx)) (aI (@zK) (@zG)))))) (aI (aI (aI (aI (@kr) (aI (@zq) (@or_false))) (aI (aI (@kT) (@kS)) (aI (@qB) (@qe)))) (aI (aI (@qo) (aI (@qj) (@qL))) (aI (aI (@qM) (@qc)) (aI (@qJ) (@qd))))) (aI (aI (aI (@qf) (aI (@qP) (@qa))) (aI (aI (@qN) (@qh)) (aI (@qb) (@qs)))) (aI (aI (@qu) (aI (@qv) (@qK))) (aI (aI (@qr) (@qn)) (aI (@wj) (@true_and))))))))
def rY:=aI (aI (aI (aI (aI (aI (@qaZ) (@qbr)) (aI (@qbs) (@qcp))) (aI (aI (@qco) (@qcu)) (aI (@qcz) (aI (@qcy) (@qcx))))) (aI (aI (aI (@qcw) (@qct)) (aI (@qcs) (@qcv))) (aI (aI (@qcB) (@qcA)) (aI (@qcC) (aI (@qcr) (@qcq)))))) (aI (aI (aI (aI (@wg) (@we)) (aI (@qaY) (@qbv))) (aI (aI (@qbw) (@qbX)) (aI (@qbn) (aI (@qaI) (@qaJ))))) (aI (aI (aI (@qaM) (@qaL)) (aI (@qaK) (@qbT))) (aI (aI (@qbU) (@qaR)) (aI (@qaQ) (aI (@qaP) (@qaU))))))) (aI (aI (aI (aI (aI (@qaz) (@qax)) (aI (@qay) (@qaA))) (aI (aI (@qaB) (@qaC)) (aI (@qav) (aI (@qaw) (@qbV))))) (aI (aI (aI (@qca) (@qbZ)) (aI (@qbP) (@qbO))) (aI (aI (@qaW) (@qbg)) (aI (@qbh) (aI (@qat) (@qbG)))))) (aI (aI (aI (aI (@qbJ) (@qbA)) (aI (@qby) (@qbk))) (aI (aI (@qbj) (@qbi)) (aI (@qbF) (aI (@qaG) (@qaE))))) (aI (aI (aI (@qaF) (@qaH)) (aI (@qaD) (@qbE))) (aI (aI (@qaV) (@qbb)) (aI (@qbd) (aI (@qbc) (@qba)))))))
def rZ:=aI (aI (aI (aI (@Tx) (@acR)) (aI (@acN) (@abY))) (aI (aI (@abX) (@aeO)) (aI (@aeN) (@aaA)))) (aI (aI (aI (@aeM) (@aeL)) (aI (@aeK) (@aeJ))) (aI (aI (@aeI) (@Zz)) (aI (@aeH) (aI (@Zy) (@Zx)))))
def rW:=aI (aI (@ahG) (@ahF)) (aI (@agP) (@afQ))
end Go.Fx
namespace Go.Fx.K
open Go Go.Fx
def t7:Array Value:=#[.int .u32 0,.int .u32 0,.int .u32 0,.int .u32 0,.int .u32 0,.int .u32 0,.int .u32 0,.int .u32 0,.int .u8 0,.int .u8 0,.int .u8 0,.int .u8 0,.int .u8 0,.int .u8 0,.int .u8 0,.int .u8 0,.int .u8 0,.int .u8 0,.int .u8 0,.int .u8 0,.int .u8 0,.int .u8 0,.int .u8 0,.int .u8 0,.int .u8 0,.int .u8 0,.int .u8 0,.int .u8 0,.int .u8 0,.int .u8 0,.int .u8 0,.int .u8 0,.int .u8 0,.int .u8 0,.int .u8 0,.int .u8 0,.int .u8 0,.int .u8 0,.int .u8 0,.int .u8 0,.int .u8 0,.int .u8 0,.int .u8 0,.int .u8 0,.int .u8 0,.int .u8 0,.int .u8 0,.int .u8 0,.int .u8 0,.int .u8 0,.int .u8 0,.int .u8 0,.int .u8 0,.int .u8 0,.int .u8 0,.int .u8 0,.int .u8 0,.int .u8 0,.int .u8 0,.int .u8 0,.int .u8 0,.int .u8 0,.int .u8 0,.int .u8 0,.int .u8 0,.int .u8 0,.int .u8 0,.int .u8 0,.int .u8 0,.int .u8 0,.int .u8 0,.int .u8 0,.int .u64 0]
end Go.Fx.K
namespace Go.Fx.K
open Go Go.Fx
abbrev MA (n x:Nat):aH:=⟨some n,.mov (.tmp x),none⟩
abbrev LA (n x:Nat):aH:=⟨some n,.load none (.tmp x),none⟩
abbrev FA (n k x:Nat):aH:=⟨some n,.fld k (.tmp x),none⟩
abbrev SA (n k x:Nat):aH:=⟨some n,.load (some k) (.tmp x),none⟩
abbrev XA (n k x y:Nat):aH:=⟨some n,.idx k (.tmp x) (.tmp y),none⟩
abbrev CA (n:Nat) (x:Int):aH:=⟨some n,.mov (.const (.int .i64 x)),none⟩
abbrev WA (k x y:Nat):aH:=⟨none,.store k (.tmp x) (.tmp y),none⟩
abbrev UA (n:Nat) (x:LOp):aH:=⟨some n,x,none⟩
abbrev GA (n:Nat) (x:LOp) (a:Nat) (b:Bool):aH:=⟨some n,x,some (a,b)⟩
open Go.Operand renaming tmp → t, const → k
open Go.Value renaming int → i, bool → y
open Go.IntKind renaming i64 → j
open Option renaming some → s, none → o
open Go.Fx.LOp renaming mov → m, load → l, fld → f, bin → b, idx → x, store → w, pick → p, len → n, box → u
open Go.Fx.LCode renaming seq → q, reg → r, cond → c, block → z
open Go.Fx.LPlan renaming take → v, alt → h
open Bool renaming false → g, true → d
def c8l0:LCode:=q (r 0 [UA 16 (b .lss g (t 15) (t 14))]) (q (c (t 16) .skip (.exit 0)) (q (z 1 (q (r 1 [XA 17 4 13 15,SA 18 4 17,UA 8 (.alloc 0 (.agg #[i j 0,i j 0,i j 0,.string ⟨#[]⟩])),
 (WA 4 8 18)]) (q (r 0 [MA 20 0,FA 21 0 8,SA 22 3 21,UA 23 (.call 12 [(t 20),(t 22)]),MA 19 23,UA 24 (.ext (t 19) 0),UA 25 (.ext (t 19) 1),
 (UA 26 (.ext (t 19) 2)),MA 9 24,MA 10 25,MA 11 26]) (q (r 0 [MA 27 11]) (z 2 (q (r 0 [UA 30 (b .eql g (t 27) (k (i j 0))),MA 29 30]) (c (t 29) (r 2 [
 (MA 31 5),FA 32 0 8,SA 33 3 32,UA 34 (.lits 0 3 1 [i j 0,i j 0,i j 0] [(0,(t 33))]),UA 35 (.append 1 3 24 (t 31) (t 34)),MA 5 35]) (q (q (r 0 [UA 37 (b .eql g (t 27) (k (i j 131))),
 (MA 36 37)]) (c (t 36) .skip (r 0 [UA 38 (b .eql g (t 27) (k (i j 8))),MA 36 38]))) (c (t 36) (r 2 [MA 39 6,FA 40 0 8,SA 41 3 40,UA 42 (.lits 0 3 1 [i j 0,i j 0,i j 0] [(0,(t 41))]),
 (UA 43 (.append 1 3 24 (t 39) (t 42))),MA 6 43]) (q (r 0 [MA 28 11,UA 2 (m (k (.slice o 0 0))),UA 3 (m (k (.slice o 0 0))),MA 4 28]) .ret)))))))))) (r 0 [UA 44 (b .add d (t 15) (k (i j 1))),
 (MA 15 44)])))
def c8:LCode:=(q (r 0 [UA 2 (m (k (.slice o 0 0))),UA 3 (m (k (.slice o 0 0))),CA 4 0]) (q (r 0 [UA 5 (m (k (.slice o 0 0))),UA 6 (m (k (.slice o 0 0)))]) (q (q (r 0 [MA 12 0,
 (UA 13 (.call 38 [(t 12)])),UA 14 (n (t 13)),CA 15 0]) (z 0 (.loop c8l0))) (q (r 0 [MA 45 5,MA 46 6,MA 2 45,MA 3 46,CA 4 0]) .ret))))

def c9:LCode:=(q (r 0 [CA 2 0]) (q (r 0 [MA 3 0,UA 4 (.nilc (t 3)),FA 5 0 4,LA 6 5,UA 7 (n (t 6)),MA 2 7]) .ret))
def c10:LCode:=(q (r 0 [CA 4 0]) (q (r 0 [MA 6 0,MA 7 1,UA 8 (.call 39 [(t 6),(t 7)]),MA 5 8]) (q (q (r 0 [MA 9 5,UA 10 (b .eql g (t 9) (k (i j 0)))])
 (c (t 10) (r 0 [MA 11 0,UA 12 (.nilc (t 11)),FA 13 0 12,LA 14 13,MA 15 1,UA 16 (.build [.int .u8 0,.int .u8 0,.int .u8 0,.int .u8 0,.int .u8 0,.int .u8 0,.int .u8 0,.int .u8 0,.int .u8 0,.int .u8 0,.int .u8 0,.int .u8 0,.int .u8 0,.int .u8 0,.int .u8 0,.int .u8 0,.int .u8 0,.int .u8 0,.int .u8 0,.int .u8 0,.int .u8 0,.int .u8 0,.int .u8 0,.int .u8 0,.int .u8 0,.int .u8 0,.int .u8 0,.int .u8 0,.int .u8 0,.int .u8 0,.int .u8 0,.int .u8 0,.int .u8 0,.int .u8 0,.int .u8 0,.int .u8 0,.int .u8 0,.int .u8 0,.int .u8 0,.int .u8 0,.int .u8 0,.int .u8 0,.int .u8 0,.int .u8 0,.int .u8 0,.int .u8 0,.int .u8 0,.int .u8 0,.int .u8 0,.int .u8 0,.int .u8 0,.int .u8 0,.int .u8 0,.int .u8 0,.int .u8 0,.int .u8 0,.int .u8 0,.int .u8 0,.int .u8 0,.int .u8 0,.int .u8 0,.int .u8 0,.int .u8 0,.int .u8 0,.bool g] [(64,1,(k (y d)))]),
 (XA 17 65 14 15),WA 65 17 16]) .skip)) (q (r 0 [MA 18 5,MA 4 18]) .ret))))
def c11:LCode:=(q (r 0 [CA 6 0]) (q (q (r 0 [MA 9 0,MA 10 1,UA 11 (.call 39 [(t 9),(t 10)]),MA 7 11]) (q (r 0 [MA 12 7,UA 13 (b .neq g (t 12) (k (i j 0)))])
 (c (t 13) (q (r 0 [MA 14 7,MA 6 14]) .ret) .skip))) (q (q (r 0 [MA 15 2,UA 16 (b .lss g (t 15) (k (i j 0))),MA 17 16,GA 18 (m (t 2)) 17 g,GA 19 (b .geq g (t 18) (k (i j 512))) 17 g,
 (UA 20 (p (t 17) (k (y d)) (t 19)))]) (c (t 20) (q (r 0 [CA 6 1]) .ret) .skip)) (q (q (r 1 [MA 21 0,UA 22 (.nilc (t 21)),FA 23 0 22,LA 24 23,MA 25 1,
 (XA 26 65 24 25),SA 27 65 26,UA 8 (.alloc 0 (.agg #[.int .u8 0,.int .u8 0,.int .u8 0,.int .u8 0,.int .u8 0,.int .u8 0,.int .u8 0,.int .u8 0,.int .u8 0,.int .u8 0,.int .u8 0,.int .u8 0,.int .u8 0,.int .u8 0,.int .u8 0,.int .u8 0,.int .u8 0,.int .u8 0,.int .u8 0,.int .u8 0,.int .u8 0,.int .u8 0,.int .u8 0,.int .u8 0,.int .u8 0,.int .u8 0,.int .u8 0,.int .u8 0,.int .u8 0,.int .u8 0,.int .u8 0,.int .u8 0,.int .u8 0,.int .u8 0,.int .u8 0,.int .u8 0,.int .u8 0,.int .u8 0,.int .u8 0,.int .u8 0,.int .u8 0,.int .u8 0,.int .u8 0,.int .u8 0,.int .u8 0,.int .u8 0,.int .u8 0,.int .u8 0,.int .u8 0,.int .u8 0,.int .u8 0,.int .u8 0,.int .u8 0,.int .u8 0,.int .u8 0,.int .u8 0,.int .u8 0,.int .u8 0,.int .u8 0,.int .u8 0,.int .u8 0,.int .u8 0,.int .u8 0,.int .u8 0,.bool g])),
 (WA 65 8 27)]) (q (r 0 [SA 28 65 8,UA 29 (.build [.int .u8 0,.int .u8 0,.int .u8 0,.int .u8 0,.int .u8 0,.int .u8 0,.int .u8 0,.int .u8 0,.int .u8 0,.int .u8 0,.int .u8 0,.int .u8 0,.int .u8 0,.int .u8 0,.int .u8 0,.int .u8 0,.int .u8 0,.int .u8 0,.int .u8 0,.int .u8 0,.int .u8 0,.int .u8 0,.int .u8 0,.int .u8 0,.int .u8 0,.int .u8 0,.int .u8 0,.int .u8 0,.int .u8 0,.int .u8 0,.int .u8 0,.int .u8 0,.int .u8 0,.int .u8 0,.int .u8 0,.int .u8 0,.int .u8 0,.int .u8 0,.int .u8 0,.int .u8 0,.int .u8 0,.int .u8 0,.int .u8 0,.int .u8 0,.int .u8 0,.int .u8 0,.int .u8 0,.int .u8 0,.int .u8 0,.int .u8 0,.int .u8 0,.int .u8 0,.int .u8 0,.int .u8 0,.int .u8 0,.int .u8 0,.int .u8 0,.int .u8 0,.int .u8 0,.int .u8 0,.int .u8 0,.int .u8 0,.int .u8 0,.int .u8 0,.bool g] [(64,1,(k (y d)))]),
 (UA 30 (.prim (.aeq d (((List.range' 0 64).map fun i=>(i,(.int .u8)))++[(64,.bool)])) [(t 28),(t 29)]))]) (c (t 30) (.tail 18 0 [MA 31 0,UA 32 (.nilc (t 31)),FA 33 0 32,LA 34 33,
 (MA 35 1),MA 36 2,UA 37 (b .quo d (t 36) (k (i j 8))),XA 38 65 34 35,FA 39 0 38,UA 40 (.prim (.pidx 64 1) [(t 39),(t 37)]),LA 41 40,MA 42 2,
 (UA 43 (b .rem g (t 42) (k (i j 8)))),UA 44 (.shift .shl (k (.int .u8 1)) (t 43)),UA 45 (b .xor g (t 41) (t 44)),XA 46 65 34 35,FA 47 0 46,UA 48 (.prim (.pidx 64 1) [(t 47),(t 37)]),
 (WA 1 48 45)]) .skip))) (q (r 0 [CA 6 0]) .ret)))))
def c27l0:LCode:=q (r 0 [UA 9 (b .lss g (t 8) (t 7))]) (q (c (t 9) .skip (.exit 0)) (q (z 1 (q (r 0 [XA 10 1 6 8,LA 11 10,MA 5 11]) (r 0 [MA 12 3,UA 13 (.shift .shl (t 12) (k (.int .u64 8))),
 (MA 14 5),UA 15 (.conv d .i64 (t 14)),UA 16 (b .or g (t 13) (t 15)),MA 3 16]))) (r 0 [UA 17 (b .add d (t 8) (k (i j 1))),MA 8 17])))
def c27:LCode:=(q (r 0 [CA 2 0]) (q (r 0 [CA 3 0]) (q (q (r 0 [MA 6 0,UA 7 (n (t 6)),CA 8 0]) (z 0 (.loop c27l0))) (q (r 0 [MA 18 3,
 (MA 2 18)]) .ret))))
def c34l0:LCode:=q (r 0 [UA 11 (b .lss g (t 10) (t 9))]) (q (c (t 11) .skip (.exit 0)) (q (z 1 (q (r 0 [MA 12 10,MA 3 12]) (q (q (r 0 [MA 13 0,MA 14 3,UA 15 (.call 70 [(t 13),(t 14)]),
 (UA 16 (.not (t 15)))]) (c (t 16) (.exit 1) .skip)) (q (q (r 0 [MA 17 0,MA 18 3,UA 19 (.call 71 [(t 17),(t 18)]),MA 4 19]) (q (r 0 [MA 20 4,UA 21 (b .neq g (t 20) (k (i j 0)))])
 (c (t 21) (q (r 0 [MA 22 4,MA 2 22]) .ret) .skip))) (q (r 0 [MA 23 0,MA 24 0,MA 25 3,UA 26 (.nilc (t 23)),FA 27 5 26,WA 1 27 25,
 (UA 28 (.nilc (t 24))),FA 29 6 28,⟨o,w 1 (t 29) (k (i j 0)),o⟩]) (q (r 0 [CA 2 0]) .ret)))))) (r 0 [UA 30 (b .add d (t 10) (k (i j 1))),MA 10 30])))
def c34:LCode:=(q (r 0 [CA 2 0]) (q (q (r 0 [MA 5 0,UA 6 (.nilc (t 5)),FA 7 1 6,LA 8 7,UA 9 (n (t 8)),CA 10 0]) (z 0 (.loop c34l0)))
 (q (r 0 [CA 2 140]) .ret)))
def c35:LCode:=(q (r 2 [UA 5 (u 0 (t 2)),UA 6 (.alloc 1 (.agg (yaa 512 (.int .u8 0))))]) (q (.tree 0 (v 0 [1,2,3,6,7] (FA 9 2 5) (v 1 [2,3,6,7] (LA 10 9) (v 4 [5,6,7] (FA 13 3 5)
 (v 5 [6,7] (LA 14 13) (h 2 (UA 11 (.call 72 [(t 10)])) d (h 3 (UA 12 (.eff .b2s 0 [(t 11)])) d (v 6 [7] (UA 15 (.prim (.sbin .add) [(t 12),(t 14)])) (v 7 [] (MA 7 15) .done)) .none) .none))))))
 (q (r 1 [MA 16 0,MA 17 1,FA 18 0 5,LA 19 18,FA 20 1 5,LA 21 20,MA 22 7,UA 23 (.call 65 [(t 16),(t 17),(t 19),(t 21),(t 22)]),
 (UA 8 (.alloc 0 (.agg (yaa 16 (.int .u8 0))))),WA 16 8 23]) (q (.tail 2 0 [UA 24 (.prim (.pslc 512 g g g) [(t 6)]),UA 25 (.prim (.pslc 16 g g g) [(t 8)]),UA 26 (.copy 1 (t 24) (t 25))])
 (q (.tail 3 0 [UA 27 (.prim (.pslc 512 d d d) [(t 6),(k (i j 16)),(k (i j 24)),(k (i j 24))]),FA 28 0 5,LA 29 28,UA 30 (.call 60 [(t 27),(t 29)])]) (q (.tail 3 0 [UA 31 (.prim (.pslc 512 d d d) [(t 6),(k (i j 24)),(k (i j 32)),(k (i j 32))]),
 (FA 32 1 5),LA 33 32,UA 34 (.call 60 [(t 31),(t 33)])]) (q (r 0 [UA 35 (.prim (.pslc 512 d d d) [(t 6),(k (i j 32)),(k (i j 34)),(k (i j 34))]),MA 36 7,UA 37 (.lens (t 36)),
 (UA 38 (.call 60 [(t 35),(t 37)]))]) (q (r 0 [UA 39 (.prim (.pslc 512 d g g) [(t 6),(k (i j 34))]),MA 40 7,UA 41 (.eff .cps 0 [(t 39),(t 40)])]) (q (r 0 [SA 42 512 6,WA 512 6 42])
 .ret)))))))))
def c61l0:LCode:=q (r 0 [UA 18 (b .lss g (t 17) (t 16))]) (q (c (t 18) .skip (.exit 0)) (q (z 1 (q (r 0 [XA 19 1 15 17,LA 20 19,MA 7 20]) (.tree 0 (v 0 [4,5] (SA 21 73 5)
 (v 1 [2,3,4,5] (MA 22 7) (h 2 (UA 23 (.call 72 [(t 22)])) d (h 3 (UA 24 (.eff .b2s 0 [(t 23)])) d (h 4 (UA 25 (.call 93 [(t 21),(t 24)])) g (h 5 (WA 73 5 25) g .done .none) .none) .none)
 .none)))))) (r 0 [UA 26 (b .add d (t 17) (k (i j 1))),MA 17 26])))
def c61:LCode:=(q (r 1 [UA 4 (.alloc 0 (.agg (yaa 16 (.int .u8 0))))]) (q (.tree 2 (v 1 [2,3,4,5,7] (MA 10 0) (v 2 [3,4,5,7] (UA 11 (.conv g .u8 (t 10))) (h 0 (UA 9 (.call 92 [])) g
 (h 3 (UA 12 (.lits 0 1 1 [.int .u8 0] [(0,(t 11))])) g (h 4 (UA 13 (.eff .b2s 0 [(t 12)])) g (h 5 (UA 14 (.call 93 [(t 9),(t 13)])) g (h 6 (UA 5 (.alloc 1 (.agg t7))) g (h 7 (WA 73 5 14) g .done
 .none) .none) (h 6 (UA 5 (.alloc 1 (.agg t7))) g (h 5 (UA 14 (.call 93 [(t 9),(t 13)])) g (h 7 (WA 73 5 14) g .done .none) .none) .none)) (h 6 (UA 5 (.alloc 1 (.agg t7))) g (h 4 (UA 13 (.eff .b2s 0 [(t 12)])) g
 (h 5 (UA 14 (.call 93 [(t 9),(t 13)])) g (h 7 (WA 73 5 14) g .done .none) .none) .none) .none)) (h 6 (UA 5 (.alloc 1 (.agg t7))) g (h 3 (UA 12 (.lits 0 1 1 [.int .u8 0] [(0,(t 11))])) g (h 4 (UA 13 (.eff .b2s 0 [(t 12)])) g
 (h 5 (UA 14 (.call 93 [(t 9),(t 13)])) g (h 7 (WA 73 5 14) g .done .none) .none) .none) .none) .none)) (h 3 (UA 12 (.lits 0 1 1 [.int .u8 0] [(0,(t 11))])) g (h 0 (UA 9 (.call 92 [])) g (h 4 (UA 13 (.eff .b2s 0 [(t 12)])) g
 (h 5 (UA 14 (.call 93 [(t 9),(t 13)])) g (h 6 (UA 5 (.alloc 1 (.agg t7))) g (h 7 (WA 73 5 14) g .done .none) .none) (h 6 (UA 5 (.alloc 1 (.agg t7))) g (h 5 (UA 14 (.call 93 [(t 9),(t 13)])) g
 (h 7 (WA 73 5 14) g .done .none) .none) .none)) (h 6 (UA 5 (.alloc 1 (.agg t7))) g (h 4 (UA 13 (.eff .b2s 0 [(t 12)])) g (h 5 (UA 14 (.call 93 [(t 9),(t 13)])) g (h 7 (WA 73 5 14) g
 .done .none) .none) .none) .none)) (h 4 (UA 13 (.eff .b2s 0 [(t 12)])) g (h 0 (UA 9 (.call 92 [])) g (h 5 (UA 14 (.call 93 [(t 9),(t 13)])) g (h 6 (UA 5 (.alloc 1 (.agg t7))) g (h 7 (WA 73 5 14) g
 .done .none) .none) (h 6 (UA 5 (.alloc 1 (.agg t7))) g (h 5 (UA 14 (.call 93 [(t 9),(t 13)])) g (h 7 (WA 73 5 14) g .done .none) .none) .none)) (h 6 (UA 5 (.alloc 1 (.agg t7))) g (h 0 (UA 9 (.call 92 [])) g
 (h 5 (UA 14 (.call 93 [(t 9),(t 13)])) g (h 7 (WA 73 5 14) g .done .none) .none) .none) .none)) (h 6 (UA 5 (.alloc 1 (.agg t7))) g (h 0 (UA 9 (.call 92 [])) g (h 4 (UA 13 (.eff .b2s 0 [(t 12)])) g
 (h 5 (UA 14 (.call 93 [(t 9),(t 13)])) g (h 7 (WA 73 5 14) g .done .none) .none) .none) (h 4 (UA 13 (.eff .b2s 0 [(t 12)])) g (h 0 (UA 9 (.call 92 [])) g (h 5 (UA 14 (.call 93 [(t 9),(t 13)])) g
 (h 7 (WA 73 5 14) g .done .none) .none) .none) .none)) .none))) (h 6 (UA 5 (.alloc 1 (.agg t7))) g (h 0 (UA 9 (.call 92 [])) g (h 3 (UA 12 (.lits 0 1 1 [.int .u8 0] [(0,(t 11))])) g (h 4 (UA 13 (.eff .b2s 0 [(t 12)])) g
 (h 5 (UA 14 (.call 93 [(t 9),(t 13)])) g (h 7 (WA 73 5 14) g .done .none) .none) .none) .none) (h 3 (UA 12 (.lits 0 1 1 [.int .u8 0] [(0,(t 11))])) g (h 0 (UA 9 (.call 92 [])) g (h 4 (UA 13 (.eff .b2s 0 [(t 12)])) g
 (h 5 (UA 14 (.call 93 [(t 9),(t 13)])) g (h 7 (WA 73 5 14) g .done .none) .none) .none) (h 4 (UA 13 (.eff .b2s 0 [(t 12)])) g (h 0 (UA 9 (.call 92 [])) g (h 5 (UA 14 (.call 93 [(t 9),(t 13)])) g
 (h 7 (WA 73 5 14) g .done .none) .none) .none) .none)) .none)) .none)))))) (q (q (r 0 [MA 15 1,UA 16 (n (t 15)),CA 17 0]) (z 0 (.loop c61l0))) (q (r 1 [SA 27 73 5,
 (UA 28 (.call 94 [(t 27)])),UA 8 (.alloc 0 (.agg (yaa 32 (.int .u8 0)))),WA 32 8 28]) (q (r 0 [UA 29 (.prim (.pslc 32 g d g) [(t 8),(k (i j 16))]),UA 30 (.prim (.s2a 16) [(t 29)]),
 (SA 31 16 30),WA 16 4 31]) .ret)))))
def c66:LCode:=(q (r 0 [UA 2 (m (k (.string ⟨#[]⟩))),CA 3 0,CA 4 0]) (q (r 0 [MA 9 0,UA 10 (.call 97 [(t 9),(k (i j 1))]),MA 8 10,UA 11 (.ext (t 8) 0),
 (UA 12 (.ext (t 8) 1)),UA 13 (.ext (t 8) 2),MA 5 11,MA 6 12,MA 7 13]) (q (q (r 0 [MA 14 7,UA 15 (b .neq g (t 14) (k (i j 0)))]) (c (t 15) (q (r 0 [MA 16 7,
 (UA 2 (m (k (.string ⟨#[]⟩)))),CA 3 0,MA 4 16]) .ret) .skip)) (q (r 0 [MA 17 0,MA 18 6,MA 19 6,MA 20 5,UA 21 (b .add d (t 19) (t 20)),
 (UA 22 (.slice 1 (t 17) (s (t 18)) (s (t 21)) o)),UA 23 (.eff .b2s 0 [(t 22)]),MA 24 6,MA 25 5,UA 26 (b .add d (t 24) (t 25)),MA 2 23,MA 3 26,CA 4 0])
 .ret))))
def c75:LCode:=(q (r 0 [UA 2 (m (k (.slice o 0 0)))]) (q (q (r 0 [MA 3 0,UA 4 (.eqn g (t 3) (k (.slice o 0 0)))]) (c (t 4) (q (r 0 [UA 2 (m (k (.slice o 0 0)))]) .ret) .skip)) (q (r 2 [
 (UA 5 (.lits 0 4 0 [i j 0,i j 0,i j 0,.string ⟨#[]⟩] [])),MA 6 0,UA 7 (.append 1 4 40 (t 5) (t 6)),MA 2 7]) .ret)))
def c142:LCode:=(q (r 0 [UA 4 (m (k (.int .u32 0)))]) (q (r 0 [MA 6 1,UA 7 (.conv g .u64 (t 6)),UA 8 (b .and g (t 7) (k (.int .u64 31))),MA 5 8]) (q (r 0 [MA 9 0,
 (MA 10 5),UA 11 (.shift .shl (t 9) (t 10)),MA 12 0,MA 13 5,UA 14 (b .sub g (k (.int .u64 32)) (t 13)),UA 15 (.shift .shr (t 12) (t 14)),UA 16 (b .or g (t 11) (t 15)),
 (MA 4 16)]) .ret)))
open Go Go.Fx Go.Proofs
theorem pol:Tryz.prog.follows .mixedOrders=true:=by kernel_rfl
theorem lw8:rlF Tryz.prog 8 c8=some (c8,[.tmp 2,.tmp 3,.tmp 4],47):=by kernel_rfl
theorem lw9:rlF Tryz.prog 9 c9=some (c9,[.tmp 2],8):=by kernel_rfl
theorem lw10:rlF Tryz.prog 10 c10=some (c10,[.tmp 4],19):=by kernel_rfl
theorem lw11:rlF Tryz.prog 11 c11=some (c11,[.tmp 6],49):=by kernel_rfl
theorem lw27:rlF Tryz.prog 27 c27=some (c27,[.tmp 2],19):=by kernel_rfl
theorem lw34:rlF Tryz.prog 34 c34=some (c34,[.tmp 2],31):=by kernel_rfl
theorem lw35:rlF Tryz.prog 35 c35=some (c35,[.cell 6 (some 512)],43):=by kernel_rfl
theorem lw61:rlF Tryz.prog 61 c61=some (c61,[.cell 4 (some 16)],32):=by kernel_rfl
theorem lw66:rlF Tryz.prog 66 c66=some (c66,[.tmp 2,.tmp 3,.tmp 4],27):=by kernel_rfl
theorem lw75:rlF Tryz.prog 75 c75=some (c75,[.tmp 2],8):=by kernel_rfl
theorem lw142:rlF Tryz.prog 142 c142=some (c142,[.tmp 4],17):=by kernel_rfl
end Go.Fx.K
namespace Go.Fx.K
open Go Go.Fx
open Go.Operand renaming tmp → t, const → k
open Go.Value renaming int → i, bool → y
open Go.IntKind renaming i64 → j
open Option renaming some → s, none → o
open Go.Fx.LOp renaming mov → m, load → l, fld → f, bin → b, idx → x, store → w, pick → p, len → n, box → u
open Go.Fx.LCode renaming seq → q, reg → r, cond → c, block → z
open Go.Fx.LPlan renaming take → v, alt → h
open Bool renaming false → g, true → d
def c3l0:LCode:=q (r 0 [UA 52 (b .lss g (t 51) (t 50))]) (q (c (t 52) .skip (.exit 0)) (q (z 1 (q (r 0 [XA 53 1 49 51,LA 54 53,MA 14 54]) (q (q (r 0 [MA 55 14,
 (UA 56 (.lens (t 55))),UA 57 (b .gtr g (t 56) (k (i j 360)))]) (c (t 57) (q (r 0 [UA 58 (.call 4 []),MA 8 58]) .ret) .skip)) (q (r 1 [MA 60 10,MA 61 14,UA 62 (.call 7 [(t 60),(k (.string ⟨#[107]⟩)),(t 61)]),
 (MA 59 62),UA 63 (.ext (t 59) 0),UA 64 (.ext (t 59) 1),UA 15 (.alloc 0 (.agg #[i j 0,i j 0,i j 0])),WA 3 15 63,MA 16 64]) (q (q (r 0 [MA 65 16,UA 66 (b .neq g (t 65) (k (i j 0)))])
 (c (t 66) (q (r 0 [UA 8 (m (k (y g)))]) .ret) .skip)) (r 2 [MA 67 12,SA 68 3 15,UA 69 (.lits 0 3 1 [i j 0,i j 0,i j 0] [(0,(t 68))]),UA 70 (.append 1 3 24 (t 67) (t 69)),
 (MA 12 70)])))))) (r 0 [UA 71 (b .add d (t 51) (k (i j 1))),MA 51 71])))
def c3l1:LCode:=q (r 0 [UA 138 (b .lss g (t 137) (t 136))]) (q (c (t 138) .skip (.exit 2)) (q (z 3 (q (r 1 [MA 139 137,XA 140 3 135 137,SA 141 3 140,UA 25 (.alloc 0 (.agg #[i j 0,i j 0,i j 0])),
 (MA 24 139),WA 3 25 141]) (q (r 0 [MA 143 10,SA 144 3 25,UA 145 (.call 12 [(t 143),(t 144)]),MA 142 145,UA 146 (.ext (t 142) 0),UA 147 (.ext (t 142) 1),
 (UA 148 (.ext (t 142) 2)),MA 26 146,MA 27 147,MA 28 148]) (q (q (r 0 [MA 149 28,UA 150 (b .eql g (t 149) (k (i j 0)))]) (c (t 150) (q (q (.qui 0 [MA 151 21,
 (UA 152 (n (t 151))),UA 153 (b .eql g (t 152) (k (i j 0))),MA 154 153,GA 155 (m (t 21)) 154 g,GA 156 (x 3 (t 155) (k (i j 0))) 154 g,GA 157 (l (s 3) (t 156)) 154 g,GA 158 (l (s 3) (t 25)) 154 g,
 (GA 159 (.eqf d [(0,(.int .i64)),(1,(.int .i64)),(2,(.int .i64))] (t 157) (t 158)) 154 g),UA 160 (p (t 154) (k (y d)) (t 159)),MA 161 160,GA 162 (m (t 3)) 161 g,GA 163 (m (t 162)) 161 g,
 (GA 164 (m (t 27)) 163 d),GA 165 (m (t 0)) 163 d,GA 166 (m (t 24)) 163 d,GA 167 (x 1 (t 165) (t 166)) 163 d,GA 168 (l o (t 167)) 163 d,GA 169 (.prim (.sbin .neq) [(t 164),(t 168)]) 163 d,
 (GA 170 (p (t 163) (t 169) (k (y g))) 161 g),UA 171 (p (t 161) (k (y d)) (t 170))]) (c (t 171) (q (r 0 [UA 8 (m (k (y g)))]) .ret) .skip)) (q (r 0 [MA 172 21,UA 173 (.slice 3 (t 172) (s (k (i j 1))) o o),
 (MA 21 173)]) (.exit 3))) .skip)) (q (q (.qui 0 [MA 174 22,UA 175 (n (t 174)),UA 176 (b .eql g (t 175) (k (i j 0))),MA 177 176,GA 178 (m (t 22)) 177 g,GA 179 (x 3 (t 178) (k (i j 0))) 177 g,
 (GA 180 (l (s 3) (t 179)) 177 g),GA 181 (l (s 3) (t 25)) 177 g,GA 182 (.eqf d [(0,(.int .i64)),(1,(.int .i64)),(2,(.int .i64))] (t 180) (t 181)) 177 g,UA 183 (p (t 177) (k (y d)) (t 182)),
 (MA 184 183),GA 185 (m (t 28)) 184 g,GA 186 (b .neq g (t 185) (k (i j 131))) 184 g,GA 187 (m (t 186)) 184 g,GA 188 (m (t 28)) 187 d,GA 189 (b .neq g (t 188) (k (i j 8))) 187 d,
 (GA 190 (p (t 187) (t 189) (k (y g))) 184 g),UA 191 (p (t 184) (k (y d)) (t 190))]) (c (t 191) (q (r 0 [UA 8 (m (k (y g)))]) .ret) .skip)) (r 0 [MA 192 22,UA 193 (.slice 3 (t 192) (s (k (i j 1))) o o),
 (MA 22 193)])))))) (r 0 [UA 194 (b .add d (t 137) (k (i j 1))),MA 137 194])))
def c3:LCode:=(q (r 0 [UA 8 (m (k (y g)))]) (q (q (r 0 [MA 29 0,UA 30 (n (t 29)),UA 31 (b .gtr g (t 30) (k (i j 12)))]) (c (t 31) (q (r 0 [UA 32 (.call 4 []),MA 8 32]) .ret)
 .skip)) (q (r 0 [UA 33 (.call 5 [(k (i j 516))]),MA 9 33]) (q (r 0 [MA 35 9,UA 36 (.call 6 [(t 35)]),MA 34 36,UA 37 (.ext (t 34) 0),UA 38 (.ext (t 34) 1),MA 10 37,
 (MA 11 38)]) (q (q (r 0 [MA 39 9,UA 40 (.prim (.peq g) [(t 39),(k (.pointer o))]),MA 41 40,GA 42 (m (t 11)) 41 g,GA 43 (b .neq g (t 42) (k (i j 0))) 41 g,UA 44 (p (t 41) (k (y d)) (t 43)),
 (MA 45 44),GA 46 (m (t 10)) 45 g,GA 47 (.prim (.peq g) [(t 46),(k (.pointer o))]) 45 g,UA 48 (p (t 45) (k (y d)) (t 47))]) (c (t 48) (q (r 0 [UA 8 (m (k (y g)))]) .ret) .skip))
 (q (r 0 [UA 12 (m (k (.slice o 0 0)))]) (q (q (r 0 [MA 49 0,UA 50 (n (t 49)),CA 51 0]) (z 0 (.loop c3l0))) (q (q (r 0 [MA 73 10,UA 74 (.call 8 [(t 73)]),MA 72 74,
 (UA 75 (.ext (t 72) 0)),UA 76 (.ext (t 72) 1),UA 77 (.ext (t 72) 2),MA 17 75,MA 18 76,MA 19 77]) (q (r 0 [MA 78 19,UA 79 (b .neq g (t 78) (k (i j 0))),MA 80 79,
 (GA 81 (m (t 17)) 80 g),GA 82 (n (t 81)) 80 g,GA 83 (m (t 12)) 80 g,GA 84 (n (t 83)) 80 g,GA 85 (b .neq g (t 82) (t 84)) 80 g,UA 86 (p (t 80) (k (y d)) (t 85)),MA 87 86,
 (GA 88 (m (t 18)) 87 g),GA 89 (n (t 88)) 87 g,GA 90 (b .neq g (t 89) (k (i j 0))) 87 g,UA 91 (p (t 87) (k (y d)) (t 90))]) (c (t 91) (q (r 0 [UA 8 (m (k (y g)))]) .ret) .skip))) (q
 (r 0 [MA 92 1,UA 93 (.conv d .i64 (t 92)),MA 94 9,UA 95 (.call 9 [(t 94)]),UA 96 (b .rem g (t 93) (t 95)),MA 20 96]) (q (q (r 0 [MA 97 3,MA 98 97,
 (GA 99 (m (t 9)) 98 d),GA 100 (m (t 20)) 98 d,GA 101 (.call 10 [(t 99),(t 100)]) 98 d,GA 102 (b .neq g (t 101) (k (i j 0))) 98 d,UA 103 (p (t 98) (t 102) (k (y g))),MA 104 103,
 (GA 105 (m (t 3)) 104 g),GA 106 (.not (t 105)) 104 g,GA 107 (m (t 106)) 104 g,GA 108 (m (t 9)) 107 d,GA 109 (m (t 20)) 107 d,GA 110 (m (t 2)) 107 d,GA 111 (.conv d .i64 (t 110)) 107 d,
 (GA 112 (b .rem g (t 111) (k (i j 512))) 107 d),GA 113 (.call 11 [(t 108),(t 109),(t 112)]) 107 d,GA 114 (b .neq g (t 113) (k (i j 0))) 107 d,GA 115 (p (t 107) (t 114) (k (y g))) 104 g,
 (UA 116 (p (t 104) (k (y d)) (t 115)))]) (c (t 116) (q (r 0 [UA 8 (m (k (y g)))]) .ret) .skip)) (q (r 0 [MA 118 10,UA 119 (.call 8 [(t 118)]),MA 117 119,UA 120 (.ext (t 117) 0),
 (UA 121 (.ext (t 117) 1)),UA 122 (.ext (t 117) 2),MA 21 120,MA 22 121,MA 23 122]) (q (q (r 0 [MA 123 23,UA 124 (b .neq g (t 123) (k (i j 0))),MA 125 124,
 (GA 126 (m (t 21)) 125 g),GA 127 (n (t 126)) 125 g,GA 128 (m (t 22)) 125 g,GA 129 (n (t 128)) 125 g,GA 130 (b .add d (t 127) (t 129)) 125 g,GA 131 (m (t 12)) 125 g,GA 132 (n (t 131)) 125 g,
 (GA 133 (b .neq g (t 130) (t 132)) 125 g),UA 134 (p (t 125) (k (y d)) (t 133))]) (c (t 134) (q (r 0 [UA 8 (m (k (y g)))]) .ret) .skip)) (q (q (r 0 [MA 135 12,UA 136 (n (t 135)),CA 137 0])
 (z 2 (.loop c3l1))) (q (r 0 [UA 195 (.call 4 []),MA 8 195]) .ret))))))))))))))
def c32:LCode:=(q (r 2 [UA 2 (u 0 (t 0)),UA 3 (u 1 (t 1)),CA 4 0]) (q (r 0 [FA 5 0 2,FA 6 2 5,LA 7 6,FA 8 0 3,FA 9 2 8,LA 10 9,
 (UA 11 (.call 33 [(t 7),(t 10)])),MA 4 11]) .ret))
def c33:LCode:=(q (r 0 [CA 4 0]) (q (r 0 [MA 7 0,UA 8 (.call 69 [(t 7)]),MA 5 8]) (q (r 0 [MA 9 1,UA 10 (.call 69 [(t 9)]),MA 6 10]) (q (q
 (r 0 [MA 11 5]) (c (t 11) (q (q (r 0 [MA 12 6]) (c (t 12) (q (r 0 [CA 4 0]) .ret) .skip)) (q (r 0 [UA 4 (m (k (.int .i64 (-1))))]) .ret)) .skip)) (q (q (r 0 [MA 13 6])
 (c (t 13) (q (r 0 [CA 4 1]) .ret) .skip)) (q (q (r 0 [MA 14 0,MA 15 1,UA 16 (b .lss g (t 14) (t 15))]) (c (t 16) (q (r 0 [UA 4 (m (k (.int .i64 (-1))))]) .ret)
 .skip)) (q (q (r 0 [MA 17 0,MA 18 1,UA 19 (b .gtr g (t 17) (t 18))]) (c (t 19) (q (r 0 [CA 4 1]) .ret) .skip)) (q (r 0 [CA 4 0]) .ret))))))))
def c36l0:LCode:=q (r 0 [UA 13 (b .lss g (t 12) (t 11))]) (q (c (t 13) .skip (.exit 0)) (q (z 1 (q (r 1 [MA 14 12,XA 15 64 10 12,SA 16 64 15,UA 8 (.alloc 0 (.agg (yaa 64 (.int .u8 0)))),
 (MA 7 14),WA 64 8 16]) (q (.tail 8 0 [MA 17 0,UA 18 (.nilc (t 17)),FA 19 0 18,LA 20 19,MA 21 1,MA 22 7,UA 23 (b .add d (t 21) (t 22)),
 (SA 24 64 8),UA 25 (.call 73 [(t 20),(t 23),(t 24)]),MA 9 25]) (q (r 0 [MA 26 9,UA 27 (b .neq g (t 26) (k (i j 0)))]) (c (t 27) (q (r 0 [MA 28 9,MA 6 28])
 .ret) .skip))))) (r 0 [UA 29 (b .add d (t 12) (k (i j 1))),MA 12 29])))
def c36:LCode:=(q (r 0 [CA 6 0]) (q (q (r 0 [MA 10 2,UA 11 (n (t 10)),CA 12 0]) (z 0 (.loop c36l0))) (q (r 0 [MA 30 0,UA 31 (.nilc (t 30)),FA 32 0 31,
 (LA 33 32),UA 34 (.call 74 [(t 33)]),MA 6 34]) .ret)))
def c38:LCode:=(q (r 0 [UA 2 (m (k (.slice o 0 0)))]) (q (r 0 [MA 3 0,UA 4 (.nilc (t 3)),FA 5 4 4,LA 6 5,UA 7 (.call 75 [(t 6)]),MA 2 7]) .ret))
def c40l0:LCode:=q (r 0 [UA 9 (b .lss g (t 8) (t 7))]) (q (c (t 9) .skip (.exit 0)) (q (z 1 (q (r 0 [MA 10 8,MA 5 10]) (q (r 0 [MA 11 1,MA 12 0,MA 13 5,
 (XA 14 4 12 13),SA 15 4 14,UA 16 (.callv (t 11) [(t 15)])]) (c (t 16) (q (r 0 [MA 17 5,MA 4 17]) .ret) .skip)))) (r 0 [UA 18 (b .add d (t 8) (k (i j 1))),
 (MA 8 18)])))
def c40:LCode:=(q (r 0 [CA 4 0]) (q (q (r 0 [MA 6 0,UA 7 (n (t 6)),CA 8 0]) (z 0 (.loop c40l0))) (q (r 0 [UA 4 (m (k (.int .i64 (-1))))]) .ret)))
def c62:LCode:=(q (r 0 [UA 2 (m (k (.slice o 0 0)))]) (q (r 0 [MA 3 0,UA 4 (.call 95 [(t 3),(.func 96)]),MA 2 4]) .ret))
def c70:LCode:=(q (r 0 [UA 4 (m (k (y g)))]) (q (r 0 [MA 5 1,MA 6 0,UA 7 (.nilc (t 6)),FA 8 5 7,LA 9 8,UA 10 (b .neq g (t 5) (t 9)),MA 11 10,
 (GA 12 (m (t 0)) 11 d),GA 13 (m (t 1)) 11 d,GA 14 (.call 108 [(t 12),(t 13)]) 11 d,GA 15 (n (t 14)) 11 d,GA 16 (b .eql g (t 15) (k (i j 0))) 11 d,UA 17 (p (t 11) (t 16) (k (y g))),
 (MA 4 17)]) .ret))
def c73:LCode:=(q (r 1 [UA 5 (u 0 (t 2)),CA 6 0]) (q (r 0 [MA 8 0,MA 9 1,UA 10 (.call 39 [(t 8),(t 9)]),MA 7 10]) (q (q (r 0 [MA 11 7,UA 12 (b .eql g (t 11) (k (i j 0)))])
 (c (t 12) (r 0 [MA 13 0,UA 14 (.call 109 [(t 13)]),MA 7 14]) .skip)) (q (q (r 0 [MA 15 7,UA 16 (b .eql g (t 15) (k (i j 0)))]) (c (t 16) (.tree 2 (v 0 [1,2,3,14] (MA 17 0)
 (v 1 [2,3,14] (UA 18 (.nilc (t 17))) (v 2 [3,14] (FA 19 1 18) (v 3 [14] (LA 20 19) (v 4 [14] (MA 21 1) (v 5 [6,7,8,10,13,14] (MA 22 0) (v 6 [7,8,10,13,14] (UA 23 (.nilc (t 22)))
 (v 7 [8,10,13,14] (FA 24 1 23) (v 8 [10,13,14] (LA 25 24) (v 9 [10,13,14] (MA 26 1) (v 11 [12,13,14] (SA 28 64 5) (h 10 (UA 27 (.lookup (.int .i64) (.slice o 0 0) g (t 25) (t 26))) d
 (h 12 (UA 29 (.lits 0 64 1 (yab 64 (.int .u8 0)) [(0,(t 28))])) d (h 13 (UA 30 (.append 1 64 64 (t 27) (t 29))) d (h 14 ⟨o,.mset (.int .i64) (t 20) (t 21) (t 30),o⟩ g .done .none) .none) .none)
 (h 12 (UA 29 (.lits 0 64 1 (yab 64 (.int .u8 0)) [(0,(t 28))])) d (h 10 (UA 27 (.lookup (.int .i64) (.slice o 0 0) g (t 25) (t 26))) d (h 13 (UA 30 (.append 1 64 64 (t 27) (t 29))) d (h 14 ⟨o,.mset (.int .i64) (t 20) (t 21) (t 30),o⟩ g
 .done .none) .none) .none) .none)))))))))))))) .skip)) (q (r 0 [MA 31 7,MA 6 31]) .ret)))))
def c93l0:LCode:=q (q (r 0 [MA 7 1,UA 8 (.prim (.sbin .neq) [(t 7),(k (.string ⟨#[]⟩))])]) (c (t 8) .skip (.exit 0))) (z 1 (q (r 0 [FA 9 72 2,LA 10 9,UA 11 (b .rem g (t 10) (k (.int .u64 64))),
 (UA 12 (.conv g .i64 (t 11))),MA 5 12]) (q (r 0 [FA 13 8 2,MA 14 5,UA 15 (.prim (.pslc 64 d g g) [(t 13),(t 14)]),MA 16 1,UA 17 (.eff .cps 0 [(t 15),(t 16)]),
 (MA 6 17)]) (q (r 0 [MA 18 1,MA 19 6,UA 20 (.prim (.sslc d g) [(t 18),(t 19)]),MA 1 20]) (q (r 0 [FA 21 72 2,LA 22 21,MA 23 6,UA 24 (.conv g .u64 (t 23)),
 (UA 25 (b .add g (t 22) (t 24))),FA 26 72 2,WA 1 26 25]) (q (r 0 [MA 27 5,MA 28 6,UA 29 (b .add d (t 27) (t 28)),UA 30 (b .eql g (t 29) (k (i j 64)))]) (c (t 30)
 (.tail 4 0 [FA 31 0 2,SA 32 8 31,FA 33 8 2,UA 34 (.prim (.pslc 64 g g g) [(t 33)]),UA 35 (.call 117 [(t 32),(t 34)]),FA 36 0 2,WA 8 36 35])
 .skip)))))))
def c93:LCode:=(q (r 2 [UA 2 (u 0 (t 0)),UA 4 (.alloc 1 (.agg t7))]) (q (z 0 (.loop c93l0)) (q (r 0 [SA 37 73 2,WA 73 4 37]) .ret)))
def c94l0:LCode:=q (q (r 0 [FA 12 72 1,LA 13 12,UA 14 (.conv g .i64 (t 13)),MA 15 4,UA 16 (n (t 15)),UA 17 (b .add d (t 14) (t 16)),UA 18 (b .rem g (t 17) (k (i j 64))),
 (UA 19 (b .neq g (t 18) (k (i j 56))))]) (c (t 19) .skip (.exit 0))) (z 1 (r 2 [MA 20 4,UA 21 (.lits 0 1 1 [.int .u8 0] [(0,(k (.int .u8 0)))]),UA 22 (.append 1 1 1 (t 20) (t 21)),MA 4 22]))
def c94l1:LCode:=q (r 0 [UA 24 (b .lss g (t 23) (k (i j 8)))]) (q (c (t 24) .skip (.exit 2)) (q (z 3 (q (r 0 [MA 25 23,MA 5 25]) (r 2 [MA 26 4,MA 27 3,MA 28 5,
 (UA 29 (b .mul d (k (i j 8)) (t 28))),UA 30 (b .sub d (k (i j 56)) (t 29)),UA 31 (.shift .shr (t 27) (t 30)),UA 32 (.conv g .u8 (t 31)),UA 33 (.lits 0 1 1 [.int .u8 0] [(0,(t 32))]),UA 34 (.append 1 1 1 (t 26) (t 33)),
 (MA 4 34)]))) (r 0 [UA 35 (b .add d (t 23) (k (i j 1))),MA 23 35])))
def c94l2:LCode:=q (r 0 [UA 41 (b .lss g (t 40) (k (i j 32)))]) (q (c (t 41) .skip (.exit 4)) (q (z 5 (q (r 0 [MA 42 40,MA 7 42]) (r 0 [MA 43 7,MA 44 7,UA 45 (b .quo d (t 44) (k (i j 4))),
 (FA 46 0 1),UA 47 (.prim (.pidx 8 1) [(t 46),(t 45)]),LA 48 47,MA 49 7,UA 50 (b .rem g (t 49) (k (i j 4))),UA 51 (b .mul d (k (i j 8)) (t 50)),UA 52 (b .sub d (k (i j 24)) (t 51)),
 (UA 53 (.shift .shr (t 48) (t 52))),UA 54 (.conv g .u8 (t 53)),UA 55 (.prim (.pidx 32 1) [(t 6),(t 43)]),WA 1 55 54]))) (r 0 [UA 56 (b .add d (t 40) (k (i j 1))),MA 40 56])))
def c94:LCode:=(q (r 2 [UA 1 (u 0 (t 0)),UA 2 (.alloc 1 (.agg (yaa 32 (.int .u8 0))))]) (q (r 0 [FA 8 72 1,LA 9 8,UA 10 (b .mul g (k (.int .u64 8)) (t 9)),MA 3 10])
 (q (r 1 [UA 11 (.lits 0 1 1 [.int .u8 0] [(0,(k (.int .u8 128)))]),MA 4 11]) (q (z 0 (.loop c94l0)) (q (q (r 0 [CA 23 0]) (z 2 (.loop c94l1))) (q (r 0 [SA 36 73 1,
 (MA 37 4),UA 38 (.eff .b2s 0 [(t 37)]),UA 39 (.call 93 [(t 36),(t 38)]),WA 73 1 39]) (q (r 1 [UA 6 (.alloc 0 (.agg (yaa 32 (.int .u8 0))))]) (q (q (r 0 [CA 40 0])
 (z 4 (.loop c94l2))) (q (r 0 [SA 57 32 6,WA 32 2 57]) .ret)))))))))
def c108l0:LCode:=q (r 0 [UA 14 (b .lss g (t 13) (t 12))]) (q (c (t 14) .skip (.exit 0)) (q (z 1 (q (r 1 [XA 15 4 11 13,SA 16 4 15,UA 7 (.alloc 0 (.agg #[i j 0,i j 0,i j 0,.string ⟨#[]⟩])),
 (WA 4 7 16)]) (q (r 0 [FA 17 0 7,FA 18 0 17,LA 19 18,MA 20 1,UA 21 (b .eql g (t 19) (t 20))]) (c (t 21) (r 2 [MA 22 5,SA 23 4 7,
 (UA 24 (.lits 0 4 1 [i j 0,i j 0,i j 0,.string ⟨#[]⟩] [(0,(t 23))])),UA 25 (.append 1 4 40 (t 22) (t 24)),MA 5 25]) .skip)))) (r 0 [UA 26 (b .add d (t 13) (k (i j 1))),MA 13 26])))
def c108:LCode:=(q (r 0 [UA 4 (m (k (.slice o 0 0)))]) (q (r 0 [UA 5 (m (k (.slice o 0 0)))]) (q (q (r 0 [MA 8 0,UA 9 (.nilc (t 8)),FA 10 4 9,LA 11 10,UA 12 (n (t 11)),
 (CA 13 0)]) (z 0 (.loop c108l0))) (q (r 0 [MA 27 5,MA 4 27]) .ret))))
def c128l1:LCode:=q (r 0 [UA 25 (b .lss g (t 24) (t 23))]) (q (c (t 25) .skip (.exit 2)) (q (z 3 (q (r 0 [XA 26 1 22 24,LA 27 26,MA 6 27]) (r 0 [MA 28 4,
 (MA 29 4),UA 30 (.prim (.pidx 64 1) [(t 3),(t 29)]),LA 31 30,UA 32 (.shift .shl (t 31) (k (.int .u64 8))),MA 33 6,UA 34 (.conv d .u32 (t 33)),UA 35 (b .or g (t 32) (t 34)),
 (UA 36 (.prim (.pidx 64 1) [(t 3),(t 28)])),WA 1 36 35]))) (r 0 [UA 37 (b .add d (t 24) (k (i j 1))),MA 24 37])))
def c128l0:LCode:=q (r 0 [UA 12 (b .lss g (t 11) (k (i j 64)))]) (q (c (t 12) .skip (.exit 0)) (q (z 1 (q (r 0 [MA 13 11,MA 4 13]) (q (q (r 0 [MA 14 4,UA 15 (b .lss g (t 14) (k (i j 16)))])
 (c (t 15) (q (q (r 0 [MA 16 0,MA 17 4,UA 18 (b .mul d (k (i j 4)) (t 17)),MA 19 4,UA 20 (b .mul d (k (i j 4)) (t 19)),UA 21 (b .add d (t 20) (k (i j 4))),UA 22 (.slice 1 (t 16) (s (t 18)) (s (t 21)) o),
 (UA 23 (n (t 22))),CA 24 0]) (z 2 (.loop c128l1))) (.exit 1)) .skip)) (q (.qui 0 [MA 38 4,UA 39 (b .sub d (t 38) (k (i j 15))),UA 40 (.prim (.pidx 64 1) [(t 3),(t 39)]),LA 41 40,
 (MA 42 4),UA 43 (b .sub d (t 42) (k (i j 2))),UA 44 (.prim (.pidx 64 1) [(t 3),(t 43)]),LA 45 44,MA 7 41,MA 8 45]) (q (r 0 [MA 46 7,UA 47 (.call 142 [(t 46),(k (.int .i64 (-7)))]),
 (MA 48 7),UA 49 (.call 142 [(t 48),(k (.int .i64 (-18)))]),UA 50 (b .xor g (t 47) (t 49)),MA 51 7,UA 52 (.shift .shr (t 51) (k (.int .u64 3))),UA 53 (b .xor g (t 50) (t 52)),
 (MA 9 53)]) (q (r 0 [MA 54 8,UA 55 (.call 142 [(t 54),(k (.int .i64 (-17)))]),MA 56 8,UA 57 (.call 142 [(t 56),(k (.int .i64 (-19)))]),UA 58 (b .xor g (t 55) (t 57)),
 (MA 59 8),UA 60 (.shift .shr (t 59) (k (.int .u64 10))),UA 61 (b .xor g (t 58) (t 60)),MA 10 61]) (.tail 15 0 [MA 62 4,MA 63 4,UA 64 (b .sub d (t 63) (k (i j 16))),
 (UA 65 (.prim (.pidx 64 1) [(t 3),(t 64)])),LA 66 65,MA 67 9,UA 68 (b .add g (t 66) (t 67)),MA 69 4,UA 70 (b .sub d (t 69) (k (i j 7))),UA 71 (.prim (.pidx 64 1) [(t 3),(t 70)]),
 (LA 72 71),UA 73 (b .add g (t 68) (t 72)),MA 74 10,UA 75 (b .add g (t 73) (t 74)),UA 76 (.prim (.pidx 64 1) [(t 3),(t 62)]),WA 1 76 75]))))))) (r 0 [UA 77 (b .add d (t 11) (k (i j 1))),
 (MA 11 77)])))
def c128:LCode:=(q (r 1 [UA 2 (.alloc 0 (.agg (yaa 64 (.int .u32 0))))]) (q (r 1 [UA 3 (.alloc 0 (.agg (yaa 64 (.int .u32 0))))]) (q (q (r 0 [CA 11 0]) (z 0
 (.loop c128l0))) (q (r 0 [SA 78 64 3,WA 64 2 78]) .ret))))
open Go Go.Fx Go.Proofs
theorem lw3:rlF Tryz.prog 3 c3=some (c3,[.tmp 8],196):=by kernel_rfl
theorem lw36:rlF Tryz.prog 36 c36=some (c36,[.tmp 6],35):=by kernel_rfl
theorem lw38:rlF Tryz.prog 38 c38=some (c38,[.tmp 2],8):=by kernel_rfl
theorem lw40:rlF Tryz.prog 40 c40=some (c40,[.tmp 4],19):=by kernel_rfl
theorem lw62:rlF Tryz.prog 62 c62=some (c62,[.tmp 2],5):=by kernel_rfl
theorem lw70:rlF Tryz.prog 70 c70=some (c70,[.tmp 4],18):=by kernel_rfl
theorem lw73:rlF Tryz.prog 73 c73=some (c73,[.tmp 6],32):=by kernel_rfl
theorem lw93:rlF Tryz.prog 93 c93=some (c93,[.cell 4 (some 73)],38):=by kernel_rfl
theorem lw94:rlF Tryz.prog 94 c94=some (c94,[.cell 2 (some 32)],58):=by kernel_rfl
theorem lw108:rlF Tryz.prog 108 c108=some (c108,[.tmp 4],28):=by kernel_rfl
theorem lw128:rlF Tryz.prog 128 c128=some (c128,[.cell 2 (some 64)],79):=by kernel_rfl
end Go.Fx.K
namespace Go.Fx.K
open Go Go.Fx
open Go.Operand renaming tmp → t, const → k
open Go.Value renaming int → i, bool → y
open Go.IntKind renaming i64 → j
open Option renaming some → s, none → o
open Go.Fx.LOp renaming mov → m, load → l, fld → f, bin → b, idx → x, store → w, pick → p, len → n, box → u
open Go.Fx.LCode renaming seq → q, reg → r, cond → c, block → z
open Go.Fx.LPlan renaming take → v, alt → h
open Bool renaming false → g, true → d
def c5:LCode:=(q (r 0 [UA 2 (m (k (.pointer o)))]) (q (q (r 0 [MA 3 0,UA 4 (b .lss g (t 3) (k (i j 1))),MA 5 4,GA 6 (m (t 0)) 5 g,GA 7 (b .gtr g (t 6) (k (i j 65536))) 5 g,
 (UA 8 (p (t 5) (k (y d)) (t 7)))]) (c (t 8) (q (r 0 [UA 2 (m (k (.pointer o)))]) .ret) .skip)) (q (r 3 [MA 9 0,UA 10 (.mk 0 65 65 [.int .u8 0,.int .u8 0,.int .u8 0,.int .u8 0,.int .u8 0,.int .u8 0,.int .u8 0,.int .u8 0,.int .u8 0,.int .u8 0,.int .u8 0,.int .u8 0,.int .u8 0,.int .u8 0,.int .u8 0,.int .u8 0,.int .u8 0,.int .u8 0,.int .u8 0,.int .u8 0,.int .u8 0,.int .u8 0,.int .u8 0,.int .u8 0,.int .u8 0,.int .u8 0,.int .u8 0,.int .u8 0,.int .u8 0,.int .u8 0,.int .u8 0,.int .u8 0,.int .u8 0,.int .u8 0,.int .u8 0,.int .u8 0,.int .u8 0,.int .u8 0,.int .u8 0,.int .u8 0,.int .u8 0,.int .u8 0,.int .u8 0,.int .u8 0,.int .u8 0,.int .u8 0,.int .u8 0,.int .u8 0,.int .u8 0,.int .u8 0,.int .u8 0,.int .u8 0,.int .u8 0,.int .u8 0,.int .u8 0,.int .u8 0,.int .u8 0,.int .u8 0,.int .u8 0,.int .u8 0,.int .u8 0,.int .u8 0,.int .u8 0,.int .u8 0,.bool g] (t 9) (t 9)),
 (UA 11 (.mkmap 1 o)),UA 12 (.build [.slice o 0 0,.map o,i j 0,i j 0,.bool g] [(0,1,(t 10)),(1,1,(t 11)),(3,1,(k (.int .i64 (-1))))]),UA 13 (u 2 (t 12)),MA 2 13]) .ret)))
def c12:LCode:=(q (r 1 [UA 3 (u 0 (t 1)),UA 4 (m (k (.string ⟨#[]⟩))),UA 5 (m (k (.string ⟨#[]⟩))),CA 6 0]) (q (r 0 [MA 12 0,UA 13 (.nilc (t 12)),FA 14 4 13,
 (LA 15 14),UA 16 (.fn 41 [(t 3)]),UA 17 (.call 40 [(t 15),(t 16)]),MA 7 17]) (q (q (r 0 [MA 18 7,UA 19 (b .lss g (t 18) (k (i j 0)))]) (c (t 19) (q (r 0 [UA 4 (m (k (.string ⟨#[]⟩))),
 (UA 5 (m (k (.string ⟨#[]⟩)))),CA 6 5]) .ret) .skip)) (q (.tree 1 (v 0 [1,2,3,8,9,10,11,13,14] (MA 21 0) (v 1 [2,3,8,9,10,11,13,14] (UA 22 (.nilc (t 21))) (v 2 [3,8,9,10,11,13,14] (FA 23 0 22)
 (v 3 [8,9,10,11,13,14] (LA 24 23) (v 4 [5,8,9,10,11,13,14] (FA 25 0 3) (v 5 [8,9,10,11,13,14] (LA 26 25) (v 6 [7,8,9,10,11,13,14] (FA 27 1 3) (v 7 [8,9,10,11,13,14] (LA 28 27)
 (h 8 (UA 29 (.call 29 [(t 24),(t 26),(t 28)])) g (v 9 [10,11,13,14] (MA 20 29) (v 10 [13,14] (UA 30 (.ext (t 20) 0)) (v 11 [14] (UA 31 (.ext (t 20) 1)) (h 12 (UA 8 (.alloc 0 (.agg (yaa 512 (.int .u8 0))))) d
 (h 13 (WA 512 8 30) g (v 14 [] (MA 9 31) .done) .none) .none)))) (h 12 (UA 8 (.alloc 0 (.agg (yaa 512 (.int .u8 0))))) d (h 8 (UA 29 (.call 29 [(t 24),(t 26),(t 28)])) g (v 9 [10,11,13,14] (MA 20 29)
 (v 10 [13,14] (UA 30 (.ext (t 20) 0)) (v 11 [14] (UA 31 (.ext (t 20) 1)) (h 13 (WA 512 8 30) g (v 14 [] (MA 9 31) .done) .none)))) .none) .none))))))))))) (q (q (r 0 [MA 32 9,
 (UA 33 (b .neq g (t 32) (k (i j 0))))]) (c (t 33) (q (r 0 [MA 34 9,UA 4 (m (k (.string ⟨#[]⟩))),UA 5 (m (k (.string ⟨#[]⟩))),MA 6 34]) .ret) .skip)) (q (r 1 [FA 36 0 3,
 (LA 37 36),FA 38 1 3,LA 39 38,SA 40 512 8,UA 41 (.call 30 [(t 37),(t 39),(t 40)]),MA 35 41,UA 42 (.ext (t 35) 0),UA 43 (.ext (t 35) 1),UA 10 (.alloc 0 (.agg #[i j 0,i j 0,.string ⟨#[]⟩,.string ⟨#[]⟩])),
 (WA 4 10 42),MA 11 43]) (q (q (.qui 0 [MA 44 11,UA 45 (.not (t 44)),MA 46 45,GA 47 (f 1 (t 10)) 46 g,GA 48 (l o (t 47)) 46 g,GA 49 (f 2 (t 3)) 46 g,
 (GA 50 (l o (t 49)) 46 g),GA 51 (b .neq g (t 48) (t 50)) 46 g,UA 52 (p (t 46) (k (y d)) (t 51)),MA 53 52,GA 54 (f 0 (t 10)) 53 g,GA 55 (l o (t 54)) 53 g,GA 56 (m (t 0)) 53 g,
 (GA 57 (.nilc (t 56)) 53 g),GA 58 (f 1 (t 57)) 53 g,GA 59 (l o (t 58)) 53 g,GA 60 (f 0 (t 3)) 53 g,GA 61 (l o (t 60)) 53 g,GA 62 (x 1 (t 59) (t 61)) 53 g,GA 63 (l o (t 62)) 53 g,
 (GA 64 (b .neq g (t 55) (t 63)) 53 g),UA 65 (p (t 53) (k (y d)) (t 64))]) (c (t 65) (q (r 0 [UA 4 (m (k (.string ⟨#[]⟩))),UA 5 (m (k (.string ⟨#[]⟩))),CA 6 8]) .ret) .skip)) (q
 (.qui 0 [FA 66 2 10,LA 67 66,FA 68 3 10,LA 69 68,MA 4 67,MA 5 69,CA 6 0]) .ret))))))))
def c28:LCode:=(q (r 1 [UA 4 (.alloc 0 (.agg (yaa 64 (.int .u8 0))))]) (q (r 0 [UA 6 (.prim (.pslc 64 g g g) [(t 4)]),UA 7 (.eff .cps 0 [(t 6),(k (.string ⟨#[87,83,69,71]⟩))])]) (q
 (r 0 [UA 8 (.prim (.pslc 64 d d d) [(t 4),(k (i j 4)),(k (i j 12)),(k (i j 12))]),MA 9 1,UA 10 (.call 60 [(t 8),(t 9)])]) (q (r 3 [MA 11 0,MA 12 1,UA 13 (.lits 0 1 2 [i j 0] [(0,(t 11)),(1,(t 12))]),
 (UA 14 (.call 62 [(t 13)])),UA 15 (.eff .b2s 0 [(t 14)]),UA 16 (.lits 1 1 1 [.string ⟨#[]⟩] [(0,(t 15))]),UA 17 (.call 61 [(k (i j 140)),(t 16)]),UA 5 (.alloc 2 (.agg (yaa 16 (.int .u8 0)))),
 (WA 16 5 17)]) (q (.tail 2 0 [UA 18 (.prim (.pslc 64 d g g) [(t 4),(k (i j 12))]),UA 19 (.prim (.pslc 16 g g g) [(t 5)]),UA 20 (.copy 1 (t 18) (t 19))]) (q (r 0 [SA 21 64 4,
 (WA 64 4 21)]) .ret))))))
def c29l0:LCode:=q (r 0 [UA 12 (b .lss g (t 11) (k (i j 8)))]) (q (c (t 12) .skip (.exit 0)) (q (z 1 (q (r 0 [MA 13 11,MA 8 13]) (q (r 1 [MA 15 0,MA 16 1,
 (MA 17 2),UA 18 (.call 37 [(t 16),(t 17)]),MA 19 8,UA 20 (b .add d (t 18) (t 19)),UA 21 (.call 26 [(t 15),(t 20)]),MA 14 21,UA 22 (.ext (t 14) 0),UA 23 (.ext (t 14) 1),
 (UA 9 (.alloc 0 (.agg (yaa 64 (.int .u8 0))))),WA 64 9 22,MA 10 23]) (q (q (r 0 [MA 24 10,UA 25 (b .neq g (t 24) (k (i j 0)))]) (c (t 25) (q (r 0 [SA 26 512 6,
 (MA 27 10),WA 512 6 26,MA 7 27]) .ret) .skip)) (.tail 4 0 [MA 28 8,UA 29 (b .mul d (t 28) (k (i j 64))),UA 30 (.prim (.pslc 512 d g g) [(t 6),(t 29)]),UA 31 (.prim (.pslc 64 g g g) [(t 9)]),
 (UA 32 (.copy 1 (t 30) (t 31)))]))))) (r 0 [UA 33 (b .add d (t 11) (k (i j 1))),MA 11 33])))
def c29:LCode:=(q (r 1 [UA 6 (.alloc 0 (.agg (yaa 512 (.int .u8 0)))),CA 7 0]) (q (q (r 0 [CA 11 0]) (z 0 (.loop c29l0))) (q (r 0 [SA 34 512 6,
 (WA 512 6 34),CA 7 0]) .ret)))
def c37:LCode:=(q (r 0 [CA 4 0]) (q (r 0 [MA 5 0,UA 6 (b .mul d (t 5) (k (i j 129))),UA 7 (b .add d (t 6) (k (i j 1))),MA 8 1,UA 9 (b .mul d (t 8) (k (i j 8))),
 (UA 10 (b .add d (t 7) (t 9))),MA 4 10]) .ret))
def c71l0:LCode:=q (r 0 [UA 18 (b .lss g (t 17) (k (i j 16)))]) (q (c (t 18) .skip (.exit 0)) (q (z 1 (q (r 0 [MA 19 17,MA 5 19]) (q (.tree 0 (v 0 [1,2,3,8,9] (MA 20 0)
 (v 1 [2,3,8,9] (UA 21 (.nilc (t 20))) (v 2 [3,8,9] (FA 22 0 21) (v 3 [8,9] (LA 23 22) (v 4 [6,8,9] (MA 24 1) (v 5 [6,8,9] (MA 25 5) (v 7 [8,9] (UA 27 (.build (yab 64 (.int .u8 0)) []))
 (h 6 (UA 26 (.call 37 [(t 24),(t 25)])) d (h 8 (UA 28 (.call 73 [(t 23),(t 26),(t 27)])) g (v 9 [] (MA 6 28) .done) .none) .none))))))))) (q (r 0 [MA 29 6,UA 30 (b .neq g (t 29) (k (i j 0)))])
 (c (t 30) (q (r 0 [MA 31 6,MA 4 31]) .ret) .skip))))) (r 0 [UA 32 (b .add d (t 17) (k (i j 1))),MA 17 32])))
def c71:LCode:=(q (r 0 [CA 4 0]) (q (q (r 0 [MA 9 0,UA 10 (.nilc (t 9)),FA 11 1 10,LA 12 11,MA 13 1,XA 14 1 12 13,LA 15 14,
 (UA 16 (b .eql g (t 15) (k (i j 0))))]) (c (t 16) (q (q (r 0 [CA 17 0]) (z 0 (.loop c71l0))) (q (r 0 [MA 33 0,UA 34 (.nilc (t 33)),FA 35 0 34,LA 36 35,
 (UA 37 (.call 74 [(t 36)])),MA 7 37]) (q (r 0 [MA 38 7,UA 39 (b .neq g (t 38) (k (i j 0)))]) (c (t 39) (q (r 0 [MA 40 7,MA 4 40]) .ret) .skip)))) .skip)) (q (r 0 [
 (MA 41 0),UA 42 (.nilc (t 41)),FA 43 2 42,LA 44 43,UA 45 (b .add d (t 44) (k (i j 1))),UA 46 (.nilc (t 41)),FA 47 2 46,WA 1 47 45]) (q (q (r 1 [
 (MA 48 0),MA 49 1,UA 50 (b .mul d (t 49) (k (i j 129))),MA 51 1,MA 52 0,UA 53 (.nilc (t 52)),FA 54 2 53,LA 55 54,UA 56 (.call 28 [(t 51),(t 55)]),
 (UA 57 (.lits 0 64 1 (yab 64 (.int .u8 0)) [(0,(t 56))])),UA 58 (.call 36 [(t 48),(t 50),(t 57)]),MA 8 58]) (q (r 0 [MA 59 8,UA 60 (b .neq g (t 59) (k (i j 0)))]) (c (t 60)
 (q (r 0 [MA 61 8,MA 4 61]) .ret) .skip))) (q (.tail 10 0 [MA 62 0,UA 63 (.nilc (t 62)),FA 64 1 63,LA 65 64,MA 66 1,MA 67 0,UA 68 (.nilc (t 67)),
 (FA 69 2 68),LA 70 69,XA 71 1 65 66,WA 1 71 70]) (q (r 0 [CA 4 0]) .ret))))))
def c72:LCode:=(q (r 0 [UA 2 (m (k (.slice o 0 0)))]) (q (r 1 [MA 3 0,UA 4 (.lens (t 3)),UA 5 (.call 96 [(t 4)]),MA 6 0,UA 7 (.eff (.aps 1) 0 [(t 5),(t 6)]),MA 2 7])
 .ret))
def c74l0:LCode:=q (r 0 [UA 20 (.next (t 19)),UA 21 (.ext (t 20) 0)]) (q (c (t 21) .skip (.exit 0)) (z 1 (q (r 0 [UA 22 (.entry (t 19)),UA 23 (.ext (t 22) 0),UA 24 (.ext (t 22) 1),MA 4 23,
 (MA 5 24)]) (q (.tail 13 0 [MA 25 0,UA 26 (.nilc (t 25)),FA 27 0 26,LA 28 27,MA 29 4,MA 30 5,MA 31 5,UA 32 (n (t 31)),UA 33 (b .sub d (t 32) (k (i j 1))),
 (XA 34 64 30 33),SA 35 64 34,UA 36 (.build [.int .u8 0,.int .u8 0,.int .u8 0,.int .u8 0,.int .u8 0,.int .u8 0,.int .u8 0,.int .u8 0,.int .u8 0,.int .u8 0,.int .u8 0,.int .u8 0,.int .u8 0,.int .u8 0,.int .u8 0,.int .u8 0,.int .u8 0,.int .u8 0,.int .u8 0,.int .u8 0,.int .u8 0,.int .u8 0,.int .u8 0,.int .u8 0,.int .u8 0,.int .u8 0,.int .u8 0,.int .u8 0,.int .u8 0,.int .u8 0,.int .u8 0,.int .u8 0,.int .u8 0,.int .u8 0,.int .u8 0,.int .u8 0,.int .u8 0,.int .u8 0,.int .u8 0,.int .u8 0,.int .u8 0,.int .u8 0,.int .u8 0,.int .u8 0,.int .u8 0,.int .u8 0,.int .u8 0,.int .u8 0,.int .u8 0,.int .u8 0,.int .u8 0,.int .u8 0,.int .u8 0,.int .u8 0,.int .u8 0,.int .u8 0,.int .u8 0,.int .u8 0,.int .u8 0,.int .u8 0,.int .u8 0,.int .u8 0,.int .u8 0,.int .u8 0,.bool g] [(0,64,(t 35))]),
 (XA 37 65 28 29),WA 65 37 36]) (r 0 [MA 38 0,UA 39 (.nilc (t 38)),FA 40 1 39,LA 41 40,MA 42 4,⟨o,.mdel (.int .i64) (t 41) (t 42),o⟩])))))
def c74:LCode:=(q (r 0 [CA 2 0]) (q (r 0 [MA 6 0,UA 7 (.call 39 [(t 6),(k (i j 0))]),MA 3 7]) (q (q (r 0 [MA 8 3,UA 9 (b .eql g (t 8) (k (i j 0)))])
 (c (t 9) (r 0 [MA 10 0,UA 11 (.call 109 [(t 10)]),MA 3 11]) .skip)) (q (q (r 0 [MA 12 3,UA 13 (b .neq g (t 12) (k (i j 0)))]) (c (t 13) (q (r 0 [MA 14 3,MA 2 14])
 .ret) .skip)) (q (q (r 1 [MA 15 0,UA 16 (.nilc (t 15)),FA 17 1 16,LA 18 17,UA 19 (.range 0 (t 18))]) (z 0 (.loop c74l0))) (q (r 0 [CA 2 0]) .ret))))))

def c92:LCode:=(q (r 1 [UA 0 (.alloc 0 (.agg t7))]) (q (r 0 [UA 1 (.build [.int .u32 0,.int .u32 0,.int .u32 0,.int .u32 0,.int .u32 0,.int .u32 0,.int .u32 0,.int .u32 0] [(0,1,(k (.int .u32 1779033703))),(1,1,(k (.int .u32 3144134277))),(2,1,(k (.int .u32 1013904242))),(3,1,(k (.int .u32 2773480762))),(4,1,(k (.int .u32 1359893119))),(5,1,(k (.int .u32 2600822924))),(6,1,(k (.int .u32 528734635))),(7,1,(k (.int .u32 1541459225)))]),
 (UA 2 (.build [.int .u32 0,.int .u32 0,.int .u32 0,.int .u32 0,.int .u32 0,.int .u32 0,.int .u32 0,.int .u32 0,.int .u8 0,.int .u8 0,.int .u8 0,.int .u8 0,.int .u8 0,.int .u8 0,.int .u8 0,.int .u8 0,.int .u8 0,.int .u8 0,.int .u8 0,.int .u8 0,.int .u8 0,.int .u8 0,.int .u8 0,.int .u8 0,.int .u8 0,.int .u8 0,.int .u8 0,.int .u8 0,.int .u8 0,.int .u8 0,.int .u8 0,.int .u8 0,.int .u8 0,.int .u8 0,.int .u8 0,.int .u8 0,.int .u8 0,.int .u8 0,.int .u8 0,.int .u8 0,.int .u8 0,.int .u8 0,.int .u8 0,.int .u8 0,.int .u8 0,.int .u8 0,.int .u8 0,.int .u8 0,.int .u8 0,.int .u8 0,.int .u8 0,.int .u8 0,.int .u8 0,.int .u8 0,.int .u8 0,.int .u8 0,.int .u8 0,.int .u8 0,.int .u8 0,.int .u8 0,.int .u8 0,.int .u8 0,.int .u8 0,.int .u8 0,.int .u8 0,.int .u8 0,.int .u8 0,.int .u8 0,.int .u8 0,.int .u8 0,.int .u8 0,.int .u8 0,.int .u64 0] [(0,8,(t 1))])),
 (WA 73 0 2)]) .ret))
def c95l0:LCode:=q (r 0 [UA 14 (b .lss g (t 13) (t 12))]) (q (c (t 14) .skip (.exit 0)) (q (z 1 (q (r 0 [XA 15 1 11 13,LA 16 15,MA 7 16]) (r 1 [MA 17 5,
 (MA 18 1),MA 19 7,UA 20 (.callv (t 18) [(t 19)]),UA 21 (.append 0 1 1 (t 17) (t 20)),MA 5 21]))) (r 0 [UA 22 (b .add d (t 13) (k (i j 1))),MA 13 22])))
def c95:LCode:=(q (r 0 [UA 4 (m (k (.slice o 0 0)))]) (q (r 0 [MA 8 0,UA 9 (n (t 8)),UA 10 (.call 96 [(t 9)]),MA 5 10]) (q (q (r 0 [MA 11 0,UA 12 (n (t 11)),CA 13 0])
 (z 0 (.loop c95l0))) (q (r 0 [MA 23 5,MA 4 23]) .ret))))
def c129:LCode:=(q (r 0 [UA 8 (m (k (.int .u32 0)))]) (q (r 0 [MA 9 0,MA 10 1,UA 11 (.neg (t 10)),UA 12 (.call 142 [(t 9),(t 11)]),MA 13 0,MA 14 2,UA 15 (.neg (t 14)),
 (UA 16 (.call 142 [(t 13),(t 15)])),UA 17 (b .xor g (t 12) (t 16)),MA 18 0,MA 19 3,UA 20 (.neg (t 19)),UA 21 (.call 142 [(t 18),(t 20)]),UA 22 (b .xor g (t 17) (t 21)),MA 8 22])
 .ret))
open Go Go.Fx Go.Proofs
theorem lw5:rlF Tryz.prog 5 c5=some (c5,[.tmp 2],14):=by kernel_rfl
theorem lw12:rlF Tryz.prog 12 c12=some (c12,[.tmp 4,.tmp 5,.tmp 6],70):=by kernel_rfl
theorem lw28:rlF Tryz.prog 28 c28=some (c28,[.cell 4 (some 64)],22):=by kernel_rfl
theorem lw29:rlF Tryz.prog 29 c29=some (c29,[.cell 6 (some 512),.tmp 7],35):=by kernel_rfl
theorem lw37:rlF Tryz.prog 37 c37=some (c37,[.tmp 4],11):=by kernel_rfl
theorem lw71:rlF Tryz.prog 71 c71=some (c71,[.tmp 4],72):=by kernel_rfl
theorem lw72:rlF Tryz.prog 72 c72=some (c72,[.tmp 2],8):=by kernel_rfl
theorem lw74:rlF Tryz.prog 74 c74=some (c74,[.tmp 2],43):=by kernel_rfl
theorem lw92:rlF Tryz.prog 92 c92=some (c92,[.cell 0 (some 73)],3):=by kernel_rfl
theorem lw95:rlF Tryz.prog 95 c95=some (c95,[.tmp 4],24):=by kernel_rfl
theorem lw129:rlF Tryz.prog 129 c129=some (c129,[.tmp 8],23):=by kernel_rfl
end Go.Fx.K
namespace Go.Fx.K
open Go Go.Fx
open Go.Operand renaming tmp → t, const → k
open Go.Value renaming int → i, bool → y
open Go.IntKind renaming i64 → j
open Option renaming some → s, none → o
open Go.Fx.LOp renaming mov → m, load → l, fld → f, bin → b, idx → x, store → w, pick → p, len → n, box → u
open Go.Fx.LCode renaming seq → q, reg → r, cond → c, block → z
open Go.Fx.LPlan renaming take → v, alt → h
open Bool renaming false → g, true → d
def c7l0:LCode:=q (r 0 [UA 80 (b .lss g (t 79) (k (i j 8)))]) (q (c (t 80) .skip (.exit 0)) (q (z 1 (q (r 0 [MA 81 79,MA 12 81]) (r 2 [MA 82 11,MA 83 12,UA 84 (b .mul d (t 83) (k (i j 64))),
 (MA 85 12),UA 86 (b .add d (t 85) (k (i j 1))),UA 87 (b .mul d (t 86) (k (i j 64))),UA 88 (.prim (.pslc 512 d d g) [(t 10),(t 84),(t 87)]),UA 89 (.prim (.s2a 64) [(t 88)]),SA 90 64 89,
 (UA 91 (.lits 0 64 1 (yab 64 (.int .u8 0)) [(0,(t 90))])),UA 92 (.append 1 64 64 (t 82) (t 91)),MA 11 92]))) (r 0 [UA 93 (b .add d (t 79) (k (i j 1))),MA 79 93])))
def c7:LCode:=(q (r 1 [UA 6 (.alloc 0 (.agg #[i j 0,i j 0,i j 0])),CA 7 0]) (q (q (r 0 [MA 14 1,UA 15 (.lens (t 14)),UA 16 (b .gtr g (t 15) (k (i j 100))),MA 17 16,
 (GA 18 (m (t 2)) 17 g),GA 19 (.lens (t 18)) 17 g,GA 20 (b .gtr g (t 19) (k (i j 360))) 17 g,UA 21 (p (t 17) (k (y d)) (t 20))]) (c (t 21) (q (r 0 [UA 22 (.build [i j 0,i j 0,i j 0] []),
 (WA 3 6 22),CA 7 2]) .ret) .skip)) (q (q (r 0 [MA 23 0,UA 24 (.nilc (t 23)),FA 25 5 24,LA 26 25,UA 27 (b .lss g (t 26) (k (i j 0))),MA 28 27,
 (GA 29 (m (t 0)) 28 g),GA 30 (.nilc (t 29)) 28 g,GA 31 (f 6 (t 30)) 28 g,GA 32 (l o (t 31)) 28 g,GA 33 (b .eql g (t 32) (k (i j 16))) 28 g,UA 34 (p (t 28) (k (y d)) (t 33))])
 (c (t 34) (q (r 0 [MA 35 0,UA 36 (.call 34 [(t 35)]),MA 8 36]) (q (r 0 [MA 37 8,UA 38 (b .neq g (t 37) (k (i j 0)))]) (c (t 38) (q (r 0 [UA 39 (.build [i j 0,i j 0,i j 0] []),
 (MA 40 8),WA 3 6 39,MA 7 40]) .ret) .skip))) .skip)) (q (r 0 [MA 41 0,UA 42 (.nilc (t 41)),FA 43 3 42,LA 44 43,UA 45 (b .add d (t 44) (k (i j 1))),
 (UA 46 (.nilc (t 41))),FA 47 3 46,WA 1 47 45]) (q (.tree 1 (v 0 [1,2,3,12,14] (MA 48 0) (v 1 [2,3,12,14] (UA 49 (.nilc (t 48))) (v 2 [3,12,14] (FA 50 5 49) (v 3 [12,14] (LA 51 50)
 (v 4 [5,6,7,12,14] (MA 52 0) (v 5 [6,7,12,14] (UA 53 (.nilc (t 52))) (v 6 [7,12,14] (FA 54 6 53) (v 7 [12,14] (LA 55 54) (v 8 [9,10,11,12,14] (MA 56 0) (v 9 [10,11,12,14] (UA 57 (.nilc (t 56)))
 (v 10 [11,12,14] (FA 58 3 57) (v 11 [12,14] (LA 59 58) (v 12 [14] (UA 60 (.build [i j 0,i j 0,i j 0] [(0,1,(t 51)),(1,1,(t 55)),(2,1,(t 59))])) (h 13 (UA 9 (.alloc 0 (.agg #[i j 0,i j 0,i j 0]))) d
 (h 14 (WA 3 9 60) g .done .none) .none))))))))))))))) (q (.tree 1 (v 0 [1,17,19] (FA 61 0 9) (v 1 [17,19] (LA 62 61) (v 2 [3,17,19] (FA 63 1 9) (v 3 [17,19] (LA 64 63)
 (v 4 [5,6,7,10,11,16,17,19] (MA 65 0) (v 5 [6,7,10,11,16,17,19] (UA 66 (.nilc (t 65))) (v 6 [7,10,11,16,17,19] (FA 67 1 66) (v 7 [10,11,16,17,19] (LA 68 67) (v 8 [9,10,11,16,17,19] (FA 69 0 9)
 (v 9 [10,11,16,17,19] (LA 70 69) (v 10 [11,16,17,19] (XA 71 1 68 70) (v 11 [16,17,19] (LA 72 71) (v 12 [13,16,17,19] (FA 73 2 9) (v 13 [16,17,19] (LA 74 73)
 (v 14 [16,17,19] (MA 75 1) (v 15 [16,17,19] (MA 76 2) (v 16 [17,19] (UA 77 (.build [i j 0,i j 0,.string ⟨#[]⟩,.string ⟨#[]⟩] [(0,1,(t 72)),(1,1,(t 74)),(2,1,(t 75)),(3,1,(t 76))])) (h 17 (UA 78 (.call 35 [(t 62),(t 64),(t 77)])) g
 (h 18 (UA 10 (.alloc 0 (.agg (yaa 512 (.int .u8 0))))) d (h 19 (WA 512 10 78) g .done .none) .none) (h 18 (UA 10 (.alloc 0 (.agg (yaa 512 (.int .u8 0))))) d (h 17 (UA 78 (.call 35 [(t 62),(t 64),(t 77)])) g
 (h 19 (WA 512 10 78) g .done .none) .none) .none)))))))))))))))))))) (q (r 0 [UA 11 (m (k (.slice o 0 0)))]) (q (q (r 0 [CA 79 0]) (z 0 (.loop c7l0))) (q (r 0 [MA 94 0,
 (UA 95 (.nilc (t 94))),FA 96 6 95,LA 97 96,UA 98 (b .add d (t 97) (k (i j 1))),UA 99 (.nilc (t 94)),FA 100 6 99,WA 1 100 98]) (q (q (r 0 [MA 101 0,
 (FA 102 0 9),LA 103 102,FA 104 1 9,LA 105 104,UA 106 (.call 37 [(t 103),(t 105)]),MA 107 11,UA 108 (.call 36 [(t 101),(t 106),(t 107)]),MA 13 108])
 (q (r 0 [MA 109 13,UA 110 (b .neq g (t 109) (k (i j 0)))]) (c (t 110) (q (r 0 [UA 111 (.build [i j 0,i j 0,i j 0] []),MA 112 13,WA 3 6 111,MA 7 112]) .ret)
 .skip))) (q (.tree 2 (v 0 [10,11,12] (MA 113 0) (v 1 [2,3,4,9,10,11,12] (MA 114 0) (v 2 [3,4,9,10,11,12] (UA 115 (.nilc (t 114))) (v 3 [4,9,10,11,12] (FA 116 4 115) (v 4 [9,10,11,12] (LA 117 116)
 (v 5 [7,8,9,10,11,12] (SA 118 3 9) (v 6 [7,8,9,10,11,12] (MA 119 1) (v 7 [8,9,10,11,12] (UA 120 (.build [i j 0,i j 0,i j 0,.string ⟨#[]⟩] [(0,3,(t 118)),(3,1,(t 119))])) (h 8 (UA 121 (.lits 0 4 1 [i j 0,i j 0,i j 0,.string ⟨#[]⟩] [(0,(t 120))])) d
 (h 9 (UA 122 (.append 1 4 40 (t 117) (t 121))) g (v 10 [11,12] (UA 123 (.nilc (t 113))) (v 11 [12] (FA 124 4 123) (h 12 (WA 1 124 122) g .done .none))) .none) .none)))))))))) (q (r 0 [
 (SA 125 3 9),WA 3 6 125,CA 7 0]) .ret))))))))))))
def c25:LCode:=(q (r 0 [UA 2 (m (k (y g)))]) (q (r 0 [MA 3 0,UA 4 (.nilc (t 3)),FA 5 4 4,LA 6 5,MA 2 6]) .ret))
def c26:LCode:=(q (r 1 [UA 4 (.alloc 0 (.agg (yaa 64 (.int .u8 0)))),CA 5 0]) (q (q (r 0 [MA 8 0,MA 9 1,UA 10 (.call 39 [(t 8),(t 9)]),MA 6 10])
 (q (r 0 [MA 11 6,UA 12 (b .neq g (t 11) (k (i j 0)))]) (c (t 12) (q (r 0 [UA 13 (.build (yab 64 (.int .u8 0)) []),MA 14 6,WA 64 4 13,MA 5 14])
 .ret) .skip))) (q (q (r 0 [MA 15 0,UA 16 (.nilc (t 15)),FA 17 1 16,LA 18 17,MA 19 1,UA 20 (.lookup (.int .i64) (.slice o 0 0) g (t 18) (t 19)),MA 7 20])
 (q (r 0 [MA 21 7,UA 22 (n (t 21)),UA 23 (b .gtr g (t 22) (k (i j 0)))]) (c (t 23) (q (r 0 [MA 24 7,MA 25 7,UA 26 (n (t 25)),UA 27 (b .sub d (t 26) (k (i j 1))),XA 28 64 24 27,
 (SA 29 64 28),WA 64 4 29,CA 5 0]) .ret) .skip))) (q (q (r 0 [MA 30 0,UA 31 (.nilc (t 30)),FA 32 0 31,LA 33 32,MA 34 1,
 (XA 35 65 33 34),FA 36 64 35,LA 37 36]) (c (t 37) (q (r 0 [UA 38 (.build (yab 64 (.int .u8 0)) []),WA 64 4 38,CA 5 131]) .ret)
 .skip)) (q (r 0 [MA 39 0,UA 40 (.nilc (t 39)),FA 41 0 40,LA 42 41,MA 43 1,XA 44 65 42 43,FA 45 0 44,SA 46 64 45,WA 64 4 46,
 (CA 5 0)]) .ret)))))
def c39:LCode:=(q (r 0 [CA 4 0]) (q (z 0 (q (r 0 [MA 6 0,UA 7 (.nilc (t 6)),FA 8 4 7,LA 9 8,MA 5 9]) (c (t 5) (q (r 0 [CA 4 130])
 .ret) (q (r 0 [MA 11 1,UA 12 (b .lss g (t 11) (k (i j 0))),MA 13 12,GA 14 (m (t 1)) 13 g,GA 15 (m (t 0)) 13 g,GA 16 (.nilc (t 15)) 13 g,GA 17 (f 0 (t 16)) 13 g,
 (GA 18 (l o (t 17)) 13 g),GA 19 (n (t 18)) 13 g,GA 20 (b .geq g (t 14) (t 19)) 13 g,UA 21 (p (t 13) (k (y d)) (t 20)),MA 10 21]) (c (t 10) (q (r 0 [CA 4 1])
 .ret) .skip))))) (q (r 0 [CA 4 0]) .ret)))
def c41:LCode:=(q (r 1 [UA 2 (u 0 (t 0)),UA 3 (m (k (y g)))]) (q (r 0 [FA 4 0 2,SA 5 3 4,SA 6 3 1,UA 7 (.eqf g [(0,(.int .i64)),(1,(.int .i64)),(2,(.int .i64))] (t 5) (t 6)),
 (MA 3 7)]) .ret))
def c60l0:LCode:=q (q (r 0 [MA 8 4,UA 9 (b .geq g (t 8) (k (i j 0)))]) (c (t 9) .skip (.exit 0))) (q (z 1 (q (r 0 [MA 12 0,MA 13 4,MA 14 1,UA 15 (.conv g .u8 (t 14)),
 (XA 16 1 12 13),WA 1 16 15]) (r 0 [MA 17 1,UA 18 (.shift .shr (t 17) (k (.int .u64 8))),MA 1 18]))) (r 0 [MA 10 4,UA 11 (b .sub d (t 10) (k (i j 1))),
 (MA 4 11)]))
def c60:LCode:=(q (r 0 [MA 5 0,UA 6 (n (t 5)),UA 7 (b .sub d (t 6) (k (i j 1))),MA 4 7]) (z 0 (.loop c60l0)))
def c65:LCode:=(q (r 1 [UA 10 (.alloc 0 (.agg (yaa 16 (.int .u8 0))))]) (q (r 2 [MA 11 0,MA 12 1,MA 13 2,MA 14 3,UA 15 (.lits 0 1 4 [i j 0] [(0,(t 11)),(1,(t 12)),(2,(t 13)),(3,(t 14))]),
 (UA 16 (.call 62 [(t 15)])),UA 17 (.eff .b2s 0 [(t 16)]),MA 18 4,UA 19 (.lits 1 1 2 [.string ⟨#[]⟩] [(0,(t 17)),(1,(t 18))]),UA 20 (.call 61 [(k (i j 141)),(t 19)]),WA 16 10 20])
 .ret))
def c96l0:LCode:=q (q (r 0 [MA 12 3,UA 13 (b .gtr g (t 12) (k (.int .u64 127)))]) (c (t 13) .skip (.exit 0))) (q (z 1 (r 2 [MA 16 4,MA 17 3,UA 18 (.conv g .u8 (t 17)),
 (UA 19 (b .or g (t 18) (k (.int .u8 128)))),UA 20 (.lits 0 1 1 [.int .u8 0] [(0,(t 19))]),UA 21 (.append 1 1 1 (t 16) (t 20)),MA 4 21])) (r 0 [MA 14 3,UA 15 (.shift .shr (t 14) (k (.int .u64 7))),
 (MA 3 15)]))
def c96:LCode:=(q (r 0 [UA 2 (m (k (.slice o 0 0)))]) (q (r 0 [MA 5 0,UA 6 (.conv g .u64 (t 5)),UA 7 (.shift .shl (t 6) (k (.int .u64 1))),MA 8 0,UA 9 (.shift .shr (t 8) (k (.int .u64 63))),
 (UA 10 (.conv g .u64 (t 9))),UA 11 (b .xor g (t 7) (t 10)),MA 3 11]) (q (r 0 [UA 4 (m (k (.slice o 0 0)))]) (q (z 0 (.loop c96l0)) (q (r 2 [MA 22 4,MA 23 3,UA 24 (.conv g .u8 (t 23)),
 (UA 25 (.lits 0 1 1 [.int .u8 0] [(0,(t 24))])),UA 26 (.append 1 1 1 (t 22) (t 25)),MA 2 26]) .ret)))))
def c97:LCode:=(q (r 0 [CA 4 0,CA 5 0,CA 6 0]) (q (r 0 [MA 11 0,UA 12 (.call 118 [(t 11)]),MA 10 12,UA 13 (.ext (t 10) 0),UA 14 (.ext (t 10) 1),
 (UA 15 (.ext (t 10) 2)),MA 7 13,MA 8 14,MA 9 15]) (q (z 0 (q (r 0 [MA 17 9,UA 18 (b .neq g (t 17) (k (i j 0))),MA 16 18]) (c (t 16) (q (r 0 [MA 19 9,
 (CA 4 0),CA 5 0,MA 6 19]) .ret) (q (r 0 [MA 21 7,UA 22 (b .lss g (t 21) (k (i j 0))),MA 20 22]) (c (t 20) (q (r 0 [CA 4 0,
 (CA 5 0),CA 6 11]) .ret) (q (r 0 [MA 24 7,MA 25 0,UA 26 (n (t 25)),MA 27 8,UA 28 (b .sub d (t 26) (t 27)),MA 29 1,UA 30 (b .quo d (t 28) (t 29)),
 (UA 31 (b .gtr g (t 24) (t 30))),MA 23 31]) (c (t 23) (q (r 0 [CA 4 0,CA 5 0,CA 6 10]) .ret) .skip))))))) (q (r 0 [MA 32 7,MA 33 8,
 (MA 4 32),MA 5 33,CA 6 0]) .ret))))
def c109:LCode:=(q (r 0 [CA 2 0]) (q (z 0 (q (r 0 [MA 4 0,UA 5 (.nilc (t 4)),FA 6 3 5,LA 7 6,UA 8 (b .eql g (t 7) (k (i j 0))),MA 3 8])
 (c (t 3) (q (r 0 [MA 9 0,UA 10 (.nilc (t 9)),FA 11 4 10,⟨o,w 1 (t 11) (k (y d)),o⟩]) (q (r 0 [CA 2 130]) .ret)) (q (r 0 [MA 13 0,UA 14 (.nilc (t 13)),
 (FA 15 3 14),LA 16 15,UA 17 (b .gtr g (t 16) (k (i j 0))),MA 12 17]) (c (t 12) (r 0 [MA 18 0,UA 19 (.nilc (t 18)),FA 20 3 19,LA 21 20,
 (UA 22 (b .sub d (t 21) (k (i j 1)))),UA 23 (.nilc (t 18)),FA 24 3 23,WA 1 24 22]) .skip))))) (q (r 0 [MA 25 0,UA 26 (.nilc (t 25)),FA 27 2 26,LA 28 27,
 (UA 29 (b .add d (t 28) (k (i j 1)))),UA 30 (.nilc (t 25)),FA 31 2 30,WA 1 31 29]) (q (r 0 [CA 2 0]) .ret))))
def c117l0:LCode:=q (r 0 [UA 23 (b .lss g (t 22) (k (i j 64)))]) (q (c (t 23) .skip (.exit 0)) (q (z 1 (q (r 0 [MA 24 22,UA 25 (.prim (.aidx 64 1 g) [(t 21),(t 22)]),MA 8 24,
 (MA 9 25)]) (q (.tree 0 (v 0 [1,5,18,20,24,25] (UA 26 (.prim (.pidx 4 1) [(t 7),(k (i j 3))])) (v 1 [5,18,20,24,25] (LA 27 26) (v 2 [3,4,5,18,20,24,25] (UA 28 (.prim (.pidx 4 1) [(t 7),(k (i j 0))]))
 (v 3 [4,5,18,20,24,25] (LA 29 28) (v 6 [7,10,17,18,20,24,25] (UA 32 (.prim (.pidx 4 1) [(t 7),(k (i j 0))])) (v 7 [10,17,18,20,24,25] (LA 33 32) (v 8 [9,10,17,18,20,24,25] (UA 34 (.prim (.pidx 4 1) [(t 7),(k (i j 1))]))
 (v 9 [10,17,18,20,24,25] (LA 35 34) (v 10 [17,18,20,24,25] (UA 36 (b .and g (t 33) (t 35))) (v 11 [12,13,16,17,18,20,24,25] (UA 37 (.prim (.pidx 4 1) [(t 7),(k (i j 0))])) (v 12 [13,16,17,18,20,24,25] (LA 38 37)
 (v 13 [16,17,18,20,24,25] (UA 39 (.prim .cpl [(t 38)])) (v 14 [15,16,17,18,20,24,25] (UA 40 (.prim (.pidx 4 1) [(t 7),(k (i j 2))])) (v 15 [16,17,18,20,24,25] (LA 41 40) (v 16 [17,18,20,24,25] (UA 42 (b .and g (t 39) (t 41)))
 (v 17 [18,20,24,25] (UA 43 (b .xor g (t 36) (t 42))) (v 19 [20,24,25] (MA 45 9) (v 21 [22,23,24,25] (MA 47 8) (v 22 [23,24,25] (UA 48 (.prim (.pidx 64 1) [(t 5),(t 47)])) (v 23 [24,25] (LA 49 48)
 (h 4 (UA 30 (.call 129 [(t 29),(k (i j 6)),(k (i j 11)),(k (i j 25))])) d (v 5 [18,20,24,25] (UA 31 (b .add g (t 27) (t 30))) (v 18 [20,24,25] (UA 44 (b .add g (t 31) (t 43))) (v 20 [24,25] (UA 46 (b .add g (t 44) (t 45)))
 (v 24 [25] (UA 50 (b .add g (t 46) (t 49))) (v 25 [] (MA 10 50) .done))))) .none)))))))))))))))))))))) (q (.tree 0 (v 0 [1,2,20,21] (UA 51 (.prim (.pidx 4 1) [(t 6),(k (i j 0))])) (v 1 [2,20,21] (LA 52 51)
 (v 3 [4,7,13,19,20,21] (UA 54 (.prim (.pidx 4 1) [(t 6),(k (i j 0))])) (v 4 [7,13,19,20,21] (LA 55 54) (v 5 [6,7,13,19,20,21] (UA 56 (.prim (.pidx 4 1) [(t 6),(k (i j 1))])) (v 6 [7,13,19,20,21] (LA 57 56)
 (v 7 [13,19,20,21] (UA 58 (b .and g (t 55) (t 57))) (v 8 [9,12,13,19,20,21] (UA 59 (.prim (.pidx 4 1) [(t 6),(k (i j 0))])) (v 9 [12,13,19,20,21] (LA 60 59) (v 10 [11,12,13,19,20,21] (UA 61 (.prim (.pidx 4 1) [(t 6),(k (i j 2))]))
 (v 11 [12,13,19,20,21] (LA 62 61) (v 12 [13,19,20,21] (UA 63 (b .and g (t 60) (t 62))) (v 13 [19,20,21] (UA 64 (b .xor g (t 58) (t 63))) (v 14 [15,18,19,20,21] (UA 65 (.prim (.pidx 4 1) [(t 6),(k (i j 1))]))
 (v 15 [18,19,20,21] (LA 66 65) (v 16 [17,18,19,20,21] (UA 67 (.prim (.pidx 4 1) [(t 6),(k (i j 2))])) (v 17 [18,19,20,21] (LA 68 67) (v 18 [19,20,21] (UA 69 (b .and g (t 66) (t 68))) (v 19 [20,21] (UA 70 (b .xor g (t 64) (t 69)))
 (h 2 (UA 53 (.call 129 [(t 52),(k (i j 2)),(k (i j 13)),(k (i j 22))])) d (v 20 [21] (UA 71 (b .add g (t 53) (t 70))) (v 21 [] (MA 11 71) .done)) .none))))))))))))))))))))) (q (r 0 [UA 72 (.prim (.pidx 4 1) [(t 6),(k (i j 3))]),
 (LA 73 72),MA 74 10,UA 75 (b .add g (t 73) (t 74)),UA 76 (.prim (.pidx 4 1) [(t 7),(k (i j 0))]),LA 77 76,UA 78 (.prim (.pidx 4 1) [(t 7),(k (i j 1))]),LA 79 78,
 (UA 80 (.prim (.pidx 4 1) [(t 7),(k (i j 2))])),LA 81 80,UA 82 (.build [.int .u32 0,.int .u32 0,.int .u32 0,.int .u32 0] [(0,1,(t 75)),(1,1,(t 77)),(2,1,(t 79)),(3,1,(t 81))]),WA 4 7 82])
 (r 0 [MA 83 10,MA 84 11,UA 85 (b .add g (t 83) (t 84)),UA 86 (.prim (.pidx 4 1) [(t 6),(k (i j 0))]),LA 87 86,UA 88 (.prim (.pidx 4 1) [(t 6),(k (i j 1))]),LA 89 88,
 (UA 90 (.prim (.pidx 4 1) [(t 6),(k (i j 2))])),LA 91 90,UA 92 (.build [.int .u32 0,.int .u32 0,.int .u32 0,.int .u32 0] [(0,1,(t 85)),(1,1,(t 87)),(2,1,(t 89)),(3,1,(t 91))]),WA 4 6 92]))))))
 (r 0 [UA 93 (b .add d (t 22) (k (i j 1))),MA 22 93])))
def c117l1:LCode:=q (r 0 [UA 95 (b .lss g (t 94) (k (i j 4)))]) (q (c (t 95) .skip (.exit 2)) (q (z 3 (q (r 0 [MA 96 94,MA 12 96]) (q (.tail 8 0 [MA 97 12,UA 98 (.prim (.pidx 8 1) [(t 2),(t 97)]),
 (LA 99 98),MA 100 12,UA 101 (.prim (.pidx 4 1) [(t 6),(t 100)]),LA 102 101,UA 103 (b .add g (t 99) (t 102)),UA 104 (.prim (.pidx 8 1) [(t 2),(t 97)]),WA 1 104 103])
 (.tail 9 0 [MA 105 12,UA 106 (b .add d (t 105) (k (i j 4))),UA 107 (.prim (.pidx 8 1) [(t 2),(t 106)]),LA 108 107,MA 109 12,UA 110 (.prim (.pidx 4 1) [(t 7),(t 109)]),
 (LA 111 110),UA 112 (b .add g (t 108) (t 111)),UA 113 (.prim (.pidx 8 1) [(t 2),(t 106)]),WA 1 113 112])))) (r 0 [UA 114 (b .add d (t 94) (k (i j 1))),MA 94 114])))
def c117:LCode:=(q (r 2 [UA 2 (u 0 (t 0)),UA 4 (.alloc 1 (.agg #[.int .u32 0,.int .u32 0,.int .u32 0,.int .u32 0,.int .u32 0,.int .u32 0,.int .u32 0,.int .u32 0]))]) (q (r 1 [MA 13 1,
 (UA 14 (.call 128 [(t 13)])),UA 5 (.alloc 0 (.agg (yaa 64 (.int .u32 0)))),WA 64 5 14]) (q (.tree 2 (v 0 [1,2,8,9] (UA 15 (.prim (.pslc 8 g d g) [(t 2),(k (i j 4))])) (v 1 [2,8,9] (UA 16 (.prim (.s2a 4) [(t 15)]))
 (v 2 [8,9] (SA 17 4 16) (v 3 [4,5,9] (UA 18 (.prim (.pslc 8 d g g) [(t 2),(k (i j 4))])) (v 4 [5,9] (UA 19 (.prim (.s2a 4) [(t 18)])) (v 5 [9] (SA 20 4 19) (h 6 (UA 6 (.alloc 0 (.agg #[.int .u32 0,.int .u32 0,.int .u32 0,.int .u32 0]))) d
 (h 7 (UA 7 (.alloc 1 (.agg #[.int .u32 0,.int .u32 0,.int .u32 0,.int .u32 0]))) d (h 8 (WA 4 6 17) d (h 9 (WA 4 7 20) g .done .none) .none) .none) (h 7 (UA 7 (.alloc 1 (.agg #[.int .u32 0,.int .u32 0,.int .u32 0,.int .u32 0]))) d
 (h 6 (UA 6 (.alloc 0 (.agg #[.int .u32 0,.int .u32 0,.int .u32 0,.int .u32 0]))) d (h 8 (WA 4 6 17) d (h 9 (WA 4 7 20) g .done .none) .none) .none) .none))))))))) (q (q (r 0 [UA 21 (.eff (.gload 0 64) 0 []),
 (CA 22 0)]) (z 0 (.loop c117l0))) (q (q (r 0 [CA 94 0]) (z 2 (.loop c117l1))) (q (r 0 [SA 115 8 2,WA 8 4 115]) .ret))))))
def c118l0:LCode:=q (r 0 [UA 12 (b .lss g (t 11) (t 10))]) (q (c (t 12) .skip (.exit 0)) (q (z 1 (q (r 0 [MA 13 11,XA 14 1 9 11,LA 15 14,MA 7 13,MA 8 15])
 (q (z 2 (q (q (r 0 [MA 25 7,UA 26 (b .eql g (t 25) (k (i j 9))),MA 27 26,GA 28 (m (t 8)) 27 d,GA 29 (b .gtr g (t 28) (k (.int .u8 1))) 27 d,UA 30 (p (t 27) (t 29) (k (y g))),
 (MA 24 30)]) (c (t 24) .skip (r 0 [MA 31 7,UA 32 (b .gtr g (t 31) (k (i j 0))),MA 33 32,GA 34 (m (t 8)) 33 d,GA 35 (b .eql g (t 34) (k (.int .u8 0))) 33 d,UA 36 (p (t 33) (t 35) (k (y g))),
 (MA 24 36)]))) (c (t 24) (q (r 0 [CA 2 0,CA 3 0,CA 4 11]) .ret) (r 0 [MA 16 5,MA 17 8,UA 18 (b .and g (t 17) (k (.int .u8 127))),
 (UA 19 (.conv d .u64 (t 18))),MA 20 7,UA 21 (b .mul d (k (i j 7)) (t 20)),UA 22 (.shift .shl (t 19) (t 21)),UA 23 (b .or g (t 16) (t 22)),MA 5 23])))) (q (r 0 [MA 37 8,
 (UA 38 (b .lss g (t 37) (k (.int .u8 128))))]) (c (t 38) (q (r 0 [MA 39 7,UA 40 (b .add d (t 39) (k (i j 1))),MA 6 40]) (.exit 0)) .skip))))) (r 0 [UA 41 (b .add d (t 11) (k (i j 1))),
 (MA 11 41)])))
def c118:LCode:=(q (r 0 [CA 2 0,CA 3 0,CA 4 0]) (q (r 0 [UA 5 (m (k (.int .u64 0)))]) (q (r 0 [CA 6 0]) (q .skip (q (q (r 0 [MA 9 0,
 (UA 10 (n (t 9))),CA 11 0]) (z 0 (.loop c118l0))) (q (q (r 0 [MA 42 6,UA 43 (b .eql g (t 42) (k (i j 0)))]) (c (t 43) (q (r 0 [CA 2 0,CA 3 0,
 (CA 4 10)]) .ret) .skip)) (q (r 0 [MA 44 5,UA 45 (.shift .shr (t 44) (k (.int .u64 1))),UA 46 (.conv g .i64 (t 45)),MA 47 5,UA 48 (b .and g (t 47) (k (.int .u64 1))),
 (UA 49 (.conv g .i64 (t 48))),UA 50 (.neg (t 49)),UA 51 (b .xor g (t 46) (t 50)),MA 52 6,MA 2 51,MA 3 52,CA 4 0]) .ret)))))))
open Go Go.Fx Go.Proofs
theorem lw7:rlF Tryz.prog 7 c7=some (c7,[.cell 6 (some 3),.tmp 7],126):=by kernel_rfl
theorem lw25:rlF Tryz.prog 25 c25=some (c25,[.tmp 2],7):=by kernel_rfl
theorem lw26:rlF Tryz.prog 26 c26=some (c26,[.cell 4 (some 64),.tmp 5],47):=by kernel_rfl
theorem lw39:rlF Tryz.prog 39 c39=some (c39,[.tmp 4],22):=by kernel_rfl
theorem lw41:rlF Tryz.prog 41 c41=some (c41,[.tmp 3],8):=by kernel_rfl
theorem lw60:rlF Tryz.prog 60 c60=some (c60,[],19):=by kernel_rfl
theorem lw65:rlF Tryz.prog 65 c65=some (c65,[.cell 10 (some 16)],21):=by kernel_rfl
theorem lw96:rlF Tryz.prog 96 c96=some (c96,[.tmp 2],27):=by kernel_rfl
theorem lw97:rlF Tryz.prog 97 c97=some (c97,[.tmp 4,.tmp 5,.tmp 6],34):=by kernel_rfl
theorem lw109:rlF Tryz.prog 109 c109=some (c109,[.tmp 2],32):=by kernel_rfl
theorem lw117:rlF Tryz.prog 117 c117=some (c117,[.cell 4 (some 8)],116):=by kernel_rfl
theorem lw118:rlF Tryz.prog 118 c118=some (c118,[.tmp 2,.tmp 3,.tmp 4],53):=by kernel_rfl
end Go.Fx.K
namespace Go.Fx.K
open Go Go.Fx
open Go.Operand renaming tmp → t, const → k
open Go.Value renaming int → i, bool → y
open Go.IntKind renaming i64 → j
open Option renaming some → s, none → o
open Go.Fx.LOp renaming mov → m, load → l, fld → f, bin → b, idx → x, store → w, pick → p, len → n, box → u
open Go.Fx.LCode renaming seq → q, reg → r, cond → c, block → z
open Go.Fx.LPlan renaming take → v, alt → h
open Bool renaming false → g, true → d
end Go.Fx.K
