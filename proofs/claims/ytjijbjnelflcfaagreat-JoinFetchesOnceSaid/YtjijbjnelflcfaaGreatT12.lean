import Derived.Test.YtjijbjnelflcfaaGreatFxFrz
import Derived.Test.YtjijbjnelflcfaaGreatJCode
import Derived.Test.YtjijbjnelflcfaaGreatJLow
import Derived.Sort.Walk0
import Derived.Shelf.SlSortCmp.WholeK
import Derived.Shelf.SlSortCmp.NoneTotal
import Derived.Shelf.Sort.Plain
import Derived.Ground.Names2Prog
import Derived.Shelf.Slices.CompactI
import Derived.Shelf.Slices.In.SortNone
import Derived.Shelf.SlGeneric
import Derived.Shelf.SlLaysF0
import Derived.Ground.NamesProg
import Derived.Ground.SlsfProg
import Derived.Test.YtjijbjnelflcfaaGreatProg
import Derived.Lib.AppendZerosOnto
import Derived.Lib.SliceRun
import Derived.Lib.Walk
import Derived.Lib.SlicesCompact
set_option linter.unusedVariables false
set_option linter.unusedSimpArgs false
set_option linter.unusedSectionVars false
open List renaming take → yA, replicate → yB, take_of_length_le → yC, mem_cons → yE, mem_singleton → yF, mem_append → yG, length_append → yH, map_append → yJ, getElem?_eq_getElem → yM, map → yN, replicate_succ → yO, pairwise_cons → yP, length_cons → yQ, length_map → yS, take_add_one → yT, pairwise_iff_getElem → yV, getElem_mem → yW, cons_append → yY, append_nil → yZ, nil_append → vC, length_take → vD, getElem_of_mem → vE, length_eq_zero_iff → vF, getElem?_cons_zero → vG, foldl → vJ, map_nil → vK, foldl_cons → vL, mem_of_mem_take → vM, map_cons → vN, pairwise_append → vR, not_mem_nil → vS, flatMap_cons → vT, eq_nil_or_concat → vU, concat_eq_append → vV, mem_cons_of_mem → vW, take_append_drop → vX, length_filter_le → vY, mem_map → vZ, length_nil → uA, reverse_cons → uB, reverse_nil → uC, foldl_append → uE, mem_filter → uG, filter_eq_nil_iff → uH, mem_map_of_mem → uI, getElem?_eq_none → uJ, getElem?_append_right → uK, flatten_append → uL, getElem_toArray → uM, flatMap_append → uN
open Nat renaming zero_le → yD, le_refl → yI, lt_or_ge → yU, zero_add → yX, lt_of_lt_of_le → vI, mul_comm → vO, not_lt_zero → vQ, add_mul → uD
open Int renaming toNat → yK, natCast_zero → yL
open Bool renaming and_eq_true → vA, eq_iff_iff → uF
open Option.some renaming injEq → vB
open Array renaming getElem?_modify → vH, getElem?_append_left → vP
namespace Go.Fx
def rdK (x : V) (bn : List Nat) : List Nat :=
 match x with
 | .ptr k _ _ => k :: bn
 | _ => bn
def tupK (x : V) (K : List V → Prop) : Prop :=
 match x with
 | .tup vs => K vs
 | _ => False
def nilK (x : V) (K : V → Prop) : Prop :=
 match x with
 | .ptr k i f => K (.ptr k i f)
 | .clo f cs => K (.clo f cs)
 | _ => False
def cloK (x : V) (K : FuncId → List V → Prop) : Prop :=
 match x with
 | .clo g cs => K g cs
 | _ => False
def lookM (h : List Blk) (kd : TypeDesc) (key : Value) (z : Value) (ok : Bool) (m : V) (K : V → Prop) : Prop :=
 match m with
 | .v (.map none) => lookK (some none) z ok K
 | m => mapK h m fun _ es _ => lookK (mfind kd key es 0) z ok K
mutual
theorem kill_nil : ∀ x : V, kill [] x = x
 | .any => rfl
 | .v _ => rfl
 | .ro _ _ => rfl
 | .bro _ _ => rfl
 | .full _ _ => rfl
 | .rp _ _ _ _ => rfl
 | .sl _ _ _ => by simp [kill]
 | .ptr _ _ _ => by simp [kill]
 | .mp _ => by simp [kill]
 | .itr _ => by simp [kill]
 | .agg cs => by simp [kill, kills_nil cs]
 | .tup cs => by simp [kill, kills_nil cs]
 | .clo _ cs => by simp [kill, kills_nil cs]
theorem kills_nil : ∀ xs : List V, kills [] xs = xs
 | [] => rfl
 | x :: r => by simp [kills, kill_nil x, kills_nil r]
end
theorem killE_nil : ∀ e : Env, killE [] e = e
 | [] => rfl
 | (_, x) :: r => by simp [killE, kill_nil x, killE_nil r]
theorem killB_nil (l : List Blk) : l.map (killB []) = l := by
 have : killB [] = id := by
  funext b
  cases b <;> simp [killB, kills_nil, kill_nil, killE_nil, funext kills_nil]
 simp [this]
section
variable {cx : Cx} {e : Env} {h : List Blk} {b : Nat} {K : V → St → Prop} {Ks : St → Prop} {N R : St → Prop} {X : Nat → St → Prop} {d : Option Nat} {op : LOp}
theorem zu {d : Nat} {x : V} : St.put ⟨e, h, b⟩ (some d) x = ⟨(d, x) :: e, h, b⟩ := rfl
theorem zv {x : V} : St.put ⟨e, h, b⟩ none x = ⟨e, h, b⟩ := rfl
theorem qG : aOps cx [] ⟨e, h, b⟩ Ks = Ks ⟨e, h, b⟩ := rfl
theorem qH {r : List LOper} : aOps cx (⟨d, op, none⟩ :: r) ⟨e, h, b⟩ Ks = aOp cx op ⟨e, h, b⟩ fun x s' => aOps cx r (s'.put d x) Ks := rfl
theorem qI {g : Nat} {w : Bool} {r : List LOper} : aOps cx (⟨d, op, some (g, w)⟩ :: r) ⟨e, h, b⟩ Ks = guardP (get e g) w
   (aOp cx op ⟨(g, .b w) :: e, h, b⟩ fun x s' => aOps cx r (s'.put d x) Ks)
   (aOps cx r (St.put ⟨(g, .b !w) :: e, h, b⟩ d (.v (.tuple #[]))) Ks)
   (aOps cx r (St.put ⟨e, h, b⟩ d (.v (.tuple #[]))) Ks) := rfl
theorem qa {x : Operand} {bn : List Nat} : rdB (.mov x) e bn = bn := rfl
theorem qJ {x : Operand} : aOp cx (.mov x) ⟨e, h, b⟩ K = K (ev e x) ⟨e, h, b⟩ := rfl
theorem qb {c x y : Operand} {bn : List Nat} : rdB (.pick c x y) e bn = bn := rfl
theorem qK {c x y : Operand} : aOp cx (.pick c x y) ⟨e, h, b⟩ K = brV (ev e c) (K (ev e x) ⟨e, h, b⟩) (K (ev e y) ⟨e, h, b⟩) := rfl
theorem qL {j : Nat} {x : Operand} : aOp cx (.box j x) ⟨e, h, b⟩ K = optK (cells? (ev e x)) fun cs => freshP h (b + j) ∧ K (.ptr (b + j) 0 0) ⟨e, h.set (b + j) (.var cs), b⟩ := rfl
theorem qM {j : Nat} {z : Value} : aOp cx (.alloc j z) ⟨e, h, b⟩ K = optK (cells? (ofConst z)) fun cs => freshP h (b + j) ∧ K (.ptr (b + j) 0 0) ⟨e, h.set (b + j) (.var cs), b⟩ := rfl
theorem qN {n : Option Nat} {x : Operand} : aOp cx (.load n x) ⟨e, h, b⟩ K = loadP h n (ev e x) fun y => K y ⟨e, h, b⟩ := rfl
theorem qO {n : Nat} {x y : Operand} : aOp cx (.store n x y) ⟨e, h, b⟩ K = optK (cells? (ev e y)) fun cs => storeP cx.bn h n (ev e x) cs fun h => K (.v (.tuple #[])) ⟨e, h, b⟩ := rfl
theorem qc {n : Nat} {x : Operand} {bn : List Nat} : rdB (.fld n x) e bn = bn := rfl
theorem qP {n : Nat} {x : Operand} : aOp cx (.fld n x) ⟨e, h, b⟩ K = fldP n (ev e x) fun y => K y ⟨e, h, b⟩ := rfl
theorem qd {n : Nat} {x i : Operand} {bn : List Nat} : rdB (.idx n x i) e bn = bn := rfl
theorem qQ {n : Nat} {x i : Operand} : aOp cx (.idx n x i) ⟨e, h, b⟩ K = intK (ev e i) fun _ m => idxP h n m (ev e x) fun y => K y ⟨e, h, b⟩ := rfl
theorem qe {o : BinOp} {ex : Bool} {x y : Operand} {bn : List Nat} : rdB (.bin o ex x y) e bn = bn := rfl
theorem qR {o : BinOp} {ex : Bool} {x y : Operand} : aOp cx (.bin o ex x y) ⟨e, h, b⟩ K = intK (ev e x) fun k a => intK (ev e y) fun k' c => k' = k ∧ binInt o ex k a c fun z => K z ⟨e, h, b⟩ := rfl
theorem qf {x : Operand} {bn : List Nat} : rdB (.len x) e bn = bn := rfl
theorem qS {x : Operand} : aOp cx (.len x) ⟨e, h, b⟩ K = lenP (ev e x) fun y => K y ⟨e, h, b⟩ := rfl
theorem qT {x : Operand} : aOp cx (.lens x) ⟨e, h, b⟩ K = lensP (ev e x) fun y => K y ⟨e, h, b⟩ := rfl
theorem qg {x : Operand} {bn : List Nat} : rdB (.not x) e bn = bn := rfl
theorem qU {x : Operand} : aOp cx (.not x) ⟨e, h, b⟩ K = boolK (ev e x) fun t => K (.b (!t)) ⟨e, h, b⟩ := rfl
theorem qV {ex : Bool} {k : IntKind} {x : Operand} : aOp cx (.conv ex k x) ⟨e, h, b⟩ K = intK (ev e x) fun _ a => if ex then (lo k ≤ a ∧ a ≤ hi k) ∧ K (.v (.int k a)) ⟨e, h, b⟩ else K (.v (.int k (k.wrap a))) ⟨e, h, b⟩ := rfl
theorem qh {mx : Bool} {x y : Operand} {bn : List Nat} : rdB (.minmax mx x y) e bn = bn := rfl
theorem qW {mx : Bool} {x y : Operand} : aOp cx (.minmax mx x y) ⟨e, h, b⟩ K = intK (ev e x) fun k a => intK (ev e y) fun k' c => k' = k ∧ K (.v (.int k (if mx then max a c else min a c))) ⟨e, h, b⟩ := rfl
theorem qX {f : FuncId} {cs : List Operand} : aOp cx (.fn f cs) ⟨e, h, b⟩ K = K (.clo f (cs.map (ev e))) ⟨e, h, b⟩ := rfl
theorem qi {z : Nat} {x : Operand} {l u m : Option Operand} {bn : List Nat} : rdB (.slice z x l u m) e bn = bn := rfl
theorem qY {z : Nat} {x : Operand} {l u m : Option Operand} : aOp cx (.slice z x l u m) ⟨e, h, b⟩ K = optI (l.map (ev e)) fun l => optI (u.map (ev e)) fun u => optI (m.map (ev e)) fun m => slcP h z (ev e x) l u m fun y => K y ⟨e, h, b⟩ := rfl
theorem qj {z : List Value} {ps : List (Nat × Nat × Operand)} {bn : List Nat} : rdB (.build z ps) e bn = bn := rfl
theorem qZ {z : List Value} {ps : List (Nat × Nat × Operand)} : aOp cx (.build z ps) ⟨e, h, b⟩ K = buildP e (z.map .v) ps fun y => K y ⟨e, h, b⟩ := rfl
theorem za {neg : Bool} {x y : Operand} : aOp cx (.eqb neg x y) ⟨e, h, b⟩ K = boolK (ev e x) fun a => boolK (ev e y) fun c => K (.b (if neg then a != c else a == c)) ⟨e, h, b⟩ := rfl
theorem zb {neg : Bool} {ks : List (Nat × TypeDesc)} {x y : Operand} : aOp cx (.eqf neg ks x y) ⟨e, h, b⟩ K = optK (aggC (ev e x)) fun xs => optK (aggC (ev e y)) fun ys => eqFs xs ys ks fun t => K (.b (if neg then !t else t)) ⟨e, h, b⟩ := rfl
theorem zc {o : BinOp} {x y : Operand} : aOp cx (.shift o x y) ⟨e, h, b⟩ K = intK (ev e x) fun k a => intK (ev e y) fun _ c => shiftInt o k a c fun z => K z ⟨e, h, b⟩ := rfl
theorem zd {neg : Bool} {x : Operand} {v : Value} : aOp cx (.eqn neg x (.const v)) ⟨e, h, b⟩ K = match ofConst v with | .v _ => eqnP (ev e x) fun t => K (.b (if neg then !t else t)) ⟨e, h, b⟩ | _ => False := rfl
theorem ze {j sz n : Nat} {z : List Value} {ps : List (Nat × Operand)} : aOp cx (.lits j sz n z ps) ⟨e, h, b⟩ K = litsP e sz (yB n (z.map .v)) ps fun els => freshP h (b + j) ∧ K (.sl (b + j) 0 n) ⟨e, h.set (b + j) (.arr sz els), b⟩ := rfl
theorem zf {j sz bytes : Nat} {x y : Operand} : aOp cx (.append j sz bytes x y) ⟨e, h, b⟩ K = viewK h (ev e y) fun sz' new => (new = [] ∨ sz' = sz) ∧ appP cx.fx cx.bn (b + j) sz bytes ⟨e, h, b⟩ (ev e x) new K := rfl
theorem zg {kd : TypeDesc} {m k x : Operand} : aOp cx (.mset kd m k x) ⟨e, h, b⟩ K = keyK kd (ev e k) fun key => mapK h (ev e m) fun c es t => c ∉ cx.bn ∧ msetK (mfind kd key es 0) key (ev e x) es t fun B => K (.v (.tuple #[])) ⟨e, h.set c B, b⟩ := rfl
theorem zh {j : Nat} : aOp cx (.mkmap j none) ⟨e, h, b⟩ K = (True ∧ freshP h (b + j) ∧ K (.mp (b + j)) ⟨e, h.set (b + j) (.map [] 0), b⟩) := rfl
theorem zi {kd : TypeDesc} {z : Value} {ok : Bool} {m k : Operand} : aOp cx (.lookup kd z ok m k) ⟨e, h, b⟩ K = keyK kd (ev e k) fun key => lookM h kd key z ok (ev e m) fun x => K x ⟨e, h, b⟩ := rfl
theorem qk {n sz : Nat} {x i : Operand} {bn : List Nat} : rdB (.prim (.pidx n sz) [x, i]) e bn = bn := rfl
theorem zj {n sz : Nat} {x i : Operand} : aOp cx (.prim (.pidx n sz) [x, i]) ⟨e, h, b⟩ K = intK (ev e i) fun _ j => (0 ≤ j ∧ j < n) ∧ fldP (j.toNat * sz) (ev e x) fun y => K y ⟨e, h, b⟩ := rfl
theorem zk {neg : Bool} {ks : List (Nat × TypeDesc)} {x y : Operand} : aOp cx (.prim (.aeq neg ks) [x, y]) ⟨e, h, b⟩ K = optK (aggC (ev e x)) fun xs => optK (aggC (ev e y)) fun ys => eqFs xs ys ks fun t => K (.b (if neg then !t else t)) ⟨e, h, b⟩ := rfl
theorem zl {x i : Operand} : aOp cx (.prim .sidx [x, i]) ⟨e, h, b⟩ K = strK (ev e x) fun t => intK (ev e i) fun _ j => 0 ≤ j ∧ optK t[j.toNat]? fun c => K (.v (.int .u8 c.toNat)) ⟨e, h, b⟩ := rfl
theorem ql {o : BinOp} {x y : Operand} {bn : List Nat} : rdB (.prim (.sbin o) [x, y]) e bn = bn := rfl
theorem zm {o : BinOp} {x y : Operand} : aOp cx (.prim (.sbin o) [x, y]) ⟨e, h, b⟩ K = strK (ev e x) fun t => strK (ev e y) fun u => sbinP o t u fun y => K y ⟨e, h, b⟩ := rfl
theorem zn {sz j : Nat} {z : List Value} {x : Operand} : aOp cx (.eff (.clr sz z) j [x]) ⟨e, h, b⟩ K = clrP cx.bn sz z (ev e x) ⟨e, h, b⟩ K := rfl
theorem zo {j : Nat} {x : Operand} : aOp cx (.eff .b2s j [x]) ⟨e, h, b⟩ K = viewK h (ev e x) fun sz els => (els = [] ∨ sz = 1) ∧ optK (bytesOf els) fun l => K (.v (.string ⟨l.toArray⟩)) ⟨e, h, b⟩ := rfl
theorem zp {f : FuncId} {xs : List Operand} : aOp cx (.call f xs) ⟨e, h, b⟩ K = callP cx f (xs.map (ev e)) ⟨e, h, b⟩ K := rfl
theorem qm {x : Operand} {i : Nat} {bn : List Nat} : rdB (.ext x i) e bn = bn := rfl
theorem qn {x : Operand} {bn : List Nat} : rdB (.nilc x) e bn = bn := rfl
theorem qo {n : Option Nat} {x : Operand} {bn : List Nat} : rdB (.load n x) e bn = rdK (ev e x) bn := by
 show (match ev e x with | .ptr k _ _ => k :: bn | _ => bn) = _
 unfold rdK
 cases ev e x <;> rfl
theorem zq {x : Operand} {i : Nat} : aOp cx (.ext x i) ⟨e, h, b⟩ K = tupK (ev e x) fun vs => optK vs[i]? fun y => K y ⟨e, h, b⟩ := by
 simp only [aOp, tupK]; split <;> simp_all
theorem zr {x : Operand} : aOp cx (.nilc x) ⟨e, h, b⟩ K = nilK (ev e x) fun y => K y ⟨e, h, b⟩ := by
 simp only [aOp, nilK]; split <;> simp_all
theorem zt {f : Operand} {xs : List Operand} : aOp cx (.callv f xs) ⟨e, h, b⟩ K = cloK (ev e f) fun g cs => callP cx g (xs.map (ev e) ++ cs) ⟨e, h, b⟩ K := by
 simp only [aOp, cloK]; split <;> simp_all
theorem qw : aw cx .skip N X R ⟨e, h, b⟩ = N ⟨e, h, b⟩ := rfl
theorem qx {n : Nat} {l : List LOper} : aw cx (.reg n l) N X R ⟨e, h, b⟩ = aOps cx l ⟨e, h ++ yB n .dead, h.length⟩ N := rfl
theorem qy {m n : Nat} {l : List LOper} : aw cx (.tail m n l) N X R ⟨e, h, b⟩ = aOps cx l ⟨e, h ++ yB n .dead, h.length⟩ N := rfl
theorem qz {n : Nat} {l : List LOper} : aw cx (.qui n l) N X R ⟨e, h, b⟩ = aOps cx l ⟨e, h ++ yB n .dead, h.length⟩ N := rfl
theorem qp {n : Nat} {p : LPlan} : aw cx (.tree n p) N X R ⟨e, h, b⟩ = awP cx p [] N ⟨e, h ++ yB n .dead, h.length⟩ := rfl
theorem qq {bn : List Nat} : awP cx .done bn Ks ⟨e, h, b⟩ = Ks ⟨e, h, b⟩ := rfl
theorem qr {bn : List Nat} : awP cx .none bn Ks ⟨e, h, b⟩ = True := rfl
theorem qs {i : Nat} {D bn : List Nat} {p : LPlan} : awP cx (.take i D ⟨d, op, none⟩ p) bn Ks ⟨e, h, b⟩ = aOp cx op ⟨e, h, b⟩ fun x s' => awP cx p (rdB op e bn) Ks (s'.put d x) := rfl
theorem qt {i g : Nat} {w : Bool} {D bn : List Nat} {p : LPlan} : awP cx (.take i D ⟨d, op, some (g, w)⟩ p) bn Ks ⟨e, h, b⟩ = guardP (get e g) w
   (aOp cx op ⟨(g, .b w) :: e, h, b⟩ fun x s' => awP cx p (rdB op e bn) Ks (s'.put d x))
   (awP cx p (rdB op e bn) Ks (St.put ⟨(g, .b !w) :: e, h, b⟩ d (.v (.tuple #[]))))
   (awP cx p (rdB op e bn) Ks (St.put ⟨e, h, b⟩ d (.v (.tuple #[])))) := rfl
theorem qu {i : Nat} {r : Bool} {bn : List Nat} {p q : LPlan} : awP cx (.alt i ⟨d, op, none⟩ r p q) bn Ks ⟨e, h, b⟩ =
   ((aOp ⟨cx.C, cx.fx, if r then bn else [], cx.it, cx.y, cx.rk⟩ op ⟨e, h, b⟩ fun x s' => awP cx p (if r then bn else []) Ks (s'.put d x)) ∧ awP cx q bn Ks ⟨e, h, b⟩) := rfl
theorem qv {i g : Nat} {w r : Bool} {bn : List Nat} {p q : LPlan} : awP cx (.alt i ⟨d, op, some (g, w)⟩ r p q) bn Ks ⟨e, h, b⟩ =
   ((guardP (get e g) w
     (aOp ⟨cx.C, cx.fx, if r then bn else [], cx.it, cx.y, cx.rk⟩ op ⟨(g, .b w) :: e, h, b⟩ fun x s' => awP cx p (if r then bn else []) Ks (s'.put d x))
     (awP cx p (if r then bn else []) Ks (St.put ⟨(g, .b !w) :: e, h, b⟩ d (.v (.tuple #[]))))
     (awP cx p (if r then bn else []) Ks (St.put ⟨e, h, b⟩ d (.v (.tuple #[]))))) ∧ awP cx q bn Ks ⟨e, h, b⟩) := rfl
theorem qA {x y : LCode} : aw cx (.seq x y) N X R ⟨e, h, b⟩ = aw cx x (fun s' => aw cx y N X R s') X R ⟨e, h, b⟩ := rfl
theorem qB {c : Operand} {x y : LCode} : aw cx (.cond c x y) N X R ⟨e, h, b⟩ = brV (ev e c) (aw cx x N X R ⟨e, h, b⟩) (aw cx y N X R ⟨e, h, b⟩) := rfl
theorem qC {i : Nat} {x : LCode} : aw cx (.block i x) N X R ⟨e, h, b⟩ = aw cx x N (fun j s' => if j = i then N s' else X j s') R ⟨e, h, b⟩ := rfl
theorem qD {x : LCode} : aw cx (.loop x) N X R ⟨e, h, b⟩ = loopP cx.fx (fun N => aw cx x N X R) ⟨e, h, b⟩ := rfl
theorem qE {i : Nat} : aw cx (.exit i) N X R ⟨e, h, b⟩ = X i ⟨e, h, b⟩ := rfl
theorem qF : aw cx .ret N X R ⟨e, h, b⟩ = R ⟨e, h, b⟩ := rfl
theorem zE {A B : Prop} : br true A B = A := by simp [br]
theorem zF {A B : Prop} : br false A B = B := by simp [br]
theorem zD {t : Bool} {A B : Prop} : brV (.v (.bool t)) A B = br t A B := rfl
theorem zG {t : Bool} {w : Bool} {A B C : Prop} : guardP (.v (.bool t)) w A B C = if w then br t A B else br t B A := rfl
theorem zH {w : Bool} {A B C : Prop} : guardP (.v (.tuple #[])) w A B C = C := rfl
theorem zB {k : IntKind} {a : Int} {K : IntKind → Int → Prop} : intK (.v (.int k a)) K = K k a := rfl
theorem zC {a : Bool} {K : Bool → Prop} : boolK (.v (.bool a)) K = K a := rfl
theorem retP_eq {fx : List Nat} {n : Nat} {rs : List LRes} {R : V → List Blk → Prop} : retP fx n rs R ⟨e, h, b⟩ = resP h e rs [] fun xs => ∃ p, (leH h p ∧ keepP fx p ∧ n ≤ p.length ∧ wfV p (tupV xs) ∧ wfB p p) ∧ R (tupV xs) p := rfl
theorem zJ {fx : List Nat} {p : Env} {q : List Blk} {b' : Nat} : leS fx ⟨e, h, b⟩ ⟨p, q, b'⟩ = (leE e p ∧ leH h q ∧ keepP fx q ∧ wfE q p ∧ wfB q q) := rfl
end
section
variable {cx : Cx} {h : List Blk} {e : Env} {s : St} {fx bn : List Nat}
def Is (x : V) : V → List Blk → Prop := fun r h => r = x ∧ h = []
theorem zI {e : Env} {h : List Blk} {b : Nat} {rs : List LRes} {x : V} : retP [] 0 rs (Is x) ⟨e, h, b⟩ = resP h e rs [] fun xs => wfV [] (tupV xs) ∧ tupV xs = x := by
 unfold retP Is
 simp only
 congr 1
 funext xs
 apply propext
 constructor
 ·rintro ⟨p, ⟨_, _, _, h4, _⟩, h5, rfl⟩
  exact ⟨h4, h5⟩
 ·rintro ⟨h4, h5⟩
  exact ⟨[], ⟨by unfold leH; trivial, trivial, yI _, h4, trivial⟩, h5, rfl⟩
theorem zw {t : Nat} : ev e (.tmp t) = get e t := rfl
theorem zx {c : Value} : ev e (.const c) = ofConst c := rfl
theorem zy {f : FuncId} : ev e (.func f) = .clo f [] := rfl
theorem zz {j i : Nat} {x : V} {r : Env} : get ((j, x) :: r) i = if i = j then x else get r i := rfl
theorem zA {k : Nat} : blk h k = h.getD k .dead := rfl
@[congr] theorem c_optK {α : Type} {o o' : Option α} {K : α → Prop} (q : o = o') : optK o K = optK o' K := by rw [q]
@[congr] theorem c_intK {x x' : V} {K : IntKind → Int → Prop} (q : x = x') : intK x K = intK x' K := by rw [q]
@[congr] theorem c_boolK {x x' : V} {K : Bool → Prop} (q : x = x') : boolK x K = boolK x' K := by rw [q]
@[congr] theorem c_brV {x x' : V} {A B : Prop} (q : x = x') : brV x A B = brV x' A B := by rw [q]
@[congr] theorem c_guardP {x x' : V} {w : Bool} {A B C : Prop} (q : x = x') : guardP x w A B C = guardP x' w A B C := by rw [q]
@[congr] theorem c_loadP {n : Option Nat} {p p' : V} {K : V → Prop} (q : p = p') : loadP h n p K = loadP h n p' K := by rw [q]
@[congr] theorem c_loadB {n : Option Nat} {i f : Nat} {b b' : Blk} {K : V → Prop} (q : b = b') : loadB n i f b K = loadB n i f b' K := by rw [q]
@[congr] theorem c_loadCs {n : Option Nat} {f : Nat} {cs cs' : List V} {K : V → Prop} (q : cs = cs') : loadCs n f cs K = loadCs n f cs' K := by rw [q]
@[congr] theorem c_storeP {n : Nat} {p p' : V} {cs cs' : List V} {K : List Blk → Prop} (q : p = p') (q2 : cs = cs') : storeP bn h n p cs K = storeP bn h n p' cs' K := by rw [q, q2]
@[congr] theorem c_storeB {n i f : Nat} {cs : List V} {b b' : Blk} {K : Blk → Prop} (q : b = b') : storeB n i f cs b K = storeB n i f cs b' K := by rw [q]
@[congr] theorem c_fldP {n : Nat} {x x' : V} {K : V → Prop} (q : x = x') : fldP n x K = fldP n x' K := by rw [q]
@[congr] theorem c_idxP {z : Nat} {n n' : Int} {x x' : V} {K : V → Prop} (q : x = x') (q2 : n = n') : idxP h z n x K = idxP h z n' x' K := by rw [q, q2]
@[congr] theorem c_lenP {x x' : V} {K : V → Prop} (q : x = x') : lenP x K = lenP x' K := by rw [q]
@[congr] theorem c_lensP {x x' : V} {K : V → Prop} (q : x = x') : lensP x K = lensP x' K := by rw [q]
@[congr] theorem c_viewK {x x' : V} {K : Nat → List (List V) → Prop} (q : x = x') : viewK h x K = viewK h x' K := by rw [q]
@[congr] theorem c_optI {x x' : Option V} {K : Option Int → Prop} (q : x = x') : optI x K = optI x' K := by rw [q]
@[congr] theorem c_slcP {z : Nat} {x x' : V} {l u m : Option Int} {K : V → Prop} (q : x = x') : slcP h z x l u m K = slcP h z x' l u m K := by rw [q]
@[congr] theorem c_buildP {acc acc' : List V} {ps : List (Nat × Nat × Operand)} {K : V → Prop} (q : acc = acc') : buildP e acc ps K = buildP e acc' ps K := by rw [q]
@[congr] theorem c_litsP {sz : Nat} {acc acc' : List (List V)} {ps : List (Nat × Operand)} {K : List (List V) → Prop} (q : acc = acc') : litsP e sz acc ps K = litsP e sz acc' ps K := by rw [q]
@[congr] theorem c_eqnP {x x' : V} {K : Bool → Prop} (q : x = x') : eqnP x K = eqnP x' K := by rw [q]
@[congr] theorem c_appP {id sz bytes : Nat} {x x' : V} {new new' : List (List V)} {K : V → St → Prop} (q : x = x') (q2 : new = new') : appP fx bn id sz bytes s x new K = appP fx bn id sz bytes s x' new' K := by rw [q, q2]
@[congr] theorem c_appB {k i n sz bytes : Nat} {new : List (List V)} {b b' : Blk} {K : V → St → Prop} (q : b = b') : appB fx bn k i n sz bytes s new b K = appB fx bn k i n sz bytes s new b' K := by rw [q]
@[congr] theorem c_appNew {id sz bytes : Nat} {old old' new : List (List V)} {K : V → St → Prop} (q : old = old') : appNew id sz bytes s old new K = appNew id sz bytes s old' new K := by rw [q]
@[congr] theorem c_copyP {sz : Nat} {x x' : V} {new : List (List V)} {K : V → St → Prop} (q : x = x') : copyP bn sz s x new K = copyP bn sz s x' new K := by rw [q]
@[congr] theorem c_tupK {x x' : V} {K : List V → Prop} (q : x = x') : tupK x K = tupK x' K := by rw [q]
@[congr] theorem c_nilK {x x' : V} {K : V → Prop} (q : x = x') : nilK x K = nilK x' K := by rw [q]
@[congr] theorem c_cloK {x x' : V} {K : FuncId → List V → Prop} (q : x = x') : cloK x K = cloK x' K := by rw [q]
@[congr] theorem c_aggK {x x' : V} {K : List V → Prop} (q : x = x') : aggK x K = aggK x' K := by rw [q]
@[congr] theorem c_callP {f : FuncId} {xs xs' : List V} {s s' : St} {K : V → St → Prop} (q : xs = xs') (q2 : s = s') : callP cx f xs s K = callP cx f xs' s' K := by rw [q, q2]
@[congr] theorem c_binInt {op : BinOp} {ex : Bool} {k : IntKind} {a a' b b' : Int} {K : V → Prop} (q : a = a') (q2 : b = b') : binInt op ex k a b K = binInt op ex k a' b' K := by rw [q, q2]
@[congr] theorem c_eqFs {xs xs' ys ys' : List V} {ks : List (Nat × TypeDesc)} {K : Bool → Prop} (q : xs = xs') (q2 : ys = ys') : eqFs xs ys ks K = eqFs xs' ys' ks K := by rw [q, q2]
@[congr] theorem c_eqC {kd : TypeDesc} {x x' y y' : Option V} {K : Bool → Prop} (q : x = x') (q2 : y = y') : eqC kd x y K = eqC kd x' y' K := by rw [q, q2]
@[congr] theorem c_resP {ls : List LRes} {acc acc' : List V} {K : List V → Prop} (q : acc = acc') : resP h e ls acc K = resP h e ls acc' K := by rw [q]
@[congr] theorem c_awP {p : LPlan} {s s' : St} {Ks : St → Prop} (q : s = s') : awP cx p bn Ks s = awP cx p bn Ks s' := by rw [q]
@[congr] theorem c_aOps {l : List LOper} {s s' : St} {Ks : St → Prop} (q : s = s') : aOps cx l s Ks = aOps cx l s' Ks := by rw [q]
@[congr] theorem c_aw {c : LCode} {s s' : St} {N R : St → Prop} {X : Nat → St → Prop} (q : s = s') : aw cx c N X R s = aw cx c N X R s' := by rw [q]
@[congr] theorem c_aOp {o : LOp} {s s' : St} {K : V → St → Prop} (q : s = s') : aOp cx o s K = aOp cx o s' K := by rw [q]
end
theorem loopP_intro {fx : List Nat} {f : (St → Prop) → St → Prop} {s : St} {G : Type} (pat : G → St) (I : G → Prop) (μ : G → Nat) (g : G) (h0 : I g) (h1 : leS fx s (pat g))
  (h : ∀ g, I g → f (fun s' => ∃ g', (I g' ∧ μ g' < μ g) ∧ leS fx s' (pat g')) (pat g)) : loopP fx f s :=
 ⟨G, pat, I, μ, leS fx, fun a _ h => ⟨a, .refl a, h⟩, ⟨g, h0, _, .refl s, h1⟩, h⟩
theorem loopP_ghost {fx : List Nat} {f : (St → Prop) → St → Prop} {s s0 : St} {G : Type} (hg : Ghost fx s s0) (pat : G → St) (I : G → Prop) (μ : G → Nat) (g : G) (h0 : I g) (h1 : leS fx s0 (pat g))
  (h : ∀ g, I g → f (fun s' => ∃ g', (I g' ∧ μ g' < μ g) ∧ leS fx s' (pat g')) (pat g)) : loopP fx f s :=
 ⟨G, pat, I, μ, leS fx, fun a _ h => ⟨a, .refl a, h⟩, ⟨g, h0, s0, hg, h1⟩, h⟩
theorem callP_pure {cx : Cx} {f : FuncId} {args : List V} {e : Env} {h : List Blk} {b : Nat} {K : V → St → Prop} (zas : List V) (R : V → List Blk → Prop) (h1 : lendsOk h (fun _ => none) args ∧ wkL zas (lends h (fun _ => none) args)) (h2 : cx.C f zas [] [] R)
  (h3 : ∀ r h', R r h' → keepP cx.fx (h ++ h'.map (renB (fun j => some (h.length + j)))) ∧ K (ren (fun j => some (h.length + j)) r) ⟨e, h ++ h'.map (renB (fun j => some (h.length + j))), b⟩) : callP cx f args ⟨e, h, b⟩ K := by
 have hp : pos [] = fun _ => none := rfl
 have hb : back [] h.length = fun j => some (h.length + j) := by funext j; simp [back]
 have hk : ∀ l : List Blk, l.map (killB []) = l := killB_nil
 refine ⟨[], zas, [], R, ⟨⟨List.nodup_nil, by simp⟩, by simp⟩, ?_, ?_, by simpa using h2, ?_⟩
 ·rw [hp]; exact h1.1
 ·rw [hp]; exact h1.2
 ·intro r h' hR _
  have := h3 r h' hR
  simp only [hb, setAll, List.filterMap_nil, hk, killE_nil]
  exact this
section
variable {h : List Blk} {e : Env} {s : St} {fx bn : List Nat} {b : Nat}
def viewB (b : Blk) (i n : Nat) (K : Nat → List (List V) → Prop) : Prop :=
 match b with
 | .arr sz els => i + n ≤ els.length ∧ K sz ((els.drop i).take n)
 | .var cs => (i + n ≤ cs.length ∧ ((cs.drop i).take n).all isD = true) ∧ K 1 (((cs.drop i).take n).map fun c => [c])
 | _ => False
theorem ki {α : Type} {x : α} {K : α → Prop} : optK (some x) K = K x := rfl
theorem kj {n : Option Nat} {k i f : Nat} {K : V → Prop} : loadP h n (.ptr k i f) K = loadB n i f (blk h k) K := rfl
theorem kn {n : Option Nat} {z i f : Nat} {els : List (List V)} {K : V → Prop} : loadP h n (.rp z els i f) K = ∃ hi : i < els.length, loadCs n f (els[i]'hi) K := rfl
theorem ko {n : Option Nat} {f : Nat} {cs : List V} {K : V → Prop} : loadB n 0 f (.var cs) K = loadCs n f cs K := by
 show loadCs n (0 + f) cs K = _
 rw [yX]
theorem kq {n : Option Nat} {i : Nat} {cs : List V} {K : V → Prop} : loadB n i 0 (.var cs) K = loadCs n i cs K := rfl
theorem kr {n : Option Nat} {i f z : Nat} {els : List (List V)} {K : V → Prop} : loadB n i f (.arr z els) K = ∃ hi : i < els.length, loadCs n f (els[i]'hi) K := rfl
theorem kv {n : Option Nat} {i f z : Nat} {els : List (List V)} {K : V → Prop} : loadB n i f (.arv z els) K = ∃ hi : i < els.length, loadCs n f (els[i]'hi) K := rfl
theorem kw {f : Nat} {cs : List V} {K : V → Prop} : loadCs none f cs K = optK cs[f]? K := rfl
theorem kx {m f : Nat} {cs : List V} {K : V → Prop} : loadCs (some m) f cs K = (f + m ≤ cs.length ∧ K (.agg ((cs.drop f).take m))) := rfl
theorem ky {n k i f : Nat} {cs : List V} {K : List Blk → Prop} : storeP bn h n (.ptr k i f) cs K = ((cs.length = n ∧ k ∉ bn) ∧ cs.all isC = true ∧ storeB n i f cs (blk h k) fun b => K (h.set k b)) := rfl
theorem kz {n f : Nat} {cs old : List V} {K : Blk → Prop} : storeB n 0 f cs (.var old) K = ((f + n ≤ old.length) ∧ K (.var (splice old f cs))) := by
 show ((0 + f + n ≤ old.length) ∧ K (.var (splice old (0 + f) cs))) = _
 rw [yX]
theorem kC {n i : Nat} {cs old : List V} {K : Blk → Prop} : storeB n i 0 cs (.var old) K = ((i + n ≤ old.length) ∧ K (.var (splice old i cs))) := rfl
theorem kD {n i f z : Nat} {cs : List V} {els : List (List V)} {K : Blk → Prop} : storeB n i f cs (.arr z els) K = ((f + n ≤ z ∧ cs.all isD = true) ∧ ∃ hi : i < els.length, K (.arr z (els.set i (splice (els[i]'hi) f cs)))) := rfl
theorem kF {n i f z : Nat} {cs : List V} {els : List (List V)} {K : Blk → Prop} : storeB n i f cs (.arv z els) K = ((f + n ≤ z) ∧ ∃ hi : i < els.length, K (.arv z (els.set i (splice (els[i]'hi) f cs)))) := rfl
theorem kG {o k i f : Nat} {K : V → Prop} : fldP o (.ptr k i f) K = K (.ptr k i (f + o)) := rfl
theorem kH {o z i f : Nat} {els : List (List V)} {K : V → Prop} : fldP o (.rp z els i f) K = K (.rp z els i (f + o)) := rfl
theorem kI {z k i m : Nat} {n : Int} {K : V → Prop} : idxP h z n (.sl k i m) K = (arrSz z (blk h k) ∧ (0 ≤ n ∧ n < m) ∧ K (.ptr k (i + n.toNat) 0)) := rfl
theorem kJ {z y : Nat} {els : List (List V)} {n : Int} {K : V → Prop} : idxP h z n (.ro y els) K = (y = z ∧ (0 ≤ n ∧ n < els.length) ∧ K (.rp y els n.toNat 0)) := rfl
theorem kK {z y : Nat} {els : List (List V)} {n : Int} {K : V → Prop} : idxP h z n (.bro y els) K = (y = z ∧ (0 ≤ n ∧ n < els.length) ∧ K (.rp y els n.toNat 0)) := rfl
theorem kL {k i n : Nat} {K : V → Prop} : lenP (.sl k i n) K = (n ≤ maxLen → K (.i n)) := rfl
theorem kM {y : Nat} {els : List (List V)} {K : V → Prop} : lenP (.ro y els) K = (els.length ≤ maxLen → K (.i els.length)) := rfl
theorem kN {y : Nat} {els : List (List V)} {K : V → Prop} : lenP (.bro y els) K = (els.length ≤ maxLen → K (.i els.length)) := rfl
theorem kO {t : ByteArray} {K : V → Prop} : lensP (.v (.string t)) K = K (.i t.size) := rfl
theorem kP {vs : List V} {K : List V → Prop} : tupK (.tup vs) K = K vs := rfl
theorem kQ {k i f : Nat} {K : V → Prop} : nilK (.ptr k i f) K = K (.ptr k i f) := rfl
theorem kR {f : FuncId} {cs : List V} {K : FuncId → List V → Prop} : cloK (.clo f cs) K = K f cs := rfl
theorem kS {k i n : Nat} {K : Nat → List (List V) → Prop} : viewK h (.sl k i n) K = viewB (blk h k) i n K := rfl
theorem kT {i n z : Nat} {els : List (List V)} {K : Nat → List (List V) → Prop} : viewB (.arr z els) i n K = (i + n ≤ els.length ∧ K z ((els.drop i).take n)) := rfl
theorem kU {z : Nat} {els : List (List V)} {K : Nat → List (List V) → Prop} : viewK h (.ro z els) K = K z els := rfl
theorem kV {z : Nat} {els : List (List V)} {K : Nat → List (List V) → Prop} : viewK h (.bro z els) K = K z els := rfl
theorem kW {K : Option Int → Prop} : optI none K = K none := rfl
theorem kX {k : IntKind} {n : Int} {K : Option Int → Prop} : optI (some (.v (.int k n))) K = K (some n) := rfl
theorem kY {z k i n : Nat} {l u m : Option Int} {K : V → Prop} : slcP h z (.sl k i n) l u m K = (arrSz z (blk h k) ∧ slcOk n l u m ∧ K (.sl k (i + (l.getD 0).toNat) ((u.getD n).toNat - (l.getD 0).toNat))) := rfl
theorem kZ {z y : Nat} {els : List (List V)} {l u : Option Int} {K : V → Prop} : slcP h z (.ro y els) l u none K = (y = z ∧ slcOk els.length l u none ∧ K (.ro y ((els.drop (l.getD 0).toNat).take ((u.getD els.length).toNat - (l.getD 0).toNat)))) := rfl
theorem wa {z : Nat} {els : List (List V)} {K : Bool → Prop} : eqnP (.ro z els) K = ((els ≠ [] → K false) ∧ (els = [] → K true ∧ K false)) := rfl
theorem wb {z : Nat} {els : List (List V)} {K : Bool → Prop} : eqnP (.bro z els) K = ((els ≠ [] → K false) ∧ (els = [] → K true ∧ K false)) := rfl
theorem wc {k i n sz bytes z : Nat} {new els : List (List V)} {K : V → St → Prop} : appB fx bn k i n sz bytes ⟨e, h, b⟩ new (.arr z els) K = ((z = sz ∧ i + n ≤ els.length ∧ (n + new.length) * bytes ≤ 140737488355328) ∧ (k ∉ fx ∧ k ∉ bn) ∧ K (.sl k 0 (n + new.length)) ⟨killE [k] e, (h.map (killB [k])).set k (.arr sz ((els.drop i).take n ++ new)), b⟩) := rfl
theorem wd {k i n id sz bytes : Nat} {new : List (List V)} {K : V → St → Prop} : appP fx bn id sz bytes ⟨e, h, b⟩ (.sl k i n) new K = appB fx bn k i n sz bytes ⟨e, h, b⟩ new (blk h k) K := rfl
theorem we {t : ByteArray} {K : ByteArray → Prop} : strK (.v (.string t)) K = K t := rfl
theorem wg {t u : ByteArray} {K : V → Prop} : sbinP .eql t u K = K (.b (t.toList == u.toList)) := rfl
theorem wh {t u : ByteArray} {K : V → Prop} : sbinP .neq t u K = K (.b (!(t.toList == u.toList))) := rfl
theorem wi {t u : ByteArray} {K : V → Prop} : sbinP .lss t u K = K (.b (Op.bytesLess t.toList u.toList)) := rfl
theorem wj {t u : ByteArray} {K : V → Prop} : sbinP .leq t u K = K (.b (Op.bytesLess t.toList u.toList || t.toList == u.toList)) := rfl
theorem wl {t u : ByteArray} {K : V → Prop} : sbinP .gtr t u K = K (.b (!(Op.bytesLess t.toList u.toList || t.toList == u.toList))) := rfl
theorem wm {sz k i n : Nat} {z : List Value} {K : V → St → Prop} : clrP bn sz z (.sl k i n) ⟨e, h, b⟩ K = clrB bn k i n sz z ⟨e, h, b⟩ (blk h k) K := rfl
theorem wn {k i n sz y : Nat} {z : List Value} {els : List (List V)} {K : V → St → Prop} : clrB bn k i n sz z ⟨e, h, b⟩ (.arr y els) K = ((y = sz ∧ i + n ≤ els.length ∧ k ∉ bn) ∧ K (.v (.tuple #[])) ⟨e, h.set k (.arr sz (els.take i ++ yB n (z.map .v) ++ els.drop (i + n))), b⟩) := rfl
theorem wq {kd : TypeDesc} {y : Value} {K : Value → Prop} : keyK kd (.v y) K = (isKey kd y = true ∧ K y) := rfl
theorem wr {k : Nat} {K : Nat → List (Value × V × Nat) → Nat → Prop} : mapK h (.mp k) K = mapB (blk h k) (K k) := rfl
theorem wu {es : List (Value × V × Nat)} {c : Nat} {K : List (Value × V × Nat) → Nat → Prop} : mapB (.map es c) K = K es c := rfl
theorem wv {kd : TypeDesc} {key z : Value} {ok : Bool} {k : Nat} {K : V → Prop} : lookM h kd key z ok (.mp k) K = mapB (blk h k) fun es _ => lookK (mfind kd key es 0) z ok K := rfl
theorem ww {i : Nat} {x : V} {z : Value} {K : V → Prop} : lookK (some (some (i, x))) z false K = K x := rfl
theorem wx {z : Value} {K : V → Prop} : lookK (some none) z false K = K (ofConst z) := rfl
theorem wy {i c : Nat} {y x : V} {key : Value} {es : List (Value × V × Nat)} {K : Blk → Prop} : msetK (some (some (i, y))) key x es c K = K (.map (es.modify i fun e => (key, x, e.2.2)) c) := rfl
theorem wz {c : Nat} {x : V} {key : Value} {es : List (Value × V × Nat)} {K : Blk → Prop} : msetK (some none) key x es c K = K (.map (es ++ [(key, x, c)]) (c + 1)) := rfl
theorem wB {k : IntKind} {a : Int} : isKey (.int k) (.int k a) = true := by simp [isKey]
section
variable {k : IntKind} {a c : Int} {K : V → Prop}
theorem wC : binInt .add true k a c K = ((lo k ≤ a + c ∧ a + c ≤ hi k) ∧ K (.v (.int k (a + c)))) := rfl
theorem wD : binInt .sub true k a c K = ((lo k ≤ a - c ∧ a - c ≤ hi k) ∧ K (.v (.int k (a - c)))) := rfl
theorem wE {x : Bool} : binInt .eql x k a c K = K (.b (a == c)) := rfl
theorem wF {x : Bool} : binInt .neq x k a c K = K (.b (a != c)) := rfl
theorem wG {x : Bool} : binInt .lss x k a c K = K (.b (decide (a < c))) := rfl
theorem wH {x : Bool} : binInt .leq x k a c K = K (.b (decide (a ≤ c))) := rfl
theorem wI {x : Bool} : binInt .gtr x k a c K = K (.b (decide (c < a))) := rfl
theorem wJ {x : Bool} : binInt .geq x k a c K = K (.b (decide (c ≤ a))) := rfl
theorem wK {x : Bool} : binInt .rem x k a c K = (c ≠ 0 ∧ K (.v (.int k (a.tmod c)))) := rfl
end
@[congr] theorem c_slcAP {n : Nat} {x x' : V} {l u m : Option Int} {K : V → Prop} (q : x = x') : slcAP h n x l u m K = slcAP h n x' l u m K := by rw [q]
@[congr] theorem c_slcAB {n k i i' : Nat} {b b' : Blk} {l u m : Option Int} {K : V → Prop} (q : b = b') (q2 : i = i') : slcAB n k i b l u m K = slcAB n k i' b' l u m K := by rw [q, q2]
@[congr] theorem c_peqP {x x' y y' : V} {K : Bool → Prop} (q : x = x') (q2 : y = y') : peqP x y K = peqP x' y' K := by rw [q, q2]
@[congr] theorem c_strK {x x' : V} {K : ByteArray → Prop} (q : x = x') : strK x K = strK x' K := by rw [q]
@[congr] theorem c_sslcP {t t' : ByteArray} {l u : Option Int} {K : V → Prop} (q : t = t') : sslcP t l u K = sslcP t' l u K := by rw [q]
@[congr] theorem c_sbinP {o : BinOp} {t t' u u' : ByteArray} {K : V → Prop} (q : t = t') (q2 : u = u') : sbinP o t u K = sbinP o t' u' K := by rw [q, q2]
@[congr] theorem c_mmP {mx : Bool} {x x' : V} {r r' : List V} {K : V → Prop} (q : x = x') (q2 : r = r') : mmP mx x r K = mmP mx x' r' K := by rw [q, q2]
@[congr] theorem c_clrP {sz : Nat} {z : List Value} {x x' : V} {K : V → St → Prop} (q : x = x') : clrP bn sz z x s K = clrP bn sz z x' s K := by rw [q]
@[congr] theorem c_clrB {k i n sz : Nat} {z : List Value} {b b' : Blk} {K : V → St → Prop} (q : b = b') : clrB bn k i n sz z s b K = clrB bn k i n sz z s b' K := by rw [q]
@[congr] theorem c_keyA {ks : List (Nat × TypeDesc)} {x x' : V} {K : List Value → Prop} (q : x = x') : keyA ks x K = keyA ks x' K := by rw [q]
@[congr] theorem c_lookMA {ks : List (Nat × TypeDesc)} {us : List Value} {z : Value} {ok : Bool} {m m' : V} {K : V → Prop} (q : m = m') : lookMA h ks us z ok m K = lookMA h ks us z ok m' K := by rw [q]
@[congr] theorem c_copyB {k i n sz : Nat} {new : List (List V)} {b b' : Blk} {K : V → St → Prop} (q : b = b') : copyB bn k i n sz s new b K = copyB bn k i n sz s new b' K := by rw [q]
@[congr] theorem c_keyK {kd : TypeDesc} {x x' : V} {K : Value → Prop} (q : x = x') : keyK kd x K = keyK kd x' K := by rw [q]
@[congr] theorem c_mapK {x x' : V} {K : Nat → List (Value × V × Nat) → Nat → Prop} (q : x = x') : mapK h x K = mapK h x' K := by rw [q]
@[congr] theorem c_mapB {x x' : Blk} {K : List (Value × V × Nat) → Nat → Prop} (q : x = x') : mapB x K = mapB x' K := by rw [q]
@[congr] theorem c_lookM {kd : TypeDesc} {key key' z : Value} {ok : Bool} {m m' : V} {K : V → Prop} (q : m = m') (q2 : key = key') : lookM h kd key z ok m K = lookM h kd key' z ok m' K := by rw [q, q2]
@[congr] theorem c_lookK {r r' : Option (Option (Nat × V))} {z : Value} {ok : Bool} {K : V → Prop} (q : r = r') : lookK r z ok K = lookK r' z ok K := by rw [q]
@[congr] theorem c_msetK {r r' : Option (Option (Nat × V))} {key key' : Value} {x x' : V} {es es' : List (Value × V × Nat)} {c c' : Nat} {K : Blk → Prop} (q : r = r') (q1 : key = key') (q2 : x = x') (q3 : es = es') (q4 : c = c') : msetK r key x es c K = msetK r' key' x' es' c' K := by rw [q, q1, q2, q3, q4]
@[congr] theorem c_nextK {es es' : List (Value × V × Nat)} {si si' la la' : Nat} {se se' : List Nat} {D : Prop} {K : Value → V → Nat → Prop} (q : es = es') (q1 : si = si') (q2 : se = se') (q3 : la = la') : nextK es si se la D K = nextK es' si' se' la' D K := by rw [q, q1, q2, q3]
@[congr] theorem c_entK {r r' : Option (Value × V × Nat)} {K : V → Prop} (q : r = r') : entK r K = entK r' K := by rw [q]
@[congr] theorem c_itK {x x' : V} {K : Nat → V → Nat → List Nat → Nat → Prop} (q : x = x') : itK h x K = itK h x' K := by rw [q]
@[congr] theorem c_itB {x x' : Blk} {K : V → Nat → List Nat → Nat → Prop} (q : x = x') : itB x K = itB x' K := by rw [q]
@[congr] theorem c_viewB {i n : Nat} {x x' : Blk} {K : Nat → List (List V) → Prop} (q : x = x') : viewB x i n K = viewB x' i n K := by rw [q]
end
section
variable {α : Type} {a : α} {l : List α} {x : α} {y : Nat}
theorem lg0 : (a :: l)[1]? = l[0]? := rfl
theorem zK : (a :: l).set 1 x = a :: l.set 0 x := rfl
theorem zL : (a :: l).drop 1 = l.drop 0 := rfl
theorem zM : (a :: l).take 1 = a :: l.take 0 := rfl
theorem zN : yB 1 x = x :: yB 0 x := rfl
theorem lg1 : (a :: l)[2]? = l[1]? := rfl
theorem zO : (a :: l).set 2 x = a :: l.set 1 x := rfl
theorem zP : (a :: l).drop 2 = l.drop 1 := rfl
theorem zQ : (a :: l).take 2 = a :: l.take 1 := rfl
theorem zR : yB 2 x = x :: yB 1 x := rfl
theorem lg2 : (a :: l)[3]? = l[2]? := rfl
theorem zS : (a :: l).set 3 x = a :: l.set 2 x := rfl
theorem zT : yB 3 x = x :: yB 2 x := rfl
theorem lg3 : (a :: l)[4]? = l[3]? := rfl
theorem zU : (a :: l).set 4 x = a :: l.set 3 x := rfl
theorem zV : yB 4 x = x :: yB 3 x := rfl
theorem lg4 : (a :: l)[5]? = l[4]? := rfl
theorem zW : (a :: l).set 5 x = a :: l.set 4 x := rfl
theorem lg5 : (a :: l)[6]? = l[5]? := rfl
theorem zX : (a :: l).set 6 x = a :: l.set 5 x := rfl
theorem lg6 : (a :: l)[7]? = l[6]? := rfl
theorem zY : (a :: l).set 7 x = a :: l.set 6 x := rfl
theorem lg7 : (a :: l)[8]? = l[7]? := rfl
theorem zZ : (a :: l).set 8 x = a :: l.set 7 x := rfl
theorem lg8 : (a :: l)[9]? = l[8]? := rfl
theorem ka : (a :: l).set 9 x = a :: l.set 8 x := rfl
theorem lg9 : (a :: l)[10]? = l[9]? := rfl
theorem kb : (a :: l).set 10 x = a :: l.set 9 x := rfl
theorem kc : (a :: l)[11]? = l[10]? := rfl
theorem ke : (a :: l).set 11 x = a :: l.set 10 x := rfl
theorem kf : (a :: l)[12]? = l[11]? := rfl
theorem kg : (a :: l).set 12 x = a :: l.set 11 x := rfl
theorem kh : yB 0 x = [] := rfl
end
end Go.Fx
namespace Go.Fx
open Go.RowKit
theorem rep_none {ρ : Nat → Loc} {X : Nat → Prop} {w : World} {h : List Blk} (hr : Rep ρ X w h) : Rep (gvLoc ρ fun _ => true) X w [] :=
 ⟨fun j k _ h1 => by simp [gvLoc] at h1, fun k _ => by simp [gvLoc], fun k b hb => by simp at hb, fun b ho => hr.disj b (gv_own ho), fun k h1 => by simp [gvLoc] at h1, hr.xlt⟩
theorem Fn_give {P : Program} {f : FuncId} {args : List V} {mv : List Nat} {R : V → List Blk → Prop} {y : V} (h : Fn P f args [] mv R) (hy : ∀ r hs, R r hs → wk y (gvV (fun _ => true) hs r)) : Fn P f args [] mv (Is y) := by
 intro ρ X w vals h1 h2
 refine Calls.mono (h ρ X w vals h1 h2) ?_
 rintro e w' ⟨val, r, h', ρ', q1, q2, q3, q4, q5, q6⟩
 exact ⟨val, y, [], _, q1, ⟨⟨rfl, rfl⟩, yI _⟩, q3.trans gv_fr, rep_none q4, wk_rep _ _ _ (hy r h' q2.1) (gv_rep q4 _ _ q5), fun k hk => by simp at hk⟩
theorem Fn_ghost {P : Program} {f : FuncId} {args : List V} {mv : List Nat} {R R' : V → List Blk → Prop} (h : Fn P f args [] mv R) (hR : ∀ r hs, R r hs → ∃ r' hs', R' r' hs' ∧ leG [] ⟨[(0, r)], hs, 0⟩ ⟨[(0, r')], hs', 0⟩) : Fn P f args [] mv R' := by
 intro ρ X w vals h1 h2
 refine Calls.mono (h ρ X w vals h1 h2) ?_
 rintro e w' ⟨val, r, h', ρ', q1, q2, q3, q4, q5, q6⟩
 obtain ⟨r', hs', g1, g2⟩ := hR r h' q2.1
 have hg : Good ρ X w [] 1 ⟨[(0, r)], h', 0⟩ ⟨#[val], []⟩ w' := by
  refine ⟨ρ', ⟨⟨q3, fun k hk => by simp at hk⟩, trivial⟩, ⟨q4, fun i => ?_⟩, rfl, Marks.nil⟩
  by_cases hi : i = 0
  ·subst hi; exact q5
  ·have : get [(0, r)] i = .any := by simp [get, hi]
   rw [this]; trivial
 obtain ⟨ρ2, ⟨⟨p1, _⟩, _⟩, ⟨p2, p3⟩, _⟩ := hg.leG g2
 exact ⟨val, r', hs', ρ2, q1, ⟨g1, yD _⟩, p1, p2, p3 0, fun k hk => by simp at hk⟩
end Go.Fx
namespace Go.Fx
open Go.RowKit
section
variable (P : Program)
def C0 : Ctr := fun f xs h0 mv R => Callable P f ∧ Fn P f xs h0 mv R
def I0 : Itr := fun f zas fx k Y h K => Callable P f ∧ Iter P f zas fx k Y h K
def Y0 : Nat → Yt := fun _ _ _ _ => False
def cxN (fx : List Nat) : Cx := ⟨C0 P, fx, [], I0 P, Y0, none⟩
theorem cxN_ok (fx : List Nat) : (cxN P fx).ok P := ⟨fun _ _ _ _ _ h => h, fun _ _ _ _ _ _ _ h => h⟩
def OkN (f : FuncId) (xs : List V) (h0 : List Blk) (mv : List Nat) (R : V → List Blk → Prop) : Prop := C0 P f xs h0 mv R
variable {P}
theorem okN_of (hP : P.follows .mixedOrders = true) {f : FuncId} {l0 l : LCode} {rs : List LRes} {nt : Nat} (fx : List Nat) (hl : rlF P f l0 = some (l, rs, nt)) {args : List V} {h0 : List Blk} {mv : List Nat} {R : V → List Blk → Prop} (hlen : args.length ≤ nt) (hb : keepP fx h0)
  (hfx : ∀ k, k < h0.length → k ∉ mv → k ∈ fx) (h : aw (cxN P fx) l (retP fx h0.length rs R) (fun _ _ => False) (retP fx h0.length rs R) ⟨args0 0 args, h0, 0⟩) : OkN P f args h0 mv R :=
 ⟨rlF_callable hl, Fn_rl hP (cxN_ok P fx) hl hlen hb hfx h⟩
theorem itN_of (hP : P.follows .mixedOrders = true) {f : FuncId} {l0 l : LCode} {nt : Nat} (fx : List Nat) (hl : rlF P f l0 = some (l, [], nt)) {args : List V} {h0 : List Blk} {k : Nat} {Y : Yt} {K : List Blk → Prop} (hlen : args.length ≤ nt)
  (h : aw ⟨C0 P, fx, [], I0 P, fun k' xs s Z => k' = k ∧ Y xs s Z, none⟩ l (fun s => K s.h) (fun _ _ => False) (fun s => K s.h) ⟨args0 0 args, h0, 0⟩) : I0 P f args fx k Y h0 K :=
 ⟨rlF_callable hl, Iter_rl (cx := ⟨C0 P, fx, [], I0 P, fun k' xs s Z => k' = k ∧ Y xs s Z, none⟩) hP ⟨fun _ _ _ _ _ h => h, fun _ _ _ _ _ _ _ h => h⟩ hl hlen h rfl rfl⟩
theorem okN_post {f : FuncId} {xs : List V} {h0 : List Blk} {mv : List Nat} {R R' : V → List Blk → Prop} (h : OkN P f xs h0 mv R) (hR : ∀ r h', R r h' → R' r h') : OkN P f xs h0 mv R' := by
 refine ⟨h.1, ?_⟩
 intro ρ X w vals h1 h2
 refine Calls.mono (h.2 ρ X w vals h1 h2) ?_
 rintro e w' ⟨val, r, h', ρ', q1, q2, q3, q4, q5, q6⟩
 exact ⟨val, r, h', ρ', q1, ⟨hR r h' q2.1, q2.2⟩, q3, q4, q5, q6⟩
theorem okN_ghost {f : FuncId} {xs : List V} {R R' : V → List Blk → Prop} (h : OkN P f xs [] [] R) (hR : ∀ r hs, R r hs → ∃ r' hs', R' r' hs' ∧ leG [] ⟨[(0, r)], hs, 0⟩ ⟨[(0, r')], hs', 0⟩) : OkN P f xs [] [] R' := ⟨h.1, Fn_ghost h.2 hR⟩
end
def IsA (x : V) (h0 : List Blk) : V → List Blk → Prop := fun r h => r = x ∧ h = h0
theorem retP_isA {fx : List Nat} {n : Nat} {e : Env} {h : List Blk} {b : Nat} {rs : List LRes} {x : V} {h0 : List Blk} : retP fx n rs (IsA x h0) ⟨e, h, b⟩ = resP h e rs [] fun xs => (leH h h0 ∧ keepP fx h0 ∧ n ≤ h0.length ∧ wfV h0 (tupV xs) ∧ wfB h0 h0) ∧ tupV xs = x := by
 rw [retP_eq]
 congr 1
 funext xs
 apply propext
 constructor
 ·rintro ⟨p, h1, h2, rfl⟩
  exact ⟨h1, h2⟩
 ·rintro ⟨h1, h2⟩
  exact ⟨h0, h1, h2, rfl⟩
def IsQ {G : Type} (Q : G → Prop) (x : G → V) (h0 : G → List Blk) : V → List Blk → Prop := fun r h => ∃ g, Q g ∧ r = x g ∧ h = h0 g
theorem retP_isQ {G : Type} {Q : G → Prop} {fx : List Nat} {n : Nat} {e : Env} {h : List Blk} {b : Nat} {rs : List LRes} {x : G → V} {h0 : G → List Blk} (g : G) (hq : Q g)
  (hr : resP h e rs [] fun xs => (leH h (h0 g) ∧ keepP fx (h0 g) ∧ n ≤ (h0 g).length ∧ wfV (h0 g) (tupV xs) ∧ wfB (h0 g) (h0 g)) ∧ tupV xs = x g) : retP fx n rs (IsQ Q x h0) ⟨e, h, b⟩ := by
 have hm : ∀ {h : List Blk} {e : Env} (rs : List LRes) (acc : List V) {K K' : List V → Prop}, (∀ xs, K xs → K' xs) → resP h e rs acc K → resP h e rs acc K' := by
  intro h e rs
  induction rs with
  | nil => intro acc K K' hk h; exact hk _ h
  | cons r rs ih =>
   intro acc K K' hk hh
   cases r with
   | tmp t => exact ih _ hk hh
   | cell a n =>
    simp only [resP] at hh ⊢
    have hcs : ∀ (n : Option Nat) (f : Nat) (cs : List V) {A B : V → Prop}, (∀ x, A x → B x) → loadCs n f cs A → loadCs n f cs B := by
     intro n f cs A B hab hl
     unfold loadCs at hl ⊢
     split at hl
     ·unfold optK at hl ⊢
      split at hl
      ·exact hab _ hl
      ·exact hl.elim
     ·exact ⟨hl.1, hab _ hl.2⟩
    unfold loadP at hh ⊢
    split at hh
    ·unfold loadB at hh ⊢
     split at hh
     ·exact hcs _ _ _ (fun x => ih _ hk) hh
     ·obtain ⟨hi, hh⟩ := hh; exact ⟨hi, hcs _ _ _ (fun x => ih _ hk) hh⟩
     ·obtain ⟨hi, hh⟩ := hh; exact ⟨hi, hcs _ _ _ (fun x => ih _ hk) hh⟩
     ·exact hh.elim
    ·obtain ⟨hi, hh⟩ := hh; exact ⟨hi, hcs _ _ _ (fun x => ih _ hk) hh⟩
    ·exact hh.elim
 rw [retP_eq]
 refine hm rs [] ?_ hr
 rintro xs ⟨h1, h2⟩
 exact ⟨h0 g, h1, g, hq, h2, rfl⟩
section
variable {cx : Cx} {f : FuncId} {args : List V} {e : Env} {h : List Blk} {b : Nat} {K : V → St → Prop}
theorem call_is {xs : List V} {x : V} (hC : cx.C f xs [] [] (Is x)) (h1 : lendsOk h (fun _ => none) args ∧ wkL xs (lends h (fun _ => none) args)) (hx : ren (fun j => some (h.length + j)) x = x) (keep : keepP cx.fx h) (h3 : K x ⟨e, h, b⟩) : callP cx f args ⟨e, h, b⟩ K := by
 refine callP_pure xs (Is x) h1 hC ?_
 rintro r h' ⟨rfl, rfl⟩
 simp only [vK, yZ]
 exact ⟨keep, by rw [hx]; exact h3⟩
theorem call_isA (xs : List V) (x x' : V) (h0 h0' : List Blk) (hC : cx.C f xs [] [] (IsA x h0)) (h1 : lendsOk h (fun _ => none) args ∧ wkL xs (lends h (fun _ => none) args))
  (hx : ren (fun j => some (h.length + j)) x = x') (hh : h0.map (renB (fun j => some (h.length + j))) = h0') (keep : keepP cx.fx (h ++ h0')) (h3 : K x' ⟨e, h ++ h0', b⟩) : callP cx f args ⟨e, h, b⟩ K := by
 refine callP_pure xs (IsA x h0) h1 hC ?_
 rintro r h' ⟨rfl, rfl⟩
 rw [hx, hh]
 exact ⟨keep, h3⟩
theorem call_isN (ι : List Nat) (xs : List V) (x x' : V) (h0 h1 h' : List Blk) (hC : cx.C f xs h0 [] (IsA x h1))
  (hι : ι.Nodup ∧ ∀ k ∈ ι, k < h.length ∧ k ∉ cx.bn) (r0 : ι.map (fun k => renB (pos ι) (blk h k)) = h0) (ha : lendsOk h (pos ι) args ∧ wkL xs (lends h (pos ι) args)) (hlen : ι.length ≤ h1.length)
  (hh : setAll ι (h1.map (renB (back ι h.length))) h = h') (hx : ren (back ι h.length) x = x') (keep : keepP cx.fx h') (h3 : K x' ⟨e, h', b⟩) : callP cx f args ⟨e, h, b⟩ K := by
 have hkb : ∀ l : List Blk, l.map (killB []) = l := killB_nil
 refine ⟨ι, xs, [], IsA x h1, ⟨hι, by simp⟩, ha.1, ha.2, by rw [r0]; exact hC, ?_⟩
 rintro r h2 ⟨rfl, rfl⟩ _
 simp only [List.filterMap_nil, hkb, killE_nil, hh, hx]
 exact ⟨keep, h3⟩
theorem call_isM {G : Type} (Q : G → Prop) (ι mv M : List Nat) (xs : List V) (x : G → V) (h0 : List Blk) (h1 : G → List Blk) (hC : cx.C f xs h0 mv (IsQ Q x h1))
  (hι : ι.Nodup ∧ ∀ k ∈ ι, k < h.length ∧ k ∉ cx.bn) (hM : mv.filterMap (ι[·]?) = M ∧ ∀ j ∈ mv, ∀ k, ι[j]? = some k → k ∉ cx.fx) (r0 : ι.map (fun k => renB (pos ι) (blk h k)) = h0) (ha : lendsOk h (pos ι) args ∧ wkL xs (lends h (pos ι) args))
  (h3 : ∀ g, Q g → keepP cx.fx (setAll ι ((h1 g).map (renB (back ι h.length))) (h.map (killB M))) ∧ K (ren (back ι h.length) (x g)) ⟨killE M e, setAll ι ((h1 g).map (renB (back ι h.length))) (h.map (killB M)), b⟩) : callP cx f args ⟨e, h, b⟩ K := by
 refine ⟨ι, xs, mv, IsQ Q x h1, ⟨hι, hM.2⟩, ha.1, ha.2, by rw [r0]; exact hC, ?_⟩
 rintro r h2 ⟨g, hq, rfl, rfl⟩ _
 rw [hM.1]
 exact h3 g hq
end
end Go.Fx
namespace Go.Fx
open Go.RowKit
def rcdB (b : Option Blk) (K : RS → Env → Prop) : Prop :=
 match b with
 | some (.rcd t e) => K t e
 | _ => False
theorem rcdB_s {t : RS} {e : Env} {K : RS → Env → Prop} : rcdB (some (.rcd t e)) K = K t e := rfl
@[congr] theorem c_rcdB {b b' : Option Blk} {K : RS → Env → Prop} (q : b = b') : rcdB b K = rcdB b' K := by rw [q]
theorem rcdK_b {h : List Blk} {k : Nat} {K : RS → Env → Prop} : rcdK h k K = rcdB h[k]? K := by
 unfold rcdK rcdB; rfl
def itrK (x : V) (K : Nat → Prop) : Prop :=
 match x with
 | .itr k => K k
 | _ => False
theorem itrK_i {k : Nat} {K : Nat → Prop} : itrK (.itr k) K = K k := rfl
@[congr] theorem c_itrK {x x' : V} {K : Nat → Prop} (q : x = x') : itrK x K = itrK x' K := by rw [q]
def callY (Y : Nat → Yt) (k : Nat) (xs : List V) (s : St) (K : V → St → Prop) : Prop := Y k xs s K
@[congr] theorem c_callY {Y : Nat → Yt} {k : Nat} {xs xs' : List V} {s s' : St} {K : V → St → Prop} (q : xs = xs') (q2 : s = s') : callY Y k xs s K = callY Y k xs' s' K := by rw [q, q2]
def endT (t : RS) (A : Prop) (B : Nat → Prop) (C : Prop) : Prop :=
 match t with
 | .ready => A
 | .out none => C
 | .out (some j) => B j
 | _ => False
theorem endT_r {A C : Prop} {B : Nat → Prop} : endT .ready A B C = A := rfl
@[congr] theorem c_endT {t t' : RS} {A C : Prop} {B : Nat → Prop} (q : t = t') : endT t A B C = endT t' A B C := by rw [q]
section
variable {cx : Cx} {e : Env} {h : List Blk} {b : Nat} {K : V → St → Prop} {Ks : St → Prop} {N R : St → Prop} {X : Nat → St → Prop} {d : Option Nat} {op : LOp}
@[congr] theorem c_aOpsY {l : List LOper} {s s' : St} {Ks : St → Prop} (q : s = s') : aOpsY cx l s Ks = aOpsY cx l s' Ks := by rw [q]
theorem aw_yreg {m n : Nat} {l : List LOper} : aw cx (.yreg m n l) N X R ⟨e, h, b⟩ = aOpsY cx l ⟨e, h ++ yB n .dead, h.length⟩ N := rfl
theorem aOpsY_nil : aOpsY cx [] ⟨e, h, b⟩ Ks = Ks ⟨e, h, b⟩ := rfl
theorem yo_yld {f : Operand} {xs : List Operand} {r : List LOper} : aOpsY cx (⟨d, .yld f xs, none⟩ :: r) ⟨e, h, b⟩ Ks = itrK (ev e f) fun k => callY cx.y k (xs.map (ev e)) ⟨e, h, b⟩ fun x s' => aOpsY cx r (s'.put d x) Ks := by
 show yieldP cx f xs ⟨e, h, b⟩ _ = _
 unfold yieldP itrK callY; rfl
theorem yo_mov {x : Operand} {r : List LOper} : aOpsY cx (⟨d, (.mov x), none⟩ :: r) ⟨e, h, b⟩ Ks = aOp cx (.mov x) ⟨e, h, b⟩ fun x s' => aOpsY cx r (s'.put d x) Ks := rfl
theorem yg_mov {x : Operand} {g : Nat} {w : Bool} {r : List LOper} : aOpsY cx (⟨d, (.mov x), some (g, w)⟩ :: r) ⟨e, h, b⟩ Ks = guardP (get e g) w
   (aOp cx (.mov x) ⟨(g, .b w) :: e, h, b⟩ fun x s' => aOpsY cx r (s'.put d x) Ks)
   (aOpsY cx r (St.put ⟨(g, .b !w) :: e, h, b⟩ d (.v (.tuple #[]))) Ks)
   (aOpsY cx r (St.put ⟨e, h, b⟩ d (.v (.tuple #[]))) Ks) := rfl
theorem yo_pick {c x y : Operand} {r : List LOper} : aOpsY cx (⟨d, (.pick c x y), none⟩ :: r) ⟨e, h, b⟩ Ks = aOp cx (.pick c x y) ⟨e, h, b⟩ fun x s' => aOpsY cx r (s'.put d x) Ks := rfl
theorem yo_load {n : Option Nat} {x : Operand} {r : List LOper} : aOpsY cx (⟨d, (.load n x), none⟩ :: r) ⟨e, h, b⟩ Ks = aOp cx (.load n x) ⟨e, h, b⟩ fun x s' => aOpsY cx r (s'.put d x) Ks := rfl
theorem yg_load {n : Option Nat} {x : Operand} {g : Nat} {w : Bool} {r : List LOper} : aOpsY cx (⟨d, (.load n x), some (g, w)⟩ :: r) ⟨e, h, b⟩ Ks = guardP (get e g) w
   (aOp cx (.load n x) ⟨(g, .b w) :: e, h, b⟩ fun x s' => aOpsY cx r (s'.put d x) Ks)
   (aOpsY cx r (St.put ⟨(g, .b !w) :: e, h, b⟩ d (.v (.tuple #[]))) Ks)
   (aOpsY cx r (St.put ⟨e, h, b⟩ d (.v (.tuple #[]))) Ks) := rfl
theorem yo_fld {n : Nat} {x : Operand} {r : List LOper} : aOpsY cx (⟨d, (.fld n x), none⟩ :: r) ⟨e, h, b⟩ Ks = aOp cx (.fld n x) ⟨e, h, b⟩ fun x s' => aOpsY cx r (s'.put d x) Ks := rfl
theorem yg_fld {n : Nat} {x : Operand} {g : Nat} {w : Bool} {r : List LOper} : aOpsY cx (⟨d, (.fld n x), some (g, w)⟩ :: r) ⟨e, h, b⟩ Ks = guardP (get e g) w
   (aOp cx (.fld n x) ⟨(g, .b w) :: e, h, b⟩ fun x s' => aOpsY cx r (s'.put d x) Ks)
   (aOpsY cx r (St.put ⟨(g, .b !w) :: e, h, b⟩ d (.v (.tuple #[]))) Ks)
   (aOpsY cx r (St.put ⟨e, h, b⟩ d (.v (.tuple #[]))) Ks) := rfl
theorem yg_idx {n : Nat} {x i : Operand} {g : Nat} {w : Bool} {r : List LOper} : aOpsY cx (⟨d, (.idx n x i), some (g, w)⟩ :: r) ⟨e, h, b⟩ Ks = guardP (get e g) w
   (aOp cx (.idx n x i) ⟨(g, .b w) :: e, h, b⟩ fun x s' => aOpsY cx r (s'.put d x) Ks)
   (aOpsY cx r (St.put ⟨(g, .b !w) :: e, h, b⟩ d (.v (.tuple #[]))) Ks)
   (aOpsY cx r (St.put ⟨e, h, b⟩ d (.v (.tuple #[]))) Ks) := rfl
theorem yo_bin {o : BinOp} {ex : Bool} {x y : Operand} {r : List LOper} : aOpsY cx (⟨d, (.bin o ex x y), none⟩ :: r) ⟨e, h, b⟩ Ks = aOp cx (.bin o ex x y) ⟨e, h, b⟩ fun x s' => aOpsY cx r (s'.put d x) Ks := rfl
theorem yg_bin {o : BinOp} {ex : Bool} {x y : Operand} {g : Nat} {w : Bool} {r : List LOper} : aOpsY cx (⟨d, (.bin o ex x y), some (g, w)⟩ :: r) ⟨e, h, b⟩ Ks = guardP (get e g) w
   (aOp cx (.bin o ex x y) ⟨(g, .b w) :: e, h, b⟩ fun x s' => aOpsY cx r (s'.put d x) Ks)
   (aOpsY cx r (St.put ⟨(g, .b !w) :: e, h, b⟩ d (.v (.tuple #[]))) Ks)
   (aOpsY cx r (St.put ⟨e, h, b⟩ d (.v (.tuple #[]))) Ks) := rfl
theorem yo_len {x : Operand} {r : List LOper} : aOpsY cx (⟨d, (.len x), none⟩ :: r) ⟨e, h, b⟩ Ks = aOp cx (.len x) ⟨e, h, b⟩ fun x s' => aOpsY cx r (s'.put d x) Ks := rfl
theorem yo_not {x : Operand} {r : List LOper} : aOpsY cx (⟨d, (.not x), none⟩ :: r) ⟨e, h, b⟩ Ks = aOp cx (.not x) ⟨e, h, b⟩ fun x s' => aOpsY cx r (s'.put d x) Ks := rfl
theorem yo_build {z : List Value} {ps : List (Nat × Nat × Operand)} {r : List LOper} : aOpsY cx (⟨d, (.build z ps), none⟩ :: r) ⟨e, h, b⟩ Ks = aOp cx (.build z ps) ⟨e, h, b⟩ fun x s' => aOpsY cx r (s'.put d x) Ks := rfl
theorem begRd_e {k : Nat} : begRd k Ks ⟨e, h, b⟩ = rcdB h[k]? fun t e' => t = .ready ∧ Ks ⟨e, h.set k (.rcd .busy e'), b⟩ := rcdK_b
theorem endRd_e {k kE bI : Nat} {t : RS} {y : Bool} : endRd k kE bI K y t ⟨e, h, b⟩ = rcdB h[k]? fun t2 e2 => t2 = .busy ∧ rcdB h[kE]? fun t3 eI => t3 = .ghost ∧ K (.b y) ⟨eI, (h.set k (.rcd t e2)).set kE .dead, bI⟩ := by
 unfold endRd
 simp only [rcdK_b]
theorem endLp_e {k : Nat} : endLp k N X R h = rcdB h[k]? fun t e => (wfE (h.set k .dead) e ∧ wfB (h.set k .dead) (h.set k .dead)) ∧ endT t (N ⟨e, h.set k .dead, 0⟩) (fun j => X j ⟨e, h.set k .dead, 0⟩) (R ⟨e, h.set k .dead, 0⟩) := by
 unfold endLp
 simp only [rcdK_b]
 rfl
@[congr] theorem c_begRd {k : Nat} {s s' : St} (q : s = s') : begRd k Ks s = begRd k Ks s' := by rw [q]
@[congr] theorem c_endRd {k kE bI : Nat} {t : RS} {y : Bool} {s s' : St} (q : s = s') : endRd k kE bI K y t s = endRd k kE bI K y t s' := by rw [q]
@[congr] theorem c_endLp {k : Nat} {h h' : List Blk} (q : h = h') : endLp k N X R h = endLp k N X R h' := by rw [q]
def yR (cx : Cx) (ps : List Nat) (asg body : LCode) (k : Nat) : Yt := fun xs sI K => rcdK sI.h k fun t e => t = .ready ∧ xs.length = ps.length ∧
 aw { cx with fx := sI.h.length :: k :: cx.fx, y := fun _ _ _ _ => False, rk := some k } asg
  (begRd k fun s1 => aw { cx with fx := sI.h.length :: k :: cx.fx, y := fun _ _ _ _ => False, rk := some k } body
   (endRd k sI.h.length sI.b K true .ready) (fun j => endRd k sI.h.length sI.b K false (.out (some j))) (endRd k sI.h.length sI.b K false (.out none)) s1)
  (fun _ _ => False) (fun _ => False) ⟨setPs ps xs e, sI.h ++ [.rcd .ghost sI.e], sI.b⟩
theorem rfn_go {g : Operand} {ps : List Nat} {asg body : LCode} {gf : FuncId} {caps : List V} (n : Nat) (hn : h.length = n) (hg : ev e g = .clo gf caps) (hrk : inRdP cx.rk h)
  (hit : cx.it gf (.itr n :: caps) (n :: cx.fx) n (yR cx ps asg body n) (h ++ [.rcd .ready e]) (endLp n N X R)) : aw cx (.rfn g ps asg body) N X R ⟨e, h, b⟩ := by
 subst hn
 simp only [aw, hg]
 exact ⟨hrk, hit⟩
theorem yR_go {ps : List Nat} {asg body : LCode} {k : Nat} {xs : List V} {e0 : Env} (n : Nat) (hn : h.length = n) (hk : h[k]? = some (.rcd .ready e0)) (hl : xs.length = ps.length)
  (hgo : aw ⟨cx.C, n :: k :: cx.fx, cx.bn, cx.it, Y0, some k⟩ asg (begRd k fun s1 => aw ⟨cx.C, n :: k :: cx.fx, cx.bn, cx.it, Y0, some k⟩ body
   (endRd k n b K true .ready) (fun j => endRd k n b K false (.out (some j))) (endRd k n b K false (.out none)) s1) (fun _ _ => False) (fun _ => False) ⟨setPs ps xs e0, h ++ [.rcd .ghost e], b⟩) :
  yR cx ps asg body k xs ⟨e, h, b⟩ K := by
 subst hn
 unfold yR rcdK
 rw [show (⟨e, h, b⟩ : St).h[k]? = some (.rcd .ready e0) from hk]
 exact ⟨rfl, hl, hgo⟩
end
end Go.Fx
namespace Go.Fx
open Go.RowKit
theorem Fn_ghostN {P : Program} {f : FuncId} {args : List V} {h0 : List Blk} {mv : List Nat} {R R' : V → List Blk → Prop} (fx : List Nat) (hfx : ∀ k, k < h0.length → k ∉ mv → k ∈ fx) (hlt : ∀ k ∈ fx, k < h0.length ∧ k ∉ mv) (h : Fn P f args h0 mv R)
  (hR : ∀ r hs, R r hs → keepP fx hs ∧ ∃ r' hs', R' r' hs' ∧ h0.length ≤ hs'.length ∧ leG fx ⟨[(0, r)], hs, 0⟩ ⟨[(0, r')], hs', 0⟩) : Fn P f args h0 mv R' := by
 intro ρ X w vals h1 h2
 refine Calls.mono (h ρ X w vals h1 h2) ?_
 rintro e w' ⟨val, r, h', ρ', q1, q2, q3, q4, q5, q6⟩
 obtain ⟨hk, r', hs', g1, g1l, g2⟩ := hR r h' q2.1
 have hg : Good ρ X w fx 1 ⟨[(0, r)], h', 0⟩ ⟨#[val], []⟩ w' := by
  refine ⟨ρ', ⟨⟨q3, fun k hk => q6 k (hlt k hk).1 (hlt k hk).2⟩, hk⟩, ⟨q4, fun i => ?_⟩, rfl, Marks.nil⟩
  by_cases hi : i = 0
  ·subst hi; exact q5
  ·have : get [(0, r)] i = .any := by simp [get, hi]
   rw [this]; trivial
 obtain ⟨ρ2, ⟨⟨p1, p1b⟩, _⟩, ⟨p2, p3⟩, _⟩ := hg.leG g2
 exact ⟨val, r', hs', ρ2, q1, ⟨g1, g1l⟩, p1, p2, p3 0, fun k hk hm => p1b k (hfx k hk hm)⟩
theorem okN_ofG {P : Program} (hP : P.follows .mixedOrders = true) {f : FuncId} {l0 l : LCode} {rs : List LRes} {nt : Nat} (fx : List Nat) (hl : rlF P f l0 = some (l, rs, nt)) {args : List V} {h0 : List Blk} {mv : List Nat} {R : V → List Blk → Prop} (hlen : args.length ≤ nt) (hb : keepP fx h0)
  (hfx : ∀ k, k < h0.length → k ∉ mv → k ∈ fx) {s0 : St} (hg : leG fx ⟨args0 0 args, h0, 0⟩ s0) (h : aw (cxN P fx) l (retP fx h0.length rs R) (fun _ _ => False) (retP fx h0.length rs R) s0) : OkN P f args h0 mv R := by
 refine ⟨rlF_callable hl, ?_⟩
 unfold rlF at hl
 split at hl
 ·rename_i fn hf
  split at hl
  ·rename_i c rs' hb' hr ht
   simp only [vA, Bool.not_eq_true', decide_eq_true_eq] at ht
   cases hm : rlC P fn.ntmps c l0 with
   | none => simp [hm] at hl
   | some l1 =>
    simp only [hm, Option.map_some, vB, Prod.mk.injEq] at hl
    obtain ⟨rfl, rfl, rfl⟩ := hl
    intro ρ X w vals hr0 ha
    have hvl := RepL_len ha
    refine (callsIn_wide (n := 0)).1 (callsIn_of_wp_marks hf hb' trivial ?_)
    have hgd : Good ρ X w fx fn.ntmps ⟨args0 0 args, h0, 0⟩ { tmps := vals.toArray ++ Array.replicate (fn.ntmps - vals.toArray.size) undef, defers := [] } w :=
     ⟨ρ, ⟨⟨Fr.refl _ _, fun _ _ => rfl⟩, hb⟩, ⟨hr0, args0_rep ha _⟩, by simp; omega, Marks.nil⟩
    have hend : ∀ s, retP fx h0.length rs' R s → ∀ a w', Good ρ X w fx fn.ntmps s a w' → ∃ v, (results fn a.tmps).run P w' = .ok v w' ∧ ∃ val r h' ρ', Ending.returned v = .returned val ∧ (R r h' ∧ h0.length ≤ h'.length) ∧ Fr ρ w ρ' w' ∧ Rep ρ' X w' h' ∧ RepV ρ' X w' r val ∧
      ∀ k, k < h0.length → k ∉ mv → ρ' k = ρ k := by
     intro s hret a w' hgood
     obtain ⟨ρ', ⟨⟨hf1, hfx1⟩, hk1⟩, ⟨hr1, he1⟩, hN1, hd1⟩ := hgood
     obtain ⟨xs, vs, h5, h6, h7⟩ := resP_run hr1 he1 fn.results.toList rs' [] [] hr trivial hret
     obtain ⟨p, ⟨h8, h9, h10, h11, h12⟩, h13⟩ := h5
     refine ⟨tupU vs, results_run ht.1 h7, _, _, p, dropLoc ρ' p, rfl, ⟨h13, h10⟩, hf1.trans drop_fr, dropRep hr1 h8 h12, ?_, fun k hk hkm => ?_⟩
     ·exact drop_rep _ _ h11 (tup_rep (by simpa using h6))
     ·have hkf := hfx k hk hkm
      rw [live_loc (keepP_get h9 k hkf)]
      exact hfx1 k hkf
    refine aw_sound (P := P) (X := X) (N := fn.ntmps) hP c l0 l1 hm none (cxN P fx) ρ w (cxN_ok P fx) (.inl rfl) trivial (fun k => YOk_none) _ (retP fx h0.length rs' R) (fun _ _ => False) (retP fx h0.length rs' R) ?_ ?_ (fun _ _ _ _ hx _ => hx.elim) ?_ _ _ _ h (hgd.leG hg)
    ·rintro ⟨a, w', val, _, _, _, hq, _⟩
     cases hq
    ·intro s a w' hret hgood
     exact leaves_of (hend s hret) a.defers a w' rfl hgood
    ·intro s a w' hret hgood
     exact leaves_of (hend s hret) a.defers a w' rfl hgood
  ·cases hl
 ·cases hl
end Go.Fx
namespace Go.Fx
open Go.RowKit
theorem I0_le {P : Program} {f : FuncId} {zas : List V} {fx : List Nat} {k : Nat} {Y : Yt} {h h' : List Blk} {K : List Blk → Prop} (hle : leH h h') (hk : keepP fx h') (hw : wfB h' h') (ha : wfL h' zas) (hi : I0 P f zas fx k Y h' K) : I0 P f zas fx k Y h K := by
 refine ⟨hi.1, ?_⟩
 intro ρ X w vals hr hv hkp hY
 have := hi.2 (dropLoc ρ h') X w vals (dropRep hr hle hw) (drops_rep _ _ ha hv) hk (by
  intro ρ1 w1 s tmps xs vs Z ⟨hf, hfx⟩ g1 g2 g3 g4 g5
  exact hY ρ1 w1 s tmps xs vs Z ⟨drop_fr.trans hf, fun j hj => (hfx j hj).trans (live_loc (keepP_get hk j hj))⟩ g1 g2 g3 g4 g5)
 refine this.mono ?_
 rintro e w' ⟨val, h1, ρ', rfl, hK, ⟨hf, hr'⟩, hfx, hkp'⟩
 exact ⟨val, h1, ρ', rfl, hK, ⟨drop_fr.trans hf, hr'⟩, fun j hj => (hfx j hj).trans (live_loc (keepP_get hk j hj)), hkp'⟩
end Go.Fx

namespace Go.Fx.R
abbrev Sp := Int × Int
def Sep (l : List Sp) : Prop := (∀ s ∈ l, s.1 < s.2) ∧ l.Pairwise (fun s t => s.2 < t.1)
def inS (l : List Sp) (x : Int) : Prop := ∃ s ∈ l, s.1 ≤ x ∧ x < s.2
theorem sep_nil : Sep [] := ⟨by simp, .nil⟩
theorem sep_cons {s : Sp} {l : List Sp} : Sep (s :: l) ↔ s.1 < s.2 ∧ (∀ t ∈ l, s.2 < t.1) ∧ Sep l := by
 unfold Sep
 rw [yP]
 simp only [yE, forall_eq_or_imp]
 constructor
 ·rintro ⟨⟨h1, h2⟩, h3, h4⟩; exact ⟨h1, h3, h2, h4⟩
 ·rintro ⟨h1, h3, h2, h4⟩; exact ⟨⟨h1, h2⟩, h3, h4⟩
theorem sep_app {l m : List Sp} : Sep (l ++ m) ↔ Sep l ∧ Sep m ∧ ∀ s ∈ l, ∀ t ∈ m, s.2 < t.1 := by
 unfold Sep
 rw [vR]
 simp only [yG]
 constructor
 ·rintro ⟨h1, h2, h3, h4⟩
  exact ⟨⟨fun s h => h1 s (.inl h), h2⟩, ⟨fun s h => h1 s (.inr h), h3⟩, h4⟩
 ·rintro ⟨⟨h1, h2⟩, ⟨h3, h4⟩, h5⟩
  exact ⟨fun s h => h.elim (h1 s) (h3 s), h2, h4, h5⟩
theorem sep_one {s : Sp} : Sep [s] ↔ s.1 < s.2 := by simp [Sep]
theorem inS_nil {x : Int} : inS [] x ↔ False := by simp [inS]
theorem inS_cons {s : Sp} {l : List Sp} {x : Int} : inS (s :: l) x ↔ (s.1 ≤ x ∧ x < s.2) ∨ inS l x := by
 simp [inS]
theorem inS_app {l m : List Sp} {x : Int} : inS (l ++ m) x ↔ inS l x ∨ inS m x := by
 simp only [inS, yG]
 constructor
 ·rintro ⟨s, h | h, h1⟩
  ·exact .inl ⟨s, h, h1⟩
  ·exact .inr ⟨s, h, h1⟩
 ·rintro (⟨s, h, h1⟩ | ⟨s, h, h1⟩)
  ·exact ⟨s, .inl h, h1⟩
  ·exact ⟨s, .inr h, h1⟩
theorem inS_gt {l : List Sp} {b x : Int} (h : ∀ t ∈ l, b < t.1) (hx : inS l x) : b < x := by
 obtain ⟨t, h1, h2, _⟩ := hx
 have := h t h1
 omega
theorem Sep.ext : ∀ {l m : List Sp}, Sep l → Sep m → (∀ x, inS l x ↔ inS m x) → l = m
 | [], [], _, _, _ => rfl
 | [], t :: m, _, h, e => by
  rw [sep_cons] at h
  have := (e t.1).2 (inS_cons.2 (.inl ⟨by omega, h.1⟩))
  exact (inS_nil.1 this).elim
 | s :: l, [], h, _, e => by
  rw [sep_cons] at h
  have := (e s.1).1 (inS_cons.2 (.inl ⟨by omega, h.1⟩))
  exact (inS_nil.1 this).elim
 | s :: l, t :: m, hl, hm, e => by
  rw [sep_cons] at hl hm
  obtain ⟨a1, a2, a3⟩ := hl
  obtain ⟨b1, b2, b3⟩ := hm
  have lb : ∀ x, inS l x → s.2 < x := fun x h => inS_gt a2 h
  have mb : ∀ x, inS m x → t.2 < x := fun x h => inS_gt b2 h
  have e' : ∀ x, ((s.1 ≤ x ∧ x < s.2) ∨ inS l x) ↔ ((t.1 ≤ x ∧ x < t.2) ∨ inS m x) := fun x => by
   rw [← inS_cons, ← inS_cons]; exact e x
  have h1 : s.1 = t.1 := by
   have p := (e' s.1).1 (.inl ⟨by omega, a1⟩)
   have q := (e' t.1).2 (.inl ⟨by omega, b1⟩)
   have p' : t.1 ≤ s.1 := by
    rcases p with p | p
    ·exact p.1
    ·have := mb _ p; omega
   have q' : s.1 ≤ t.1 := by
    rcases q with q | q
    ·exact q.1
    ·have := lb _ q; omega
   omega
  have h2 : s.2 = t.2 := by
   rcases Int.lt_trichotomy s.2 t.2 with c | c | c
   ·have p := (e' s.2).2 (.inl ⟨by omega, c⟩)
    rcases p with p | p
    ·omega
    ·have := lb _ p; omega
   ·exact c
   ·have p := (e' t.2).1 (.inl ⟨by omega, c⟩)
    rcases p with p | p
    ·omega
    ·have := mb _ p; omega
  have h3 : s = t := Prod.ext h1 h2
  subst h3
  congr 1
  refine Sep.ext a3 b3 fun x => ⟨fun h => ?_, fun h => ?_⟩
  ·have := lb x h
   rcases (e' x).1 (.inr h) with p | p
   ·omega
   ·exact p
  ·have := mb x h
   rcases (e' x).2 (.inr h) with p | p
   ·omega
   ·exact p
def addStep (st : List Sp × Bool × Sp) (t : Sp) : List Sp × Bool × Sp :=
 if t.2 < st.2.2.1 then (st.1 ++ [t], st.2.1, st.2.2)
 else if st.2.2.2 < t.1 then ((if st.2.1 then st.1 else st.1 ++ [st.2.2]) ++ [t], true, st.2.2)
 else (st.1, st.2.1, (min st.2.2.1 t.1, max st.2.2.2 t.2))
def addEnd (st : List Sp × Bool × Sp) : List Sp := if st.2.1 then st.1 else st.1 ++ [st.2.2]
def addS (l : List Sp) (s : Sp) : List Sp := if s.2 ≤ s.1 then l else addEnd (l.foldl addStep ([], false, s))
theorem add_in : ∀ (q : List Sp) (o : List Sp) (t : Sp) (S : Int → Prop), Sep q → Sep (o ++ [t]) → (∀ u ∈ o, ∀ v ∈ q, u.2 < v.1) → (∀ x, inS (o ++ [t]) x ↔ S x) →
  Sep (addEnd (q.foldl addStep (o, false, t))) ∧ ∀ x, inS (addEnd (q.foldl addStep (o, false, t))) x ↔ S x ∨ inS q x
 | [], o, t, S, _, h2, _, h4 => by
  refine ⟨by simpa [addEnd] using h2, fun x => ?_⟩
  rw [inS_nil, or_false, ← h4]; simp [addEnd]
 | v :: q, o, t, S, h1, h2, h3, h4 => by
  obtain ⟨v1, v2, v3⟩ := sep_cons.1 h1
  obtain ⟨o1, o2, o3⟩ := sep_app.1 h2
  have t1 : t.1 < t.2 := sep_one.1 o2
  have o4 : ∀ u ∈ o, u.2 < t.1 := fun u hu => o3 u hu t (by simp)
  rw [vL]
  by_cases c1 : v.2 < t.1
  ·have e : addStep (o, false, t) v = (o ++ [v], false, t) := if_pos c1
   rw [e]
   have r := add_in q (o ++ [v]) t (fun x => S x ∨ inS [v] x) v3 (by
    rw [List.append_assoc]
    refine sep_app.2 ⟨o1, sep_cons.2 ⟨v1, by simpa using c1, sep_one.2 t1⟩, fun u hu w hw => ?_⟩
    simp only [yY, vC, yE, vS, or_false] at hw
    rcases hw with rfl | rfl
    ·exact h3 u hu _ (by simp)
    ·exact o4 u hu) (fun u hu w hw => by
    rw [yG, yF] at hu
    rcases hu with hu | rfl
    ·exact h3 u hu w (by simp [hw])
    ·exact v2 w hw) (fun x => by
    rw [← h4]
    simp only [inS_app, inS_cons, inS_nil, or_false]
    constructor
    ·rintro ((h | h) | h) <;> simp [h]
    ·rintro ((h | h) | h) <;> simp [h])
   refine ⟨r.1, fun x => (r.2 x).trans ?_⟩
   simp only [inS_cons, inS_nil, or_false, or_assoc]
  ·by_cases c2 : t.2 < v.1
   ·have e : addStep (o, false, t) v = (o ++ [t] ++ [v], true, t) := by
     show (if v.2 < t.1 then _ else if t.2 < v.1 then ((if false = true then o else o ++ [t]) ++ [v], true, t) else _) = _
     rw [if_neg c1, if_pos c2]; rfl
    rw [e]
    have tl : ∀ (q o : List Sp), (∀ w ∈ q, t.2 < w.1 ∧ w.1 < w.2) → q.foldl addStep (o, true, t) = (o ++ q, true, t) := by
     intro q
     induction q with
     | nil => intro o _; simp
     | cons w q ih =>
      intro o hq
      have hw := hq w (by simp)
      rw [vL]
      have e : addStep (o, true, t) w = (o ++ [w], true, t) := by
       show (if w.2 < t.1 then _ else if t.2 < w.1 then ((if true = true then o else o ++ [t]) ++ [w], true, t) else _) = _
       rw [if_neg (by omega), if_pos hw.1]; rfl
      rw [e, ih _ fun w hw => hq w (by simp [hw])]
      simp
    rw [tl q _ fun w hw => ⟨by have := v2 w hw; omega, v3.1 w hw⟩]
    have e2 : addEnd (o ++ [t] ++ [v] ++ q, true, t) = (o ++ [t]) ++ (v :: q) := by simp [addEnd]
    rw [e2]
    refine ⟨sep_app.2 ⟨h2, h1, fun u hu w hw => ?_⟩, fun x => by rw [inS_app, h4]⟩
    rw [yG, yF] at hu
    rcases hu with hu | rfl
    ·exact h3 u hu w hw
    ·rw [yE] at hw
     rcases hw with rfl | hw
     ·exact c2
     ·have := v2 w hw; omega
   ·have e : addStep (o, false, t) v = (o, false, (min t.1 v.1, max t.2 v.2)) := by
     show (if v.2 < t.1 then _ else if t.2 < v.1 then _ else (o, false, (min t.1 v.1, max t.2 v.2))) = _
     rw [if_neg c1, if_neg c2]
    rw [e]
    have r := add_in q o (min t.1 v.1, max t.2 v.2) (fun x => S x ∨ inS [v] x) v3 (by
     refine sep_app.2 ⟨o1, sep_one.2 (by show min t.1 v.1 < max t.2 v.2; omega), fun u hu w hw => ?_⟩
     rw [yF] at hw
     subst hw
     have := o4 u hu
     have := h3 u hu v (by simp)
     show u.2 < min t.1 v.1
     omega) (fun u hu w hw => h3 u hu w (by simp [hw])) (fun x => by
     rw [← h4]
     simp only [inS_app, inS_cons, inS_nil, or_false]
     constructor
     ·rintro (h | h)
      ·exact .inl (.inl h)
      ·by_cases c : t.1 ≤ x ∧ x < t.2
       ·exact .inl (.inr c)
       ·exact .inr (by omega)
     ·rintro ((h | h) | h)
      ·exact .inl h
      ·exact .inr (by omega)
      ·exact .inr (by omega))
    refine ⟨r.1, fun x => (r.2 x).trans ?_⟩
    simp only [inS_cons, inS_nil, or_false, or_assoc]
theorem sep_addS {l : List Sp} {s : Sp} (h : Sep l) : Sep (addS l s) := by
 unfold addS
 split
 ·exact h
 ·exact (add_in l [] s (inS [s]) h (by simpa [sep_one] using Int.not_le.1 ‹_›) (by simp) (by simp)).1
theorem in_addS {l : List Sp} {s : Sp} {x : Int} (h : Sep l) : inS (addS l s) x ↔ inS l x ∨ (s.1 ≤ x ∧ x < s.2) := by
 unfold addS
 split
 ·constructor
  ·exact .inl
  ·rintro (h | h)
   ·exact h
   ·omega
 ·rw [(add_in l [] s (inS [s]) h (by simpa [sep_one] using Int.not_le.1 ‹_›) (by simp) (by simp)).2]
  rw [inS_cons, inS_nil, or_false, or_comm]
def bothS (a b : List Sp) : List Sp := b.foldl addS a
theorem sep_bothS : ∀ {b a : List Sp}, Sep a → Sep (bothS a b)
 | [], _, h => h
 | _ :: b, _, h => sep_bothS (b := b) (sep_addS h)
theorem in_bothS {x : Int} : ∀ {b a : List Sp}, Sep a → (inS (bothS a b) x ↔ inS a x ∨ inS b x)
 | [], _, _ => by simp [bothS, inS_nil]
 | s :: b, a, h => by
  have := in_bothS (x := x) (b := b) (sep_addS (s := s) h)
  show inS (bothS (addS a s) b) x ↔ _
  rw [this, in_addS h, inS_cons, or_assoc]
def ofS (l : List Sp) : List Sp := bothS [] l
theorem sep_ofS {l : List Sp} : Sep (ofS l) := sep_bothS sep_nil
theorem in_ofS {l : List Sp} {x : Int} : inS (ofS l) x ↔ inS l x := by
 unfold ofS
 rw [in_bothS sep_nil, inS_nil, false_or]
theorem ofS_sep {l : List Sp} (h : Sep l) : ofS l = l := Sep.ext sep_ofS h fun _ => in_ofS
theorem ofS_app {l m : List Sp} : ofS (l ++ m) = bothS (ofS l) m := by simp [ofS, bothS]
theorem addS_of {l : List Sp} {s : Sp} (h : Sep l) : ofS (l ++ [s]) = addS l s := by
 rw [ofS_app, ofS_sep h]; rfl
def cut1 (s t : Sp) : List Sp := (if min t.2 s.1 ≤ t.1 then [] else [(t.1, min t.2 s.1)]) ++ (if t.2 ≤ max t.1 s.2 then [] else [(max t.1 s.2, t.2)])
def cutS (l : List Sp) (s : Sp) : List Sp := if s.2 ≤ s.1 then l else l.flatMap (cut1 s)
theorem cut1_in {s t u : Sp} (h : u ∈ cut1 s t) : t.1 ≤ u.1 ∧ u.2 ≤ t.2 ∧ u.1 < u.2 := by
 unfold cut1 at h
 rw [yG] at h
 rcases h with h | h
 ·split at h
  ·simp at h
  ·rw [yF] at h; subst h; simp only; omega
 ·split at h
  ·simp at h
  ·rw [yF] at h; subst h; simp only; omega
theorem cut1_sep {s t : Sp} (hs : s.1 < s.2) : Sep (cut1 s t) := by
 unfold cut1
 refine sep_app.2 ⟨?_, ?_, ?_⟩
 ·split
  ·exact sep_nil
  ·exact sep_one.2 (by simp only; omega)
 ·split
  ·exact sep_nil
  ·exact sep_one.2 (by simp only; omega)
 ·intro a ha b hb
  split at ha
  ·simp at ha
  ·split at hb
   ·simp at hb
   ·rw [yF] at ha hb; subst ha hb; simp only; omega
theorem cut1_mem {s t : Sp} {x : Int} : inS (cut1 s t) x ↔ (t.1 ≤ x ∧ x < t.2) ∧ ¬(s.1 ≤ x ∧ x < s.2) ∨ (t.1 ≤ x ∧ x < t.2 ∧ s.2 ≤ s.1) ∧ inS (cut1 s t) x := by
 constructor
 ·intro h
  by_cases c : s.2 ≤ s.1
  ·obtain ⟨u, h1, h2, h3⟩ := h
   have := cut1_in h1
   exact .inr ⟨⟨by omega, by omega, c⟩, ⟨u, h1, h2, h3⟩⟩
  ·refine .inl ?_
   obtain ⟨u, h1, h2, h3⟩ := h
   unfold cut1 at h1
   rw [yG] at h1
   rcases h1 with h1 | h1
   ·split at h1
    ·simp at h1
    ·rw [yF] at h1; subst h1; simp only at h2 h3; omega
   ·split at h1
    ·simp at h1
    ·rw [yF] at h1; subst h1; simp only at h2 h3; omega
 ·rintro (⟨⟨h1, h2⟩, h3⟩ | h)
  ·unfold cut1
   rw [inS_app]
   by_cases c : x < s.1
   ·left
    rw [if_neg (by omega)]
    exact inS_cons.2 (.inl ⟨by simp only; omega, by simp only; omega⟩)
   ·right
    rw [if_neg (by omega)]
    exact inS_cons.2 (.inl ⟨by simp only; omega, by simp only; omega⟩)
  ·exact h.2
theorem flat_sep {s : Sp} (hs : s.1 < s.2) : ∀ {l : List Sp}, Sep l → Sep (l.flatMap (cut1 s))
 | [], _ => sep_nil
 | t :: l, h => by
  obtain ⟨h1, h2, h3⟩ := sep_cons.1 h
  rw [vT]
  refine sep_app.2 ⟨cut1_sep hs, flat_sep hs h3, fun a ha b hb => ?_⟩
  rw [List.mem_flatMap] at hb
  obtain ⟨u, hu, hb⟩ := hb
  have := cut1_in ha
  have := cut1_in hb
  have := h2 u hu
  omega
theorem sep_cutS {l : List Sp} {s : Sp} (h : Sep l) : Sep (cutS l s) := by
 unfold cutS
 split
 ·exact h
 ·exact flat_sep (by omega) h
theorem in_cutS {l : List Sp} {s : Sp} {x : Int} : inS (cutS l s) x ↔ inS l x ∧ ¬(s.1 ≤ x ∧ x < s.2) := by
 unfold cutS
 split
 ·constructor
  ·exact fun h => ⟨h, by omega⟩
  ·exact fun h => h.1
 ·have hs : ¬ s.2 ≤ s.1 := ‹_›
  have : ∀ l : List Sp, inS (l.flatMap (cut1 s)) x ↔ inS l x ∧ ¬(s.1 ≤ x ∧ x < s.2) := by
   intro l
   induction l with
   | nil => simp [inS_nil]
   | cons t l ih =>
    rw [vT, inS_app, ih, inS_cons, cut1_mem]
    constructor
    ·rintro ((h | h) | h)
     ·exact ⟨.inl h.1, h.2⟩
     ·omega
     ·exact ⟨.inr h.1, h.2⟩
    ·rintro ⟨h | h, h'⟩
     ·exact .inl (.inl ⟨h, h'⟩)
     ·exact .inr ⟨h, h'⟩
  exact this l
def minusS (a b : List Sp) : List Sp := b.foldl cutS a
theorem sep_minusS : ∀ {b a : List Sp}, Sep a → Sep (minusS a b)
 | [], _, h => h
 | _ :: b, _, h => sep_minusS (b := b) (sep_cutS h)
theorem in_minusS {x : Int} : ∀ {b a : List Sp}, inS (minusS a b) x ↔ inS a x ∧ ¬ inS b x
 | [], a => by simp [minusS, inS_nil]
 | s :: b, a => by
  have := in_minusS (x := x) (b := b) (a := cutS a s)
  show inS (minusS (cutS a s) b) x ↔ _
  rw [this, in_cutS, inS_cons, not_or, and_assoc]
def meetS (a b : List Sp) : List Sp := minusS a (minusS a b)
theorem sep_meetS {a b : List Sp} (h : Sep a) : Sep (meetS a b) := sep_minusS h
theorem in_meetS {a b : List Sp} {x : Int} : inS (meetS a b) x ↔ inS a x ∧ inS b x := by
 unfold meetS
 rw [in_minusS, in_minusS]
 constructor
 ·rintro ⟨h1, h2⟩
  exact ⟨h1, Classical.byContradiction fun h => h2 ⟨h1, h⟩⟩
 ·rintro ⟨h1, h2⟩
  exact ⟨h1, fun h => h.2 h2⟩
def mrg (o : List Sp) (s : Sp) : List Sp :=
 if s.2 ≤ s.1 then o else
  match o.getLast? with
  | none => [s]
  | some t => if s.1 ≤ t.2 then o.dropLast ++ [(t.1, max t.2 s.2)] else o ++ [s]
theorem mrg_in : ∀ (d : List Sp) (o : List Sp), d.Pairwise (fun s t => s.1 ≤ t.1) → Sep o → (∀ s ∈ o, ∀ t ∈ d, s.1 ≤ t.1) →
  Sep (d.foldl mrg o) ∧ ∀ x, inS (d.foldl mrg o) x ↔ inS o x ∨ inS d x
 | [], o, _, h, _ => ⟨h, by simp [inS_nil]⟩
 | s :: d, o, hp, h, ho => by
  obtain ⟨hp1, hp2⟩ := yP.1 hp
  rw [vL]
  have key : Sep (mrg o s) ∧ (∀ x, inS (mrg o s) x ↔ inS o x ∨ (s.1 ≤ x ∧ x < s.2)) ∧ ∀ u ∈ mrg o s, ∀ t ∈ d, u.1 ≤ t.1 := by
   unfold mrg
   by_cases c : s.2 ≤ s.1
   ·rw [if_pos c]
    refine ⟨h, fun x => ?_, fun u hu t ht => ho u hu t (by simp [ht])⟩
    constructor
    ·exact .inl
    ·rintro (h | h)
     ·exact h
     ·omega
   ·rw [if_neg c]
    rcases vU o with rfl | ⟨p, t, rfl⟩
    ·simp only [List.getLast?_nil]
     refine ⟨sep_one.2 (by omega), fun x => by rw [inS_cons, inS_nil]; simp, fun u hu t ht => ?_⟩
     rw [yF] at hu
     subst hu
     exact hp1 t ht
    ·rw [vV] at *
     simp only [List.getLast?_append, List.getLast?_singleton, Option.some_or, List.dropLast_concat]
     obtain ⟨p1, p2, p3⟩ := sep_app.1 h
     have t1 := sep_one.1 p2
     have hts := ho t (by simp) s (by simp)
     have p4 : ∀ u ∈ p, u.2 < t.1 := fun u hu => p3 u hu t (by simp)
     by_cases c2 : s.1 ≤ t.2
     ·rw [if_pos c2]
      refine ⟨sep_app.2 ⟨p1, sep_one.2 (by simp only; omega), fun u hu w hw => by rw [yF] at hw; subst hw; exact p4 u hu⟩, fun x => ?_, fun u hu w hw => ?_⟩
      ·simp only [inS_app, inS_cons, inS_nil, or_false, or_assoc]
       constructor
       ·rintro (h | h)
        ·exact .inl h
        ·by_cases c3 : x < t.2
         ·exact .inr (.inl ⟨h.1, c3⟩)
         ·exact .inr (.inr (by omega))
       ·rintro (h | h | h)
        ·exact .inl h
        ·exact .inr (by omega)
        ·exact .inr (by omega)
      ·rw [yG, yF] at hu
       rcases hu with hu | rfl
       ·exact ho u (by simp [hu]) w (by simp [hw])
       ·exact ho t (by simp) w (by simp [hw])
     ·rw [if_neg c2]
      refine ⟨sep_app.2 ⟨h, sep_one.2 (by omega), fun u hu w hw => ?_⟩, fun x => by simp only [inS_app, inS_cons, inS_nil, or_false], fun u hu w hw => ?_⟩
      ·rw [yF] at hw; subst hw
       rw [yG, yF] at hu
       rcases hu with hu | rfl
       ·have := p4 u hu; omega
       ·omega
      ·rw [yG, yF (b := s)] at hu
       rcases hu with hu | rfl
       ·exact ho u hu w (by simp [hw])
       ·exact hp1 w hw
  have r := mrg_in d (mrg o s) hp2 key.1 key.2.2
  refine ⟨r.1, fun x => ?_⟩
  rw [r.2, key.2.1, inS_cons, or_assoc]
theorem mrg_of {d l : List Sp} (hp : d.Pairwise (fun s t => s.1 ≤ t.1)) (hm : ∀ s, s ∈ d ↔ s ∈ l) : d.foldl mrg [] = ofS l := by
 have r := mrg_in d [] hp sep_nil (by simp)
 refine Sep.ext r.1 sep_ofS fun x => ?_
 rw [r.2, in_ofS, inS_nil, false_or]
 simp only [inS, hm]
end Go.Fx.R
namespace Go.Fx.R
theorem sorted_ext {α : Type} {r : α → α → Prop} (hi : ∀ a, ¬ r a a) (ht : ∀ a b c, r a b → r b c → r a c) : ∀ {l m : List α}, l.Pairwise r → m.Pairwise r → (∀ x, x ∈ l ↔ x ∈ m) → l = m
 | [], [], _, _, _ => rfl
 | [], b :: m, _, _, h => by have := (h b).2 (by simp); cases this
 | a :: l, [], _, _, h => by have := (h a).1 (by simp); cases this
 | a :: l, b :: m, h1, h2, h => by
  obtain ⟨h3, h4⟩ := yP.1 h1
  obtain ⟨h5, h6⟩ := yP.1 h2
  have hab : a = b := by
   rcases yE.1 ((h a).1 (by simp)) with e | e
   ·exact e
   ·rcases yE.1 ((h b).2 (by simp)) with f | f
    ·exact f.symm
    ·exact absurd (ht _ _ _ (h3 b f) (h5 a e)) (hi a)
  subst hab
  congr 1
  refine sorted_ext hi ht h4 h6 fun x => ⟨fun hx => ?_, fun hx => ?_⟩
  ·rcases yE.1 ((h x).1 (vW _ hx)) with e | e
   ·subst e; exact absurd (h3 x hx) (hi x)
   ·exact e
  ·rcases yE.1 ((h x).2 (vW _ hx)) with e | e
   ·subst e; exact absurd (h5 x hx) (hi x)
   ·exact e
def posN {α : Type} (lt : α → Bool) (l : List α) : Nat := (l.filter lt).length
def Split {α : Type} (lt : α → Bool) (l : List α) : Prop := l.Pairwise fun a b => lt b = true → lt a = true
theorem posN_eq {α : Type} {lt : α → Bool} {l : List α} {k : Nat} (hk : k ≤ l.length) (h1 : ∀ j (h : j < l.length), j < k → lt l[j] = true) (h2 : ∀ j (h : j < l.length), k ≤ j → lt l[j] = false) : posN lt l = k := by
 unfold posN
 conv => lhs; rw [← vX k l]
 rw [List.filter_append, List.filter_eq_self.2, uH.2, yZ, vD]
 ·omega
 ·intro m hm
  obtain ⟨j, hj, rfl⟩ := vE hm
  rw [List.length_drop] at hj
  have := h2 (k + j) (by omega) (by omega)
  rw [List.getElem_drop, this]; simp
 ·intro m hm
  obtain ⟨j, hj, rfl⟩ := vE hm
  rw [vD] at hj
  rw [List.getElem_take]
  exact h1 j (by omega) (by omega)
theorem posN_le {α : Type} {lt : α → Bool} {l : List α} : posN lt l ≤ l.length := vY ..
theorem posN_cons {α : Type} {lt : α → Bool} {a : α} {l : List α} : posN lt (a :: l) = (if lt a then 1 else 0) + posN lt l := by
 unfold posN
 rw [List.filter_cons]
 split <;> simp <;> omega
theorem posN_zero {α : Type} {lt : α → Bool} {l : List α} (h : ∀ x ∈ l, lt x = false) : posN lt l = 0 := by
 unfold posN
 rw [vF, uH]
 intro x hx; simp [h x hx]
theorem split_at {α : Type} {lt : α → Bool} : ∀ {l : List α}, Split lt l → (∀ j (h : j < l.length), j < posN lt l → lt l[j] = true) ∧ (∀ j (h : j < l.length), posN lt l ≤ j → lt l[j] = false)
 | [], _ => ⟨fun j h => by simp at h, fun j h => by simp at h⟩
 | a :: l, h => by
  obtain ⟨h1, h2⟩ := yP.1 h
  obtain ⟨i1, i2⟩ := split_at h2
  rw [posN_cons]
  cases ha : lt a with
  | true =>
   simp only [if_true]
   refine ⟨fun j hj hlt => ?_, fun j hj hge => ?_⟩
   ·cases j with
    | zero => exact ha
    | succ j => exact i1 j (by simpa using hj) (by omega)
   ·cases j with
    | zero => omega
    | succ j => exact i2 j (by simpa using hj) (by omega)
  | false =>
   have hz : posN lt l = 0 := posN_zero fun x hx => by
    cases hx2 : lt x with
    | false => rfl
    | true => rw [h1 x hx hx2] at ha; cases ha
   rw [hz]
   simp only [Bool.false_eq_true, if_false]
   refine ⟨fun j hj hlt => by omega, fun j hj hge => ?_⟩
   cases j with
   | zero => exact ha
   | succ j => exact i2 j (by simpa using hj) (by omega)
end Go.Fx.R
namespace Go.Fx.R
abbrev S := List UInt8
theorem s_irr (a : S) : ¬ a < a := List.lt_irrefl a
theorem s_trans {a b c : S} (h1 : a < b) (h2 : b < c) : a < c := List.lt_trans h1 h2
theorem s_tri {a b : S} (h1 : ¬ a < b) (h2 : ¬ b < a) : a = b := List.le_antisymm (List.not_lt.1 h2) (List.not_lt.1 h1)
structure Fet where
 id : Int
 sp : Sp
 deriving DecidableEq, Inhabited
structure Wai where
 id : Int
 need : List Sp
 deriving DecidableEq, Inhabited
structure Mis where
 key : S
 fl : List Fet
 wt : List Wai
 deriving DecidableEq, Inhabited
structure Jns where
 last : Int
 l : List Mis
 deriving DecidableEq
def flown (m : Mis) : List Sp := ofS (m.fl.map (·.sp))
def needed (m : Mis) : List Sp := ofS (m.wt.map (·.need)).flatten
def common (l : List Sp) (s : Sp) : Bool := decide (0 < (meetS l [s]).length)
theorem in_flown {m : Mis} {x : Int} : inS (flown m) x ↔ ∃ f ∈ m.fl, f.sp.1 ≤ x ∧ x < f.sp.2 := by
 unfold flown
 rw [in_ofS]
 constructor
 ·rintro ⟨s, hs, h1, h2⟩
  obtain ⟨f, hf, rfl⟩ := vZ.1 hs
  exact ⟨f, hf, h1, h2⟩
 ·rintro ⟨f, hf, h1, h2⟩
  exact ⟨f.sp, uI hf, h1, h2⟩
theorem in_needed {m : Mis} {x : Int} : inS (needed m) x ↔ ∃ w ∈ m.wt, inS w.need x := by
 unfold needed
 rw [in_ofS]
 constructor
 ·rintro ⟨s, hs, h1, h2⟩
  obtain ⟨l, hl, hs⟩ := List.mem_flatten.1 hs
  obtain ⟨w, hw, rfl⟩ := vZ.1 hl
  exact ⟨w, hw, s, hs, h1, h2⟩
 ·rintro ⟨w, hw, s, hs, h1, h2⟩
  exact ⟨s, List.mem_flatten.2 ⟨_, uI hw, hs⟩, h1, h2⟩
theorem sep_pos {l : List Sp} (h : Sep l) : 0 < l.length ↔ ∃ x, inS l x := by
 constructor
 ·intro h0
  cases l with
  | nil => simp at h0
  | cons s l =>
   have := (sep_cons.1 h).1
   exact ⟨s.1, s, by simp, by omega, this⟩
 ·rintro ⟨x, s, hs, _⟩
  exact List.length_pos_of_mem hs
theorem common_iff {l : List Sp} {s : Sp} (h : Sep l) : common l s = true ↔ ∃ x, inS l x ∧ s.1 ≤ x ∧ x < s.2 := by
 unfold common
 rw [decide_eq_true_eq, sep_pos (sep_meetS h)]
 refine exists_congr fun x => ?_
 rw [in_meetS, inS_cons]
 simp [inS_nil]
theorem minus_zero {a b : List Sp} (h : Sep a) : (minusS a b).length = 0 ↔ ∀ x, inS a x → inS b x := by
 have hp := sep_pos (sep_minusS (b := b) h)
 constructor
 ·intro h0 x hx
  apply Classical.byContradiction
  intro hn
  have := hp.2 ⟨x, in_minusS.2 ⟨hx, hn⟩⟩
  omega
 ·intro hx
  apply Classical.byContradiction
  intro hn
  obtain ⟨x, hx'⟩ := hp.1 (by omega)
  obtain ⟨h1, h2⟩ := in_minusS.1 hx'
  exact h2 (hx x h1)
end Go.Fx.R
namespace Go.Fx.J
open Go Go.Fx Go.Proofs Go.Fx.R
def enS (s : Sp) : List V := [.i s.1, .i s.2]
def encI (x : Int) : List V := [.i x]
abbrev spans (l : List Sp) : V := .ro 2 (l.map enS)
abbrev Ok (f : FuncId) (xs : List V) (R : V → List Blk → Prop) : Prop := OkN Tryz.prog f xs [] [] R
theorem ok_of {f : FuncId} {l0 l : LCode} {rs : List LRes} {nt : Nat} (hl : rlF Tryz.prog f l0 = some (l, rs, nt)) {args : List V} {R : V → List Blk → Prop} (hlen : args.length ≤ nt)
  (h : aw (cxN Tryz.prog []) l (retP [] 0 rs R) (fun _ _ => False) (retP [] 0 rs R) ⟨args0 0 args, [], 0⟩) : Ok f args R :=
 okN_of pol [] hl hlen trivial (fun k hk => by simp at hk) h
theorem enS_len {s : Sp} : (enS s).length = 2 := rfl
theorem enS_take {s : Sp} : yA 2 (enS s) = enS s := rfl
theorem enS_0 {s : Sp} : (enS s)[0]? = some (.i s.1) := rfl
theorem enS_1 {s : Sp} : (enS s)[1]? = some (.i s.2) := rfl
theorem enS_C {s : Sp} : (enS s).all isC = true := rfl
theorem enS_D {s : Sp} : (enS s).all isD = true := rfl
theorem enS_drop {s : Sp} : List.drop 2 (enS s) = [] := rfl
theorem enS_kill {s : Sp} {M : List Nat} : kills M (enS s) = enS s := rfl
theorem encI_0 {x : Int} : (encI x)[0]? = some (.i x) := rfl
def enL (a : List Sp) : List V := [spans a]
theorem enL_0 {a : List Sp} : (enL a)[0]? = some (spans a) := rfl
def Bd (l : List Sp) : Prop := ∀ s ∈ l, (0 ≤ s.1 ∧ s.1 ≤ 1099511627776) ∧ 0 ≤ s.2 ∧ s.2 ≤ 1099511627776
def Vd (l : List Sp) : Prop := Sep l ∧ Bd l
def vdB : Int → List Sp → Bool
 | _, [] => true
 | t, s :: r => (decide (0 ≤ s.1) && decide (s.1 < s.2) && decide (s.2 ≤ 1099511627776)) && decide (t < s.1) && vdB s.2 r
theorem vdB_iff : ∀ {l : List Sp} {t : Int}, vdB t l = true ↔ Vd l ∧ ∀ s ∈ l, t < s.1
 | [], t => by simp [vdB, Vd, sep_nil, Bd]
 | s :: r, t => by
  have ih := vdB_iff (l := r) (t := s.2)
  simp only [vdB, vA, decide_eq_true_eq, ih, Vd, sep_cons, Bd, yE, forall_eq_or_imp]
  constructor
  ·rintro ⟨⟨⟨⟨h1, h2⟩, h3⟩, h4⟩, ⟨h5, h6⟩, h7⟩
   exact ⟨⟨⟨h2, h7, h5⟩, ⟨⟨h1, by omega⟩, by omega, h3⟩, h6⟩, h4, fun u hu => by have := h7 u hu; omega⟩
  ·rintro ⟨⟨⟨h2, h7, h5⟩, ⟨⟨h1, _⟩, _, h3⟩, h6⟩, h4, _⟩
   exact ⟨⟨⟨⟨h1, h2⟩, h3⟩, h4⟩, ⟨h5, h6⟩, h7⟩
def vd (l : List Sp) : Bool := vdB (-1) l
theorem vd_iff {l : List Sp} : vd l = true ↔ Vd l := by
 unfold vd
 rw [vdB_iff]
 constructor
 ·exact fun h => h.1
 ·exact fun h => ⟨h, fun s hs => by have := (h.2 s hs).1.1; omega⟩
def tot (l : List Sp) : Int := (l.map fun s => s.2 - s.1).sum
theorem tot_nil : tot [] = 0 := rfl
theorem tot_cons {s : Sp} {l : List Sp} : tot (s :: l) = s.2 - s.1 + tot l := by simp [tot]
theorem tot_app {l m : List Sp} : tot (l ++ m) = tot l + tot m := by simp [tot]
theorem tot_le : ∀ {l : List Sp} {a b : Int}, Sep l → (∀ s ∈ l, a ≤ s.1 ∧ s.2 ≤ b) → a ≤ b → 0 ≤ tot l ∧ tot l ≤ b - a
 | [], a, b, _, _, h => by rw [tot_nil]; omega
 | s :: l, a, b, h1, h2, h => by
  obtain ⟨h3, h4, h5⟩ := sep_cons.1 h1
  have hs := h2 s (by simp)
  have ih := tot_le (l := l) (a := s.2) (b := b) h5 (fun t ht => ⟨by have := h4 t ht; omega, (h2 t (by simp [ht])).2⟩) hs.2
  rw [tot_cons]
  omega
theorem Vd.tot {l : List Sp} (h : Vd l) : 0 ≤ tot l ∧ J.tot l ≤ 1099511627776 := by
 have := tot_le (a := 0) (b := 1099511627776) h.1 (fun s hs => ⟨(h.2 s hs).1.1, (h.2 s hs).2.2⟩) (by omega)
 omega
theorem Vd.tail {s : Sp} {l : List Sp} (h : Vd (s :: l)) : Vd l := ⟨(sep_cons.1 h.1).2.2, fun t ht => h.2 t (by simp [ht])⟩
theorem Vd.take {l : List Sp} (h : Vd l) (k : Nat) : Vd (l.take k) := ⟨⟨fun s hs => h.1.1 s (vM hs), h.1.2.sublist (List.take_sublist k l)⟩, fun t ht => h.2 t (vM ht)⟩
theorem Vd.len {l : List Sp} (h : Vd l) : l.length ≤ 1099511627776 := by
 have key : ∀ {l : List Sp}, Sep l → (l.length : Int) ≤ J.tot l := by
  intro l
  induction l with
  | nil => intro _; simp [J.tot]
  | cons s l ih =>
   intro h
   obtain ⟨h1, h2, h3⟩ := sep_cons.1 h
   have := ih h3
   rw [tot_cons, yQ]
   omega
 have := key h.1
 have := h.tot
 omega
theorem vd_of {l : List Sp} (h : Sep l) (hx : ∀ x, inS l x → 0 ≤ x ∧ x < 1099511627776) : Vd l := by
 refine ⟨h, fun s hs => ?_⟩
 have h1 := h.1 s hs
 have a := hx s.1 ⟨s, hs, by omega, h1⟩
 have b := hx (s.2 - 1) ⟨s, hs, by omega, by omega⟩
 omega
theorem Vd.in {l : List Sp} (h : Vd l) {x : Int} (hx : inS l x) : 0 ≤ x ∧ x < 1099511627776 := by
 obtain ⟨s, hs, h1, h2⟩ := hx
 have := h.2 s hs
 omega
theorem bd_in {l : List Sp} (h : Bd l) {x : Int} (hx : inS l x) : 0 ≤ x ∧ x < 1099511627776 := by
 obtain ⟨s, hs, h1, h2⟩ := hx
 have := h s hs
 omega
def Bs (s : Sp) : Prop := (0 ≤ s.1 ∧ s.1 ≤ 1099511627776) ∧ 0 ≤ s.2 ∧ s.2 ≤ 1099511627776
theorem Vd.add {l : List Sp} {s : Sp} (h : Vd l) (hs : Bs s) : Vd (addS l s) := vd_of (sep_addS h.1) fun x hx => by
 rw [in_addS h.1] at hx
 rcases hx with hx | hx
 ·exact h.in hx
 ·unfold Bs at hs; omega
theorem Vd.of {l : List Sp} (h : Bd l) : Vd (ofS l) := vd_of sep_ofS fun x hx => bd_in h (in_ofS.1 hx)
theorem Vd.minus {a b : List Sp} (h : Vd a) : Vd (minusS a b) := vd_of (sep_minusS h.1) fun x hx => h.in (in_minusS.1 hx).1
theorem Vd.meet {a b : List Sp} (h : Vd a) : Vd (meetS a b) := vd_of (sep_meetS h.1) fun x hx => h.in (in_meetS.1 hx).1
def sb (l : S) : ByteArray := ⟨l.toArray⟩
abbrev sv (l : S) : V := .v (.string (sb l))
theorem sb_size {l : S} : (sb l).size = l.length := rfl
theorem sb_list {l : S} : (sb l).toList = l := (ByteArray.toList_eq _).trans rfl
theorem sb_get {l : S} {j : Nat} : (sb l)[j]? = l[j]? := by
 by_cases h : j < l.length
 ·rw [yM h]
  exact getElem?_pos (sb l) j h
 ·rw [uJ (by omega)]
  exact getElem?_neg (sb l) j h
theorem less {a b : S} : Op.bytesLess a b = decide (a < b) := bytesLess_eq a b
theorem k_nil : Value.string ⟨#[]⟩ = .string (sb []) := rfl
def _root_.Go.Fx.R.Fet.enc (f : Fet) : List V := [.i f.id, .i f.sp.1, .i f.sp.2]
abbrev fets (l : List Fet) : V := .ro 3 (l.map Fet.enc)
def _root_.Go.Fx.R.Wai.enc (w : Wai) : List V := [.i w.id, spans w.need]
abbrev wais (l : List Wai) : V := .ro 2 (l.map Wai.enc)
def _root_.Go.Fx.R.Mis.enc (m : Mis) : List V := [sv m.key, fets m.fl, wais m.wt]
abbrev miss (l : List Mis) : V := .ro 3 (l.map Mis.enc)
abbrev _root_.Go.Fx.R.Jns.enc (j : Jns) : List V := [.i j.last, miss j.l]
theorem ft_len {f : Fet} : f.enc.length = 3 := rfl
theorem ft_t {f : Fet} : yA 3 f.enc = f.enc := rfl
theorem ft_d1 {f : Fet} : yA 2 (List.drop 1 f.enc) = enS f.sp := rfl
theorem ft_0 {f : Fet} : f.enc[0]? = some (.i f.id) := rfl
theorem ft_1 {f : Fet} : f.enc[1]? = some (.i f.sp.1) := rfl
theorem ft_2 {f : Fet} : f.enc[2]? = some (.i f.sp.2) := rfl
theorem ft_C {f : Fet} : f.enc.all isC = true := rfl
theorem ft_D {f : Fet} : f.enc.all isD = true := rfl
theorem ft_k {f : Fet} {M : List Nat} : kills M f.enc = f.enc := rfl
theorem ft_wf {f : Fet} {q : List Blk} : wfL q f.enc = True := eq_true ⟨trivial, trivial, trivial, trivial⟩
theorem wt_len {f : Wai} : f.enc.length = 2 := rfl
theorem wt_t {f : Wai} : yA 2 f.enc = f.enc := rfl
theorem wt_0 {f : Wai} : f.enc[0]? = some (.i f.id) := rfl
theorem wt_1 {f : Wai} : f.enc[1]? = some (.ro 2 (f.need.map enS)) := rfl
theorem wt_C {f : Wai} : f.enc.all isC = true := rfl
theorem wt_D {f : Wai} : f.enc.all isD = true := rfl
theorem wt_k {f : Wai} {M : List Nat} : kills M f.enc = f.enc := rfl
theorem wt_wf {f : Wai} {q : List Blk} : wfL q f.enc = True := eq_true ⟨trivial, trivial, trivial⟩
theorem wt_le {f : Wai} : leVs f.enc f.enc = True := eq_true ⟨rfl, rfl, trivial⟩
theorem ms_len {f : Mis} : f.enc.length = 3 := rfl
theorem ms_t {f : Mis} : yA 3 f.enc = f.enc := rfl
theorem ms_0 {f : Mis} : f.enc[0]? = some (sv f.key) := rfl
theorem ms_1 {f : Mis} : f.enc[1]? = some (.ro 3 (f.fl.map Fet.enc)) := rfl
theorem ms_2 {f : Mis} : f.enc[2]? = some (.ro 2 (f.wt.map Wai.enc)) := rfl
theorem ms_C {f : Mis} : f.enc.all isC = true := rfl
theorem ms_k {f : Mis} {M : List Nat} : kills M f.enc = f.enc := rfl
open And renaming intro → aI
set_option linter.defProp false
def rX := aI (aI (aI (aI (aI (aI (aI (@Bool.and_self) (@Bool.and_true)) (aI (@Bool.false_eq_true) (aI (@Bool.not_false) (@Bool.not_true)))) (aI (aI (@Int.toNat_natCast) (aI (@List.all_cons.{0}) (@List.all_nil.{0}))) (aI (@yZ.{0}) (aI (@yY.{0}) (@List.drop_nil.{0}))))) (aI (aI (aI (@List.drop_zero.{0}) (@List.getD_eq_getElem?_getD.{0})) (aI (@vG.{0}) (aI (@List.getElem_map.{0,0}) (@yH.{0})))) (aI (aI (@yQ.{0}) (aI (@yS.{0,0}) (@uA.{0}))) (aI (@vN.{0,0}) (aI (@vK.{0,0}) (@yE.{0})))))) (aI (aI (aI (aI (@vC.{0}) (@vS.{0})) (aI (@uB.{0}) (aI (@uC.{0}) (@List.set_cons_zero.{0})))) (aI (aI (@List.take_nil.{0}) (aI (@List.take_zero.{0}) (@Nat.add_zero))) (aI (@yI) (aI (@yX) (@Option.getD_none.{0}))))) (aI (aI (aI (@Option.getD_some.{0}) (aI (@Option.map_none.{0,0}) (@Option.map_some.{0,0}))) (aI (@V.v.injEq) (aI (@Value.bool.injEq) (@Value.int.injEq)))) (aI (aI (@aOpsY_nil) (aI (@qG) (@qH))) (aI (@qI) (aI (@and_self) (@and_true))))))) (aI (aI (aI (aI (aI (@qu) (@qv)) (aI (@qq) (aI (@qr) (@qs)))) (aI (aI (@qt) (aI (@qC) (@qB))) (aI (@qE) (aI (@qD) (@qz))))) (aI (aI (aI (@qx) (aI (@qF) (@qA))) (aI (@qw) (aI (@qy) (@qp)))) (aI (aI (@aw_yreg) (aI (@begRd_e) (@zA))) (aI (@zC) (aI (@zD) (@endLp_e)))))) (aI (aI (aI (aI (@endRd_e) (@zx)) (aI (@zy) (aI (@zw) (@false_or)))) (aI (aI (@zz) (aI (@zG) (@zH))) (aI (@zB) (aI (@wB) (@zL))))) (aI (aI (aI (@zP) (aI (@zJ) (@lg0))) (aI (@lg1) (aI (@kc) (@kf)))) (aI (aI (@lg2) (aI (@lg3) (@lg4))) (aI (@lg5) (aI (@lg6) (@lg7)))))))) (aI (aI (aI (aI (aI (aI (@lg8) (@lg9)) (aI (@zN) (aI (@zR) (@zT)))) (aI (aI (@zV) (aI (@kh) (@zK))) (aI (@zO) (aI (@ke) (@kg))))) (aI (aI (aI (@zS) (aI (@zU) (@zW))) (aI (@zX) (aI (@zY) (@zZ)))) (aI (aI (@ka) (aI (@kb) (@zM))) (aI (@zQ) (aI (@not_false_eq_true) (@zk)))))) (aI (aI (aI (aI (@qM) (@zf)) (aI (@zo) (aI (@qR) (@qL)))) (aI (aI (@qZ) (aI (@zp) (@zt))) (aI (@zn) (aI (@qV) (@za))))) (aI (aI (aI (@zb) (aI (@zd) (@zq))) (aI (@qP) (aI (@qX) (@qQ)))) (aI (aI (@qS) (aI (@qT) (@ze))) (aI (@qN) (aI (@zi) (@qW))))))) (aI (aI (aI (aI (aI (@zh) (@qJ)) (aI (@zg) (aI (@zr) (@qU)))) (aI (aI (@qK) (aI (@zj) (@zm))) (aI (@zc) (aI (@zl) (@qY))))) (aI (aI (aI (@qO) (aI (@or_false) (@zv))) (aI (@zu) (aI (@qe) (@qj)))) (aI (aI (@qm) (aI (@qc) (@qd))) (aI (@qf) (aI (@qo) (@qh)))))) (aI (aI (aI (aI (@qa) (@qn)) (aI (@qg) (aI (@qb) (@qk)))) (aI (aI (@ql) (aI (@qi) (@zI))) (aI (@true_and) (aI (@yg_bin) (@yg_fld))))) (aI (aI (aI (@yg_idx) (aI (@yg_load) (@yg_mov))) (aI (@yo_bin) (aI (@yo_build) (@yo_fld)))) (aI (aI (@yo_len) (aI (@yo_load) (@yo_mov))) (aI (@yo_not) (aI (@yo_pick) (@yo_yld))))))))
def rY := aI (aI (aI (aI (aI (aI (@wc) (@wd)) (aI (@wC) (@wE))) (aI (aI (@wJ) (@wI)) (aI (@wH) (@wG)))) (aI (aI (aI (@wF) (@wK)) (aI (@wD) (@zF))) (aI (aI (@zE) (@kR)) (aI (@wn) (aI (@wm) (@endT_r)))))) (aI (aI (aI (aI (@wb) (@wa)) (aI (@kG) (@kH))) (aI (aI (@kK) (@kJ)) (aI (@kI) (@wB)))) (aI (aI (aI (@itrK_i) (@wq)) (aI (@kN) (@kM))) (aI (aI (@kL) (@kO)) (aI (@kr) (aI (@ko) (@kq))))))) (aI (aI (aI (aI (aI (@kv) (@kw)) (aI (@kx) (@kj))) (aI (aI (@kn) (@wx)) (aI (@ww) (@wv)))) (aI (aI (aI (@wu) (@wr)) (aI (@wz) (@wy))) (aI (aI (@kQ) (@kW)) (aI (@kX) (aI (@ki) (@rcdB_s)))))) (aI (aI (aI (aI (@wg) (@wl)) (aI (@wi) (@wj))) (aI (aI (@wh) (@kZ)) (aI (@kY) (aI (@kD) (@kz))))) (aI (aI (aI (@kC) (@kF)) (aI (@ky) (@we))) (aI (aI (@kP) (@kT)) (aI (@kV) (aI (@kU) (@kS)))))))
def rZ := @encI_0
end Go.Fx.J
namespace Go.Fx.J
open Go Go.Fx Go.Proofs Go.Fx.R
set_option maxRecDepth 20000
theorem tot_take {l : List Sp} {k : Nat} (h : k < l.length) : tot (l.take (k + 1)) = tot (l.take k) + (l[k].2 - l[k].1) := by
 rw [yT, yM h, tot_app]
 simp [tot]
theorem ok71 (s : Sp) : Ok 71 [.agg (enS s)] (Is (.b (decide (0 ≤ s.1) && decide (s.1 < s.2) && decide (s.2 ≤ 1099511627776)))) := by
 refine ok_of lw71 (by simp) ?_
 unfold c71
 simp -implicitDefEqProofs only [rX,↓rY,ofConst,cells?,↓reduceIte,Nat.reduceEqDiff,freshP,resP,tupV,wfV,cxN,enS_0,enS_1,args0]
 cases h1 : decide (s.1 ≥ 0) <;> cases h2 : decide (s.1 < s.2) <;> cases h3 : decide (s.2 ≤ 1099511627776) <;> simp -implicitDefEqProofs only [rX,↓rY] <;> simp_all
theorem vdB_drop {t : Int} {l : List Sp} {k : Nat} (h : k < l.length) (u : Int) : vdB u (l.drop k) = ((decide (0 ≤ l[k].1) && decide (l[k].1 < l[k].2) && decide (l[k].2 ≤ 1099511627776)) && decide (u < l[k].1) && vdB l[k].2 (l.drop (k + 1))) := by
 rw [List.drop_eq_getElem_cons h]; rfl
theorem ok37 (l : List Sp) : Ok 37 [spans l] (Is (.b (vd l))) := by
 refine ok_of lw37 (by simp) ?_
 unfold c37 spans
 simp -implicitDefEqProofs only [rX,↓rY,ofConst,↓reduceIte,reduceCtorEq,cxN,args0]
 intro hm
 refine loopP_intro (fun g : Nat × Int => ⟨[(8, .i g.1), (7, .i l.length), (6, .ro 2 (l.map enS)), (3, .i g.2)], [], 0⟩) (fun g => g.1 ≤ l.length ∧ vd l = vdB g.2 (l.drop g.1)) (fun g => l.length - g.1) (0, -1) ⟨by simp, rfl⟩ ?_ ?_
 ·simp -implicitDefEqProofs only [rX,↓reduceIte,Nat.reduceEqDiff,leE,leH,keepP,wfE,wfB,wfV,yL]
 rintro ⟨k, t⟩ ⟨hk, hv⟩
 simp only at hk hv
 unfold c37l0
 simp -implicitDefEqProofs only [rX,↓rY,ofConst,cells?,splice,↓reduceIte,Nat.reduceEqDiff,Nat.reduceAdd,freshP,resP,tupV,wfV,enS_len,enS_take,enS_C]
 simp only [br, decide_eq_true_eq, decide_eq_false_iff_not]
 refine ⟨fun h => ?_, fun h => ?_⟩
 ·have hk' : k < l.length := by omega
  rw [vdB_drop (t := t) hk'] at hv
  refine ⟨⟨by omega, h⟩, hk', ?_⟩
  refine call_is (ok71 l[k]) ⟨⟨⟨trivial, trivial, trivial⟩, trivial⟩, ⟨rfl, rfl, trivial⟩, trivial⟩ rfl trivial ?_
  cases hg : (decide (0 ≤ l[k].1) && decide (l[k].1 < l[k].2) && decide (l[k].2 ≤ 1099511627776)) with
  | false =>
   rw [hg] at hv
   simp -implicitDefEqProofs only [rX,↓rY,ofConst,↓reduceIte,Nat.reduceEqDiff,resP,tupV,wfV]
   simp [hv]
  | true =>
   rw [hg] at hv
   simp -implicitDefEqProofs only [rX,↓rY,ofConst,↓reduceIte,Nat.reduceEqDiff,resP,tupV,leE,leH,keepP,wfE,wfB,wfV,enS_0,enS_1]
   simp only [br, decide_eq_true_eq, decide_eq_false_iff_not]
   refine ⟨fun h2 => ?_, fun h2 => ?_⟩
   ·simp [hv]; omega
   ·refine ⟨by simp only [lo, hi, maxLen] at *; omega, (k + 1, l[k].2), ⟨⟨by simp only; omega, ?_⟩, by simp only; omega⟩, by simp⟩
    rw [hv]
    simp; omega
 ·rw [hv, List.drop_of_length_le (by omega)]; rfl
end Go.Fx.J
namespace Go.Fx.J
open Go Go.Fx Go.Proofs Go.Fx.R
set_option maxRecDepth 20000
theorem raw50 (l : List Sp) (hl : l.length ≤ 4398046511104) : Ok 46 [spans l] (fun r h => IsA (.sl 0 0 l.length) [.arr 2 (l.map enS)] r h ∨ (l = [] ∧ IsA .nil [] r h)) := by
 refine ok_of lw46 (by simp) ?_
 unfold c46 spans
 simp -implicitDefEqProofs only [rX,↓rY,ofConst,↓reduceIte,Nat.reduceEqDiff,reduceCtorEq,freshP,litsP,killE,killB,kill,St.kill,cxN,args0]
 have hA : retP [] 0 [LRes.tmp 2] (fun r h => IsA (.sl 0 0 l.length) [.arr 2 (l.map enS)] r h ∨ (l = [] ∧ IsA .nil [] r h)) ⟨[(2, V.sl 0 0 l.length), (7, V.sl 0 0 l.length), (6, V.ro 2 (yN enS l)), (5, V.any), (4, V.b false), (3, V.ro 2 (yN enS l)), (2, V.v (Value.slice none 0 0)), (0, V.ro 2 (yN enS l))], [Blk.arr 2 (yN enS l), Blk.dead], 0⟩ := by
  rw [retP_eq]
  simp -implicitDefEqProofs only [rX,↓reduceIte,resP,tupV,keepP,liveP,wfV]
  exact ⟨[.arr 2 (l.map enS)], ⟨by simp [leH, leB], by simp [wfV, wfL, liveP], by simp [wfB]⟩, .inl ⟨rfl, rfl⟩⟩
 refine ⟨fun _ => ⟨.inr trivial, by omega, hA⟩, fun h => ⟨?_, .inr trivial, by omega, hA⟩⟩
 have h0 : l = [] := by simpa using h
 rw [retP_eq]
 simp -implicitDefEqProofs only [rX,↓reduceIte,resP,tupV,keepP,wfV]
 exact ⟨[], ⟨by simp [leH], by simp, by simp [wfB]⟩, .inr ⟨h0, rfl, rfl⟩⟩
theorem ok46A (l : List Sp) (hl : l.length ≤ 4398046511104) : Ok 46 [spans l] (IsA (.sl 0 0 l.length) [.arr 2 (l.map enS)]) := by
 refine okN_ghost (raw50 l hl) ?_
 rintro r h (⟨rfl, rfl⟩ | ⟨rfl, rfl, rfl⟩)
 ·exact ⟨_, _, ⟨rfl, rfl⟩, _, .refl _, by simp -implicitDefEqProofs only [rX,↓reduceIte,leE,leH,leB,keepP,liveP,wfE,wfB,wfV]⟩
 ·refine ⟨_, _, ⟨rfl, rfl⟩, _, .virt 1 2 (by decide) (.nilE 0 0 rfl (.refl _)), ?_⟩
  simp -implicitDefEqProofs only [rX,↓reduceIte,leE,leH,leB,keepP,liveP,wfE,wfB,wfV,yO]
theorem ok46 (l : List Sp) (hl : l.length ≤ 4398046511104) : Ok 46 [spans l] (Is (spans l)) := by
 refine ⟨rlF_callable lw46, Fn_give (R := fun q hs => wk (spans l) (gvV (fun _ => true) hs q)) ?_ fun _ _ h => h⟩
 refine (okN_post (ok46A l hl) ?_).2
 rintro r h ⟨rfl, rfl⟩
 have ht : yA l.length (l.map enS) = l.map enS := yC (by simp)
 simp [gvV, gvL, wk, wkL, wkR, spans, blk, ht]
theorem ok108 (l : List Sp) : Ok 108 [spans l] (IsA (.clo 121 [.ptr 0 0 0]) [.var [spans l]]) := by
 refine ok_of lw108 (by simp) ?_
 unfold c108 spans
 simp -implicitDefEqProofs only [rX,↓rY,ofConst,cells?,↓reduceIte,Nat.reduceEqDiff,freshP,resP,tupV,leH,leB,leV,leVs,keepP,liveP,wfB,wfV,wfL,Nat.reduceLeDiff,cxN,args0,retP_isA]
structure E90 (l : List Sp) (k i : Nat) (e : Env) : Prop where
 e0 : get e 0 = .itr k
 e5 : get e 5 = spans l
 e6 : get e 6 = .i l.length
 e7 : get e 7 = .i i
end Go.Fx.J
namespace Go.Fx.J
open Go Go.Fx Go.Proofs Go.Fx.R
set_option maxRecDepth 20000
structure It90 {G : Type} (hp : G → List Blk) (L : Nat) (l : List Sp) (k a : Nat) (fx : List Nat) : Prop where
 hm : l.length ≤ maxLen
 len : ∀ g, (hp g).length = L
 ha : ∀ g tl, (hp g ++ tl)[a]? = some (.var [spans l])
 kp : ∀ g, keepP fx (hp g)
 wf : ∀ g, wfB (hp g) (hp g)
 lk : ∀ g, ∃ t e, (hp g)[k]? = some (.rcd t e)
theorem leH_app : ∀ (h l : List Blk), leH (h ++ l) h
 | [], _ => by unfold leH; trivial
 | b :: h, l => ⟨leB_refl b, leH_app h l⟩
section
variable {G : Type} {hp : G → List Blk} {L : Nat} {l : List Sp} {k a : Nat} {fx : List Nat} {Y : Yt} {K : List Blk → Prop} {Inv : Nat → G → Prop}
abbrev pat90 {G : Type} (hp : G → List Blk) (l : List Sp) (k : Nat) (g : Nat × G) : St := ⟨[(7, .i g.1), (6, .i l.length), (5, spans l), (0, .itr k)], hp g.2, 0⟩
theorem it121 (H : It90 hp L l k a fx)
  (hY : ∀ i g (hi : i < l.length), Inv i g → ∀ (e : Env) (bb : Nat) (Z : V → St → Prop), E90 l k i e →
   (∀ e' g' tl, E90 l k i e' → Inv (i + 1) g' → Z (.b true) ⟨e', hp g' ++ tl, bb⟩) → Y [.agg (enS l[i])] ⟨e, hp g ++ [.var (enS l[i])], bb⟩ Z)
  (hK : ∀ g, Inv l.length g → K (hp g)) (g : G) (hg : Inv 0 g) :
  I0 Tryz.prog 121 [.itr k, .ptr a 0 0] fx k Y (hp g) K := by
 refine itN_of pol fx lw121 (by simp) ?_
 have hlen := H.len g
 have a0 := H.ha g []
 rw [yZ] at a0
 obtain ⟨tk, ek, lk⟩ := H.lk g
 unfold c121
 simp -implicitDefEqProofs only [rX,↓rY,ofConst,↓reduceIte,reduceCtorEq,args0,a0,spans]
 intro hm
 refine loopP_intro (pat90 hp l k) (fun g => g.1 ≤ l.length ∧ Inv g.1 g.2) (fun g => l.length - g.1) (0, g) ⟨by simp, hg⟩ ?_ ?_
 ·simp -implicitDefEqProofs only [rX,↓reduceIte,Nat.reduceEqDiff,reduceCtorEq,leE,liveP,wfE,wfV,lk,eq_true (H.kp g),eq_true (H.wf g),yL]
  exact leH_refl _
 rintro ⟨i, g⟩ ⟨hi, hI⟩
 simp only at hi hI
 have hlen := H.len g
 have go : ∀ j tl, (hp g ++ tl)[L + j]? = tl[j]? := fun j tl => by
  rw [uK (by omega), hlen]; congr 1; omega
 have go0 : ∀ tl, (hp g ++ tl)[L]? = tl[0]? := go 0
 have gs : ∀ j tl B, (hp g ++ tl).set (L + j) B = hp g ++ tl.set j B := fun j tl B => by
  rw [List.set_append_right _ _ (by omega), hlen]; congr 2; omega
 have gs0 : ∀ tl B, (hp g ++ tl).set L B = hp g ++ tl.set 0 B := gs 0
 have a0 := H.ha g []
 rw [yZ] at a0
 have ha := H.ha g
 unfold c121l0 pat90
 rcases yU i l.length with hi1 | hi1
 ·have hd : decide ((i : Int) < (l.length : Int)) = true := decide_eq_true (by omega)
  simp -implicitDefEqProofs only [rX,↓rY,ofConst,cells?,splice,↓reduceIte,Nat.reduceEqDiff,Nat.reduceAdd,reduceCtorEq,freshP,enS_len,enS_take,enS_C,hd,hlen,go0,gs0]
  refine ⟨⟨by omega, by omega⟩, hi1, ?_⟩
  refine ⟨rfl, ?_⟩
  refine hY i g hi1 hI _ _ _ ⟨rfl, rfl, rfl, rfl⟩ ?_
  intro e' g' tl he' hI'
  simp -implicitDefEqProofs only [rX,↓rY,ofConst,↓reduceIte,Nat.reduceEqDiff,reduceCtorEq,leE,liveP,wfE,wfV,he'.e7]
  refine ⟨by simp only [lo, Fx.hi, maxLen] at *; omega, (i + 1, g'), ⟨⟨by show i + 1 ≤ l.length; omega, hI'⟩, by show l.length - (i + 1) < l.length - i; omega⟩, ?_⟩
  have e1 := he'.e0; have e2 := he'.e5; have e3 := he'.e6
  obtain ⟨tk, ek, lk⟩ := H.lk g'
  simp -implicitDefEqProofs only [rX,e1,e2,e3,eq_true (leH_app (hp g') tl),eq_true (H.kp g'),eq_true (H.wf g'),lk]
  rfl
 ·have hd : decide ((i : Int) < (l.length : Int)) = false := decide_eq_false (by omega)
  have hie : i = l.length := by omega
  subst hie
  have := hK g hI
  simp -implicitDefEqProofs only [rX,↓rY,↓reduceIte,Nat.reduceEqDiff,hd]
  first | exact this | simpa using this
end
end Go.Fx.J
namespace Go.Fx.J
open Go Go.Fx Go.Proofs Go.Fx.R
set_option maxRecDepth 20000
abbrev hp98 (l : List Sp) (i : Nat) : List Blk := [.var [spans l], .arr 2 ((l.take i).map enS), .var [.sl 1 0 i], .rcd .ready [(2, .ptr 2 0 0)]]
theorem map_take {l : List Sp} {i : Nat} (h : i < l.length) : (l.take i).map enS ++ [enS l[i]] = (l.take (i + 1)).map enS := by
 rw [yT, yM h, yJ]; rfl
theorem it142 (l : List Sp) (hl : l.length ≤ 4398046511104) : It90 (hp98 l) 4 l 3 0 [3, 0] := by
 refine ⟨by simp only [maxLen]; omega, fun g => rfl, fun g tl => rfl, fun g => ⟨trivial, trivial, trivial⟩, fun g => ?_, fun g => ⟨_, _, rfl⟩⟩
 simp -implicitDefEqProofs only [rX,liveP,wfE,wfB,wfV,wfL]
theorem ok142 (l : List Sp) (hl : l.length ≤ 4398046511104) : OkN Tryz.prog 142 [.nil, .clo 121 [.ptr 0 0 0]] [.var [spans l]] [] (IsA (.sl 1 0 l.length) [.var [spans l], .arr 2 (l.map enS)]) := by
 refine okN_ofG pol [0] lw142 (by simp) ⟨trivial, trivial⟩ (by simp) (s0 := ⟨args0 0 [.sl 1 0 0, .clo 121 [.ptr 0 0 0]], [.var [spans l], .arr 2 []], 0⟩) ?_ ?_
 ·refine ⟨_, .virt 1 2 (by decide) (.nilE 0 1 rfl (.refl _)), ?_⟩
  simp -implicitDefEqProofs only [rX,↓reduceIte,reduceCtorEq,leE,leH,leB,leV,leVs,keepP,liveP,wfE,wfB,wfV,wfL,args0,yO]
 unfold c142
 simp -implicitDefEqProofs only [rX,↓rY,ofConst,cells?,↓reduceIte,Nat.reduceEqDiff,Nat.reduceAdd,reduceCtorEq,freshP,cxN,args0]
 refine rfn_go 3 rfl rfl trivial ?_
 refine I0_le (h' := hp98 l 0) ?_ ?_ ?_ ?_ (it121 (Inv := fun i g => g = i) (it142 l hl) ?_ ?_ _ rfl)
 ·simp -implicitDefEqProofs only [rX,↓reduceIte,Nat.reduceEqDiff,leE,leH,leB,leV,leVs,or_true]
 ·simp [keepP, liveP]
 ·simp -implicitDefEqProofs only [rX,liveP,wfE,wfB,wfV,wfL]
 ·simp -implicitDefEqProofs only [rX,liveP,wfV,wfL]
 ·rintro i g hi rfl e bb Z he hZ
  refine yR_go 5 rfl rfl rfl ?_
  unfold c142a0
  simp -implicitDefEqProofs only [rX,↓rY,ofConst,cells?,splice,↓reduceIte,Nat.reduceEqDiff,Nat.reduceAdd,freshP,enS_len,enS_C,setPs]
  unfold c142r0
  simp -implicitDefEqProofs only [rX,↓rY,cells?,splice,↓reduceIte,Nat.reduceEqDiff,Nat.reduceAdd,reduceCtorEq,freshP,litsP,killE,killB,kill,kills,St.kill,isC,Nat.reduceLT,enS_len,enS_take,enS_D,enS_kill]
  have hm : (l.take g).length = g := by rw [vD]; omega
  refine ⟨⟨by omega, by omega⟩, ?_⟩
  have h2 : yA g (yN enS (yA g l)) ++ [enS l[g]] = (l.take (g + 1)).map enS := by
   rw [← map_take hi, yC (by simp; omega)]
  rw [h2]
  refine hZ (killE [1] e) (g + 1) [Blk.var (enS l[g]), Blk.dead, Blk.var (enS l[g]), Blk.arr 2 [enS l[g]], Blk.dead] ?_ rfl
  refine ⟨?_, ?_, ?_, ?_⟩ <;> rw [get_killE]
  ·rw [he.e0]; simp [kill]
  ·rw [he.e5]; rfl
  ·rw [he.e6]; rfl
  ·rw [he.e7]; rfl
 ·rintro g rfl
  unfold hp98
  simp -implicitDefEqProofs only [rX,↓rY,↓reduceIte,Nat.reduceAdd,resP,tupV,leH,leB,leV,leVs,keepP,liveP,wfE,wfB,wfV,wfL,Nat.reduceLeDiff,retP_isA,List.take_length]
end Go.Fx.J
namespace Go.Fx
open Go.RowKit
theorem okN_mv {P : Program} {f : FuncId} {xs ys : List V} {h0 : List Blk} {y : V} (h : OkN P f ys [] [] (Is y)) (hy : wkL ys (gvL (fun _ => true) h0 xs)) :
  OkN P f xs h0 (List.range h0.length) (IsA y (yB h0.length .dead)) := by
 refine ⟨h.1, ?_⟩
 intro ρ X w vals h1 h2
 refine Calls.mono (h.2 (gvLoc ρ fun _ => true) X w vals (rep_none h1) (wkL_rep _ _ _ hy (gvs_rep h1 _ _ h2))) ?_
 rintro e w' ⟨val, r, h', ρ', q1, ⟨⟨rfl, rfl⟩, _⟩, q3, q4, q5, _⟩
 refine ⟨val, r, _, ρ', q1, ⟨⟨rfl, rfl⟩, by simp⟩, gv_fr.trans q3, ⟨q4.inj, fun k _ => q4.out k (yD _), fun k b hb => ?_, q4.disj, q4.lt, q4.xlt⟩, q5, fun k hk hkm => absurd (List.mem_range.2 hk) hkm⟩
 rw [List.getElem?_replicate] at hb
 split at hb
 ·cases hb
  exact q4.out k (yD _)
 ·cases hb
abbrev Gv (y : V) : V → List Blk → Prop := fun q hs => wk y (gvV (fun _ => true) hs q)
theorem leH_deads : ∀ (k : Nat) (h : List Blk) {B : Blk}, h[k]? = some B → leH h (yB k .dead ++ [B])
 | 0, b :: h, B, hb => by
  simp at hb; subst hb
  simp [leH, leB_refl]
 | k + 1, b :: h, B, hb => by
  rw [yO, yY]
  exact ⟨trivial, leH_deads k h (by simpa using hb)⟩
 | _, [], B, hb => by simp at hb
theorem wfB_deads {q : List Blk} : ∀ (k : Nat) {sz : Nat} {els : List (List V)}, wfB q (yB k .dead ++ [.arr sz els])
 | 0, _, _ => trivial
 | k + 1, _, _ => by rw [yO, yY]; exact wfB_deads k
theorem ret_sl {e : Env} {h : List Blk} {b t k n sz : Nat} {els : List (List V)} (hg : get e t = .sl k 0 n) (hb : h[k]? = some (.arr sz els)) (hn : n = els.length) : retP [] 0 [.tmp t] (Gv (.ro sz els)) ⟨e, h, b⟩ := by
 subst hn
 rw [retP_eq]
 simp only [resP, hg, uB, uC, vC]
 have hbk : (yB k Blk.dead ++ [Blk.arr sz els])[k]? = some (.arr sz els) := by
  rw [uK (by simp)]; simp
 refine ⟨yB k .dead ++ [.arr sz els], ⟨leH_deads k h hb, trivial, yD _, ?_, wfB_deads k⟩, ?_⟩
 ·show liveP _ _
  unfold liveP
  rw [hbk]
  trivial
 ·simp [Gv, tupV, gvV, blk, wk, wkR]
theorem ret_ro {e : Env} {h : List Blk} {b t sz : Nat} {els : List (List V)} (hg : get e t = .ro sz els) : retP [] 0 [.tmp t] (Gv (.ro sz els)) ⟨e, h, b⟩ := by
 rw [retP_eq]
 simp only [resP, hg, uB, uC, vC]
 exact ⟨[], ⟨by simp [leH], trivial, yD _, trivial, trivial⟩, by simp [Gv, tupV, gvV, wk, wkR]⟩
theorem okN_gv {P : Program} {f : FuncId} {xs : List V} {y : V} (h : OkN P f xs [] [] (Gv y)) : OkN P f xs [] [] (Is y) := ⟨h.1, Fn_give h.2 fun _ _ h => h⟩
theorem get_args0_add : ∀ (zas : List V) (n i : Nat), get (args0 n zas) (n + i) = if h : i < zas.length then zas[i] else .any
 | [], n, i => by simp [args0, get]
 | x :: r, n, 0 => by simp [args0, get]
 | x :: r, n, i + 1 => by
  have := get_args0_add r (n + 1) i
  simp only [args0, get]
  rw [if_neg (by omega), show n + (i + 1) = n + 1 + i by omega, this]
  simp
theorem repL_of : ∀ {ρ : Nat → Loc} {X : Nat → Prop} {w : World} {zas : List V} {vals : List Value}, zas.length = vals.length → (∀ i (h : i < zas.length) (h2 : i < vals.length), RepV ρ X w zas[i] vals[i]) → RepL ρ X w zas vals
 | _, _, _, [], [], _, _ => trivial
 | _, _, _, x :: r, v :: vs, hl, h => ⟨h 0 (by simp) (by simp), repL_of (by simpa using hl) fun i h1 h2 => h (i + 1) (by simpa using h1) (by simpa using h2)⟩
 | _, _, _, [], _ :: _, hl, _ => by simp at hl
 | _, _, _, _ :: _, [], hl, _ => by simp at hl
theorem I0_ghost {P : Program} {f : FuncId} {zas as' : List V} {fx : List Nat} {k : Nat} {Y : Yt} {h h' : List Blk} {K : List Blk → Prop} (hlen : as'.length = zas.length) (hg : leG fx ⟨args0 0 zas, h, 0⟩ ⟨args0 0 as', h', 0⟩) (hi : I0 P f as' fx k Y h' K) : I0 P f zas fx k Y h K := by
 refine ⟨hi.1, ?_⟩
 intro ρ X w vals hr hv hkp hY
 have hvl := RepL_len hv
 have hgd : Good ρ X w fx vals.length ⟨args0 0 zas, h, 0⟩ { tmps := vals.toArray, defers := [] } w := by
  refine ⟨ρ, ⟨⟨Fr.refl _ _, fun _ _ => rfl⟩, hkp⟩, ⟨hr, ?_⟩, by simp, Marks.nil⟩
  have := args0_rep hv 0
  simpa using this
 obtain ⟨ρ2, ⟨⟨p1, p2⟩, p3⟩, ⟨p4, p5⟩, _⟩ := hgd.leG hg
 have hv' : RepL ρ2 X w as' vals := by
  refine repL_of (by omega) fun i h1 h2 => ?_
  have := p5 i
  have hget := get_args0_add as' 0 i
  rw [yX, dif_pos h1] at hget
  rw [hget] at this
  simpa [h2] using this
 have := hi.2 ρ2 X w vals p4 hv' p3 (by
  intro ρ1 w1 s tmps xs vs Z ⟨hf, hfx⟩ g1 g2 g3 g4 g5
  exact hY ρ1 w1 s tmps xs vs Z ⟨p1.trans hf, fun j hj => (hfx j hj).trans (p2 j hj)⟩ g1 g2 g3 g4 g5)
 refine this.mono ?_
 rintro e w' ⟨val, h1, ρ', rfl, hK, ⟨hf, hr'⟩, hfx, hkp'⟩
 exact ⟨val, h1, ρ', rfl, hK, ⟨p1.trans hf, hr'⟩, fun j hj => (hfx j hj).trans (p2 j hj), hkp'⟩
theorem resP_mono {h : List Blk} {e : Env} : ∀ (rs : List LRes) (acc : List V) {K K' : List V → Prop}, (∀ xs, K xs → K' xs) → resP h e rs acc K → resP h e rs acc K' := by
 intro rs
 induction rs with
 | nil => intro acc K K' hk h; exact hk _ h
 | cons r rs ih =>
  intro acc K K' hk hh
  cases r with
  | tmp t => exact ih _ hk hh
  | cell a n =>
   simp only [resP] at hh ⊢
   have hcs : ∀ (n : Option Nat) (f : Nat) (cs : List V) {A B : V → Prop}, (∀ x, A x → B x) → loadCs n f cs A → loadCs n f cs B := by
    intro n f cs A B hab hl
    unfold loadCs at hl ⊢
    split at hl
    ·unfold optK at hl ⊢
     split at hl
     ·exact hab _ hl
     ·exact hl.elim
    ·exact ⟨hl.1, hab _ hl.2⟩
   unfold loadP at hh ⊢
   split at hh
   ·unfold loadB at hh ⊢
    split at hh
    ·exact hcs _ _ _ (fun x => ih _ hk) hh
    ·obtain ⟨hi, hh⟩ := hh; exact ⟨hi, hcs _ _ _ (fun x => ih _ hk) hh⟩
    ·obtain ⟨hi, hh⟩ := hh; exact ⟨hi, hcs _ _ _ (fun x => ih _ hk) hh⟩
    ·exact hh.elim
   ·obtain ⟨hi, hh⟩ := hh; exact ⟨hi, hcs _ _ _ (fun x => ih _ hk) hh⟩
   ·exact hh.elim
theorem ret_data {e : Env} {h : List Blk} {b : Nat} {rs : List LRes} {y : V} (hr : resP h e rs [] fun xs => wfV [] (tupV xs) ∧ Gv y (tupV xs) []) : retP [] 0 rs (Gv y) ⟨e, h, b⟩ := by
 rw [retP_eq]
 exact resP_mono rs [] (fun xs hx => ⟨[], ⟨by simp [leH], trivial, yD _, hx.1, trivial⟩, hx.2⟩) hr
end Go.Fx
namespace Go.Fx
open Go Go.Fx Go.Proofs Go.Sort Go.RowKit
section
variable {α : Type} [Inhabited α] (en : α → List Value) (k : Nat)
def enV (x : α) : List V := (en x).map V.v
theorem cells_get {S : Nat → Prop} {w : World} {b : Nat} : ∀ {vs : List Value} {off : Nat}, RepCs S w b off (vs.map V.v) → ∀ j (h : j < vs.length), w.cell? ⟨b, off + j, none⟩ = some vs[j]
 | [], _, _, j, h => by simp at h
 | x :: r, off, hr, j, h => by
  obtain ⟨⟨val, h1, h2⟩, h3⟩ := hr
  cases j with
  | zero =>
   have : val = x := h2.1
   subst this; exact h1
  | succ j =>
   have := cells_get h3 j (by simpa using h)
   rw [show off + (j + 1) = off + 1 + j by omega]
   exact this
theorem cells_of {S : Nat → Prop} {w : World} {b : Nat} : ∀ {vs : List Value} {off : Nat}, (∀ z ∈ vs, isD (.v z) = true) → (∀ j (h : j < vs.length), w.cell? ⟨b, off + j, none⟩ = some vs[j]) → RepCs S w b off (vs.map V.v)
 | [], _, _, _ => trivial
 | x :: r, off, hd, h => ⟨⟨x, h 0 (by simp), rfl, hd x (by simp)⟩, cells_of (fun z hz => hd z (by simp [hz])) fun j hj => by
   have := h (j + 1) (by simpa using hj)
   rw [show off + 1 + j = off + (j + 1) by omega]
   exact this⟩
variable {en k}
theorem rows_get {S : Nat → Prop} {w : World} {b : Nat} (hk : ∀ x, (en x).length = k) : ∀ {l : List α} {off : Nat}, RepEls S w k b off (l.map (enV en)) → ∀ i (h : i < l.length) j (hj : j < (en l[i]).length), w.cell? ⟨b, off + i * k + j, none⟩ = some (en l[i])[j]
 | [], _, _, i, h, _, _ => by simp at h
 | x :: r, off, hr, i, h, j, hj => by
  obtain ⟨⟨_, h2⟩, h3⟩ := hr
  cases i with
  | zero =>
   have := cells_get h2 j hj
   simpa using this
  | succ i =>
   have := rows_get hk h3 i (by simpa using h) j hj
   rw [show off + (i + 1) * k + j = off + k + i * k + j by rw [uD]; omega]
   exact this
theorem rows_of {S : Nat → Prop} {w : World} {b : Nat} (hk : ∀ x, (en x).length = k) (hd : ∀ x, ∀ z ∈ en x, isD (.v z) = true) : ∀ {l : List α} {off : Nat}, (∀ i (h : i < l.length) j (hj : j < (en l[i]).length), w.cell? ⟨b, off + i * k + j, none⟩ = some (en l[i])[j]) → RepEls S w k b off (l.map (enV en))
 | [], _, _ => trivial
 | x :: r, off, h => ⟨⟨by simp [enV, hk], cells_of (hd x) fun j hj => by
   have := h 0 (by simp) j hj
   simpa using this⟩, rows_of hk hd fun i hi j hj => by
   have := h (i + 1) (by simpa using hi) j hj
   rw [show off + k + i * k + j = off + (i + 1) * k + j by rw [uD]; omega]
   exact this⟩
structure SrtK (lt : α → α → Bool) (l d : List α) : Prop where
 p : d.Perm l
 s : d.Pairwise fun x y => lt y x = false
theorem fn_sortK {P : Program} {f g : FuncId} (hc : Callable P f) (hk : ∀ x, (en x).length = k) (h0 : 0 < k) (hd : ∀ x, ∀ z ∈ en x, isD (.v z) = true) {lt : α → α → Bool}
  (hsort : ∀ blk off cap (d : Array α) (w : World), HoldsK en k w blk off d → blk < w.heap.size → d.size < 4611686018427387904 →
   Calls P f #[.slice (some ⟨blk, off, none⟩) d.size cap, .func (.func g) #[] #[]] w fun e w' => e = .returned (.tuple #[]) ∧ ∃ d' n os, PermIn 0 d.size d d' ∧ SortedIn lt 0 d.size d' ∧ w' = sortWorldK en k w blk off n d' os)
  (hnone : ∀ a (w : World), Calls P f #[.slice a 0 0, .func (.func g) #[] #[]] w fun e w' => e = .returned (.tuple #[]) ∧ w' = w)
  (l : List α) (hl : l.length < 4611686018427387904) : OkN P f [.sl 0 0 l.length, .clo g []] [.arr k (l.map (enV en))] [] (IsQ (SrtK lt l) (fun _ => .tup []) (fun d => [.arr k (d.map (enV en))])) := by
 refine ⟨hc, ?_⟩
 intro ρ X w vals hr ha
 match vals, ha with
 | [val, cv], ⟨hv, hcv, _⟩ =>
 obtain ⟨arr, rfl, harr⟩ := hcv
 have harr0 : arr = #[] := by
  cases h : arr.toList with
  | nil => exact Array.toList_eq_nil_iff.1 h
  | cons a r => rw [h] at harr; exact harr.elim
 subst harr0
 obtain ⟨cap, h1, h2, h3⟩ := hv
 rcases h3 with ⟨h4, a, rfl⟩ | ⟨hre, rfl, hroom⟩
 ·have hl0 : l = [] := vF.1 (by omega)
  subst hl0
  refine (hnone a w).mono ?_
  rintro e w' ⟨rfl, rfl⟩
  exact ⟨_, .tup [], [.arr k []], ρ, rfl, ⟨⟨[], ⟨.nil, .nil⟩, rfl, rfl⟩, yI _⟩, Fr.refl _ _, hr, ⟨#[], rfl, trivial⟩, fun _ _ _ => rfl⟩
 ·have hb := hr.blk 0 _ rfl
  obtain ⟨⟨hsz, _⟩, hb | ⟨_, c, T, hcc, hcs, hlen, hels⟩⟩ := hb
  ·rw [hb.1] at hre; cases hre
  have hoff : (ρ 0).off + 0 * (ρ 0).sz = (ρ 0).off := by omega
  rw [hoff]
  rw [yS] at hlen
  have hg := fun i hi j hj => rows_get hk hels i hi j hj
  have hdiv : ∀ t, t < l.length * k → t / k < l.length ∧ t % k < k ∧ t / k * k + t % k = t := fun t ht =>
   ⟨Nat.div_lt_of_lt_mul (by rwa [vO] at ht), Nat.mod_lt _ h0, by have := Nat.div_add_mod t k; rw [vO] at this; exact this⟩
  have hfl : ∀ (d : List α) t, t < d.length * k → ∀ (h1 : t / k < d.length) (h2 : t % k < (en d[t / k]).length), (flatK en k d.toArray)[t]! = (en d[t / k])[t % k] := by
   intro d t ht h1 h2
   rw [get_flatK _ _ _ _ (by simpa using ht)]
   rw [getElem!_pos d.toArray (t / k) (by simpa using h1), getElem!_pos _ (t % k) (by simpa using h2)]
   simp
  have hH : HoldsK en k w (ρ 0).blk (ρ 0).off l.toArray := by
   intro t ht
   have ht' : t < l.length * k := by simpa using ht
   obtain ⟨q1, q2, q3⟩ := hdiv t ht'
   have q4 : t % k < (en l[t / k]).length := by rw [hk]; exact q2
   refine ⟨?_, by simp [World.frozen?, hcc]⟩
   have := hg (t / k) q1 (t % k) q4
   rw [show (ρ 0).off + t / k * k + t % k = (ρ 0).off + t by omega] at this
   rw [this]
   exact congrArg some (hfl l t ht' q1 q4).symm
  refine (hsort (ρ 0).blk (ρ 0).off cap l.toArray w hH (hr.lt 0 hre) (by simpa using hl)).mono ?_
  rintro e w' ⟨rfl, d', n, os, ⟨p1, p2, p3⟩, hs, rfl⟩
  have hdl : d'.toList.length = l.length := by simpa using p1
  have hperm : d'.toList.Perm l := by
   have e1 : (d'.extract 0 l.toArray.size).toList = d'.toList := by rw [← p1]; simp
   have e2 : (l.toArray.extract 0 l.toArray.size).toList = l := by simp
   rw [e1, e2] at p3
   exact p3
  have hsorted : d'.toList.Pairwise fun x y => lt y x = false := by
   rw [yV]
   intro i j hi hj hij
   have := hs i j (yD _) hij (by simpa [hdl] using hj)
   rw [getElem!_pos d' j (by simpa using hj), getElem!_pos d' i (by simpa using hi)] at this
   simpa using this
  have hbl := hr.lt 0 hre
  have hsl : l.length = d'.toList.length := hdl.symm
  generalize hD : d'.toList = D at *
  have hda : d' = D.toArray := by rw [← hD]
  subst hda
  have hw1 : (sortWorldK en k w (ρ 0).blk (ρ 0).off n D.toArray os).heap[(ρ 0).blk]? = some (.cells (putCells id (ρ 0).off (flatK en k D.toArray) c) T (0, 0)) := by
   simp only [sortWorldK, Sort.grow, putRowK, Sort.putRow, Sort.mapBlock, Sort.ahead]
   rw [vP (by simpa using hbl), vH, if_pos rfl, hcc]
   rfl
  have hw2 : ∀ b, b < w.heap.size → b ≠ (ρ 0).blk → (sortWorldK en k w (ρ 0).blk (ρ 0).off n D.toArray os).heap[b]? = w.heap[b]? := by
   intro b hb hne
   simp only [sortWorldK, Sort.grow, putRowK, Sort.putRow, Sort.mapBlock, Sort.ahead]
   rw [vP (by simpa using hb), vH, if_neg (fun h => hne h.symm)]
  have hsize : w.heap.size ≤ (sortWorldK en k w (ρ 0).blk (ρ 0).off n D.toArray os).heap.size := by
   simp [sortWorldK, Sort.grow, putRowK, Sort.putRow, Sort.mapBlock, Sort.ahead]
  have hfr : Fr ρ w ρ (sortWorldK en k w (ρ 0).blk (ρ 0).off n D.toArray os) := ⟨rfl, rfl, rfl, hsize, fun b hb ho => ⟨hw2 b hb fun h => ho ⟨0, hre, h.symm⟩, ho⟩⟩
  have hcell : ∀ t (ht : t < l.length * k), (sortWorldK en k w (ρ 0).blk (ρ 0).off n D.toArray os).cell? ⟨(ρ 0).blk, (ρ 0).off + t, none⟩ = some ((flatK en k D.toArray)[t]!) := by
   intro t ht
   have htc : (ρ 0).off + t < c.size := by rw [hcs]; omega
   have hts : t < (flatK en k D.toArray).size := by simpa [← hsl] using ht
   simp only [World.cell?, hw1]
   have htD : t < D.length * k := by rw [← hsl]; exact ht
   simp [Sort.putCells, htc, htD]
  refine ⟨_, .tup [], [.arr k (D.map (enV en))], ρ, rfl, ⟨⟨D, ⟨hperm, hsorted⟩, rfl, rfl⟩, yI _⟩, hfr, ⟨hr.inj, hr.out, fun q b hq => ?_, hr.disj, fun q hq => vI (hr.lt q hq) hsize, fun b hb => vI (hr.xlt b hb) hsize⟩, ⟨#[], rfl, trivial⟩, fun _ _ _ => rfl⟩
  cases q with
  | succ q => simp at hq
  | zero =>
   simp only [vG, vB] at hq
   subst hq
   refine ⟨⟨hsz, h0⟩, .inr ⟨hre, _, T, hw1, by simp [Sort.putCells, hcs], by rw [yS, ← hsl]; exact hlen, rows_of hk hd fun i hi j hj => ?_⟩⟩
   have hj' : j < k := by rw [← hk D[i]]; exact hj
   have hlt : i * k + j < l.length * k := by
    have : (i + 1) * k ≤ l.length * k := Nat.mul_le_mul_right k (by omega)
    rw [uD] at this
    omega
   have hdv : (i * k + j) / k = i := by rw [vO, Nat.mul_add_div h0, Nat.div_eq_of_lt hj', Nat.add_zero]
   have hmd : (i * k + j) % k = j := by rw [vO, Nat.mul_add_mod, Nat.mod_eq_of_lt hj']
   have := hcell (i * k + j) hlt
   rw [hfl D (i * k + j) (by rw [← hsl]; exact hlt) (by rw [hdv]; exact hi) (by simp only [hdv, hmd]; exact hj)] at this
   simp only [hdv, hmd] at this
   rw [Nat.add_assoc]
   exact this
end
end Go.Fx
namespace Go.Proofs
open Go.Shelf
def Tryz.sortSp_ren : Go.Shelf.Ren := ⟨fun | 6 => 120 | 15 => 112 | 14 => 143 | 28 => 131 | 29 => 132 | 20 => 152 | 21 => 153 | 22 => 154 | 23 => 155 | 24 => 156 | 25 => 157 | 26 => 158 | 27 => 159 | 46 => 162 | 47 => 145 | 48 => 146 | 49 => 163 | 50 => 164 | 57 => 165 | n => n, fun | 22 => 25 | 24 => 55 | 25 => 147 | 3 => 3 | 39 => 150 | 0 => 0 | 53 => 168 | 55 => 170 | 4 => 4 | 46 => 162 | 45 => 161 | 50 => 74 | 5 => 5 | 9 => 9 | 66 => 179 | 70 => 183 | 76 => 192 | 77 => 193 | n => n, fun | n => n⟩
theorem Tryz.sortSp : Go.Proofs.SlLaysF0.n6 Tryz.prog Tryz.sortSp_ren := {
 mixed := by kernel_rfl
 f6 := ⟨Tryz.f120.name, by decide, Tryz.func120.trans (congrArg some (by kernel_rfl))⟩
 f14 := ⟨Tryz.f143.name, by decide, Tryz.func143.trans (congrArg some (by kernel_rfl))⟩
 f15 := Tryz.func112.trans (congrArg some (by kernel_rfl))
 f20 := ⟨Tryz.f152.name, by decide, Tryz.func152.trans (congrArg some (by kernel_rfl))⟩
 f21 := ⟨Tryz.f153.name, by decide, Tryz.func153.trans (congrArg some (by kernel_rfl))⟩
 f22 := ⟨Tryz.f154.name, by decide, Tryz.func154.trans (congrArg some (by kernel_rfl))⟩
 f23 := ⟨Tryz.f155.name, by decide, Tryz.func155.trans (congrArg some (by kernel_rfl))⟩
 f24 := ⟨Tryz.f156.name, by decide, Tryz.func156.trans (congrArg some (by kernel_rfl))⟩
 f25 := ⟨Tryz.f157.name, by decide, Tryz.func157.trans (congrArg some (by kernel_rfl))⟩
 f26 := ⟨Tryz.f158.name, by decide, Tryz.func158.trans (congrArg some (by kernel_rfl))⟩
 f27 := ⟨Tryz.f159.name, by decide, Tryz.func159.trans (congrArg some (by kernel_rfl))⟩
 f28 := Tryz.func131.trans (congrArg some (by kernel_rfl))
 f29 := Tryz.func132.trans (congrArg some (by kernel_rfl))
 f46 := ⟨Tryz.f162.name, by decide, Tryz.func162.trans (congrArg some (by kernel_rfl))⟩
 f47 := Tryz.func145.trans (congrArg some (by kernel_rfl))
 f48 := Tryz.func146.trans (congrArg some (by kernel_rfl))
 f49 := ⟨Tryz.f163.name, by decide, Tryz.func163.trans (congrArg some (by kernel_rfl))⟩
 f50 := ⟨Tryz.f164.name, by decide, Tryz.func164.trans (congrArg some (by kernel_rfl))⟩
 f57 := ⟨Tryz.f165.name, by decide, Tryz.func165.trans (congrArg some (by kernel_rfl))⟩
 t0 := Tryz.underlying0
 a0 := Tryz.isAgg0
 z0 := Tryz.sizeOf0
 v0 := Tryz.zeroValue0
 t3 := Tryz.underlying3
 a3 := Tryz.isAgg3
 z3 := Tryz.sizeOf3
 v3 := Tryz.zeroValue3
 t4 := Tryz.underlying4
 a4 := Tryz.isAgg4
 z4 := Tryz.sizeOf4
 v4 := Tryz.zeroValue4
 t5 := Tryz.underlying5
 a5 := Tryz.isAgg5
 z5 := Tryz.sizeOf5
 v5 := Tryz.zeroValue5
 t9 := Tryz.underlying9
 a9 := Tryz.isAgg9
 z9 := Tryz.sizeOf9
 v9 := Tryz.zeroValue9
 t22 := Tryz.underlying25
 a22 := Tryz.isAgg25
 z22 := Tryz.sizeOf25
 v22 := Tryz.zeroValue25
 t25 := Tryz.underlying147
 a25 := Tryz.isAgg147
 z25 := Tryz.sizeOf147
 v25 := Tryz.zeroValue147
 t39 := Tryz.underlying150
 a39 := Tryz.isAgg150
 z39 := Tryz.sizeOf150
 v39 := Tryz.zeroValue150
 t45 := Tryz.underlying161
 a45 := Tryz.isAgg161
 z45 := Tryz.sizeOf161
 v45 := Tryz.zeroValue161
 t46 := Tryz.underlying162
 a46 := Tryz.isAgg162
 z46 := Tryz.sizeOf162
 v46 := Tryz.zeroValue162
 t50 := Tryz.underlying74
 a50 := Tryz.isAgg74
 z50 := Tryz.sizeOf74
 v50 := Tryz.zeroValue74
 t53 := Tryz.underlying168
 a53 := Tryz.isAgg168
 z53 := Tryz.sizeOf168
 v53 := Tryz.zeroValue168
 t55 := Tryz.underlying170
 a55 := Tryz.isAgg170
 z55 := Tryz.sizeOf170
 v55 := Tryz.zeroValue170
 t66 := Tryz.underlying179
 a66 := Tryz.isAgg179
 z66 := Tryz.sizeOf179
 v66 := Tryz.zeroValue179
 t70 := Tryz.underlying183
 a70 := Tryz.isAgg183
 z70 := Tryz.sizeOf183
 v70 := Tryz.zeroValue183
 t76 := Tryz.underlying192
 a76 := Tryz.isAgg192
 z76 := Tryz.sizeOf192
 v76 := Tryz.zeroValue192
 t77 := Tryz.underlying193
 a77 := Tryz.isAgg193
 z77 := Tryz.sizeOf193
 v77 := Tryz.zeroValue193 }
def Tryz.lays189_ren : Go.Shelf.Ren := ⟨fun | 189 => 105 | 125 => 112 | 257 => 118 | 128 => 131 | 129 => 132 | 294 => 133 | 295 => 134 | 296 => 135 | 297 => 136 | 298 => 137 | 299 => 138 | 216 => 139 | 300 => 140 | 301 => 141 | 328 => 149 | 329 => 145 | 330 => 146 | 331 => 150 | 332 => 151 | 215 => 113 | 343 => 161 | n => n, fun | 28 => 32 | 3 => 3 | 46 => 150 | 0 => 0 | 51 => 168 | 53 => 170 | 4 => 4 | 183 => 162 | 182 => 161 | 131 => 74 | 5 => 5 | 9 => 9 | 218 => 179 | 222 => 183 | 228 => 192 | 229 => 193 | n => n, fun | n => n⟩
theorem Tryz.lays189 : Go.Proofs.Lays.n189 Tryz.prog Tryz.lays189_ren := {
 mixed := by kernel_rfl
 f125 := Tryz.func112.trans (congrArg some (by kernel_rfl))
 f128 := Tryz.func131.trans (congrArg some (by kernel_rfl))
 f129 := Tryz.func132.trans (congrArg some (by kernel_rfl))
 f189 := Tryz.func105.trans (congrArg some (by kernel_rfl))
 f215 := Tryz.func113.trans (congrArg some (by kernel_rfl))
 f216 := Tryz.func139.trans (congrArg some (by kernel_rfl))
 f257 := Tryz.func118.trans (congrArg some (by kernel_rfl))
 f294 := Tryz.func133.trans (congrArg some (by kernel_rfl))
 f295 := Tryz.func134.trans (congrArg some (by kernel_rfl))
 f296 := Tryz.func135.trans (congrArg some (by kernel_rfl))
 f297 := Tryz.func136.trans (congrArg some (by kernel_rfl))
 f298 := Tryz.func137.trans (congrArg some (by kernel_rfl))
 f299 := Tryz.func138.trans (congrArg some (by kernel_rfl))
 f300 := Tryz.func140.trans (congrArg some (by kernel_rfl))
 f301 := Tryz.func141.trans (congrArg some (by kernel_rfl))
 f328 := Tryz.func149.trans (congrArg some (by kernel_rfl))
 f329 := Tryz.func145.trans (congrArg some (by kernel_rfl))
 f330 := Tryz.func146.trans (congrArg some (by kernel_rfl))
 f331 := Tryz.func150.trans (congrArg some (by kernel_rfl))
 f332 := Tryz.func151.trans (congrArg some (by kernel_rfl))
 f343 := Tryz.func161.trans (congrArg some (by kernel_rfl))
 t0 := Tryz.underlying0
 a0 := Tryz.isAgg0
 z0 := Tryz.sizeOf0
 v0 := Tryz.zeroValue0
 t3 := Tryz.underlying3
 a3 := Tryz.isAgg3
 z3 := Tryz.sizeOf3
 v3 := Tryz.zeroValue3
 t4 := Tryz.underlying4
 a4 := Tryz.isAgg4
 z4 := Tryz.sizeOf4
 v4 := Tryz.zeroValue4
 t5 := Tryz.underlying5
 a5 := Tryz.isAgg5
 z5 := Tryz.sizeOf5
 v5 := Tryz.zeroValue5
 t9 := Tryz.underlying9
 a9 := Tryz.isAgg9
 z9 := Tryz.sizeOf9
 v9 := Tryz.zeroValue9
 t28 := Tryz.underlying32
 a28 := Tryz.isAgg32
 z28 := Tryz.sizeOf32
 v28 := Tryz.zeroValue32
 t46 := Tryz.underlying150
 a46 := Tryz.isAgg150
 z46 := Tryz.sizeOf150
 v46 := Tryz.zeroValue150
 t51 := Tryz.underlying168
 a51 := Tryz.isAgg168
 z51 := Tryz.sizeOf168
 v51 := Tryz.zeroValue168
 t53 := Tryz.underlying170
 a53 := Tryz.isAgg170
 z53 := Tryz.sizeOf170
 v53 := Tryz.zeroValue170
 t131 := Tryz.underlying74
 a131 := Tryz.isAgg74
 z131 := Tryz.sizeOf74
 v131 := Tryz.zeroValue74
 t182 := Tryz.underlying161
 a182 := Tryz.isAgg161
 z182 := Tryz.sizeOf161
 v182 := Tryz.zeroValue161
 t183 := Tryz.underlying162
 a183 := Tryz.isAgg162
 z183 := Tryz.sizeOf162
 v183 := Tryz.zeroValue162
 t218 := Tryz.underlying179
 a218 := Tryz.isAgg179
 z218 := Tryz.sizeOf179
 v218 := Tryz.zeroValue179
 t222 := Tryz.underlying183
 a222 := Tryz.isAgg183
 z222 := Tryz.sizeOf183
 v222 := Tryz.zeroValue183
 t228 := Tryz.underlying192
 a228 := Tryz.isAgg192
 z228 := Tryz.sizeOf192
 v228 := Tryz.zeroValue192
 t229 := Tryz.underlying193
 a229 := Tryz.isAgg193
 z229 := Tryz.sizeOf193
 v229 := Tryz.zeroValue193 }
open Go.Sort Go.RowKit in
theorem Tryz.slices_Sort_int (blk off cap : Nat) (zs : List Int) (w : World) (hH : Holds (Value.int .i64) w blk off zs.toArray) (hblk : blk < w.heap.size) (hsz : zs.length < 4611686018427387904) :
  Calls Tryz.prog 105 #[.slice (some ⟨blk, off, none⟩) zs.length cap] w fun e w' =>
   e = .returned (.tuple #[]) ∧ ∃ n os, w' = grow (putRow (Value.int .i64) (Sort.ahead w n) blk off (zs.mergeSort fun x y => decide (x ≤ y)).toArray) os := Any.slices_Sort_int Tryz.lays189 blk off cap zs w hH hblk hsz
def Tryz.laysNm220_ren : Go.Shelf.Ren := ⟨fun | 20 => 106 | n => n, fun | 22 => 32 | 3 => 3 | 4 => 4 | 0 => 0 | n => n, fun | n => n⟩
theorem Tryz.laysNm220 : Go.Proofs.Lays2.n20 Tryz.prog Tryz.laysNm220_ren := {
 mixed := by kernel_rfl
 f20 := Tryz.func106.trans (congrArg some (by kernel_rfl))
 t0 := Tryz.underlying0
 a0 := Tryz.isAgg0
 z0 := Tryz.sizeOf0
 v0 := Tryz.zeroValue0
 t3 := Tryz.underlying3
 a3 := Tryz.isAgg3
 z3 := Tryz.sizeOf3
 v3 := Tryz.zeroValue3
 t4 := Tryz.underlying4
 a4 := Tryz.isAgg4
 z4 := Tryz.sizeOf4
 v4 := Tryz.zeroValue4
 t22 := Tryz.underlying32
 a22 := Tryz.isAgg32
 z22 := Tryz.sizeOf32
 v22 := Tryz.zeroValue32
 i3 := by kernel_rfl }
open Go.RowKit Go.Lib Go.Sort in
theorem Tryz.slices_Compact_int (blk off cap : Nat) (zs : List Int) (w : World) (hH : Holds (Value.int .i64) w blk off zs.toArray) (hsz : zs.length ≤ 9223372036854775807) (hcap : zs.length ≤ cap) :
  Calls Tryz.prog 106 #[.slice (some ⟨blk, off, none⟩) zs.length cap] w fun e w' => e = .returned (.slice (some ⟨blk, off, none⟩) (Lib.compact zs).length cap) ∧ ∃ q, w' = putRow (Value.int .i64) (Sort.ahead w q) blk off (Lib.compact zs ++ yB (zs.length - (Lib.compact zs).length) 0).toArray := Any.slices_Compact_int Tryz.laysNm220 blk off cap zs w hH hsz hcap
open Go.RowKit Go.Lib Go.Sort in
theorem Tryz.slices_Compact_int_empty (a : Option Addr) (cap : Nat) (w : World) :
  Calls Tryz.prog 106 #[.slice a 0 cap] w fun e w' => e = .returned (.slice a 0 cap) ∧ w' = w := Any.slices_Compact_int_empty Tryz.laysNm220 a cap w
open Go.RowKit Go.Sort in
theorem Tryz.slices_Sort_int_none (p : Option Addr) (cap : Nat) (w : World) :
  Calls Tryz.prog 105 #[.slice p 0 cap] w fun e w' => e = .returned (.tuple #[]) ∧ w' = w := Any.slices_Sort_int_none Tryz.lays189 p cap w
end Go.Proofs
namespace Go.Fx.J
open Go Go.Fx Go.Proofs Go.Fx.R Go.Sort
set_option maxRecDepth 20000
theorem ok119 (l : List Sp) (hl : l.length ≤ 4398046511104) : OkN Tryz.prog 119 [.clo 121 [.ptr 0 0 0]] [.var [spans l]] [] (IsA (.sl 1 0 l.length) [.var [spans l], .arr 2 (l.map enS)]) := by
 refine okN_of pol [0] lw119 (by simp) ⟨trivial, trivial⟩ (by simp) ?_
 unfold c119
 simp -implicitDefEqProofs only [rX,ofConst,↓reduceIte,reduceCtorEq,cxN,args0]
 refine call_isN [0] [.nil, .clo 121 [.ptr 0 0 0]] (.sl 1 0 l.length) (.sl 1 0 l.length) [.var [spans l]] [.var [spans l], .arr 2 (l.map enS)] [.var [spans l], .arr 2 (l.map enS)] (ok142 l hl) (by simp) (by simp [blk, renB, rens, ren]) (by simp [lendsOk, lendOk, lends, lend, wkL, wk, pos]) (by simp) (by simp [setAll, renB, rens, ren, back]) (by simp [ren, rens, back]) (by simp [keepP, liveP]) ?_
 simp -implicitDefEqProofs only [rX,↓reduceIte,Nat.reduceAdd,resP,tupV,leH,leB,leV,leVs,keepP,liveP,wfB,wfV,wfL,Nat.reduceLeDiff,retP_isA]
structure Srt (l d : List Sp) : Prop where
 p : d.Perm l
 s : d.Pairwise fun s t => s.1 ≤ t.1
def Mid (l : List Sp) : Prop := ∀ s ∈ l, -1152921504606846976 ≤ s.1 ∧ s.1 ≤ 1152921504606846976
abbrev MSp := { s : Sp // -1152921504606846976 ≤ s.1 ∧ s.1 ≤ 1152921504606846976 }
instance : Inhabited MSp := ⟨⟨(0, 0), by decide⟩⟩
def enM (s : MSp) : List Value := [.int .i64 s.1.1, .int .i64 s.1.2]
set_option maxHeartbeats 1000000 in
theorem cl76 (x y : MSp) (W : World) : Calls Tryz.prog 109 #[.agg #[.int .i64 x.1.1, .int .i64 x.1.2], .agg #[.int .i64 y.1.1, .int .i64 y.1.2]] W fun e w' => e = .returned (.int .i64 (x.1.1 - y.1.1)) ∧ ∃ q os', w' = Sort.grow (W.drewN q) os' := by
 have hx := x.2
 have hy := y.2
 have hw : IntKind.i64.wrap (x.1.1 - y.1.1) = x.1.1 - y.1.1 := by rw [IntKind.wrap_i64]; omega
 go_enter Tryz.func109, Tryz.ntmps109
 go_wp2
 go_ret
 exact ⟨by first | rfl | rw [hw], 0, _, by rw [Go.Sort.alloc_eq_grow, Go.Sort.alloc_eq_grow, Go.Sort.grow_grow]; rfl⟩
theorem swoM : SWO (ltOf fun x y : MSp => x.1.1 - y.1.1) where
 irrefl x := by unfold ltOf; simp
 trans x y z h1 h2 := by unfold ltOf at *; simp at *; omega
 ntrans x y z h1 h2 := by unfold ltOf at *; simp at *; omega
theorem cal {f : FuncId} {fn : Func} (h : Tryz.prog.funcs[f]? = some fn) (h1 : (fn.name == "runtime.NumGoroutine") = false) (h2 : fn.body.isNone = false) : Callable Tryz.prog f := ⟨fn, h, h1, h2⟩
theorem none89 (a : Option Addr) (w : World) : Calls Tryz.prog 120 #[.slice a 0 0, .func (.func 109) #[] #[]] w fun e w' => e = .returned (.tuple #[]) ∧ w' = w :=
 AnyF.slices_SortFunc_none Tryz.sortSp a 0 _ w
theorem sort89 (l : List MSp) (hl : l.length < 4611686018427387904) : OkN Tryz.prog 120 [.sl 0 0 l.length, .clo 109 []] [.arr 2 (l.map (enV enM))] [] (IsQ (SrtK (ltOf fun x y : MSp => x.1.1 - y.1.1) l) (fun _ => .tup []) (fun d => [.arr 2 (d.map (enV enM))])) := by
 refine fn_sortK (en := enM) (k := 2) (cal Tryz.func120 (by kernel_rfl) (by kernel_rfl)) (fun _ => rfl) (by decide) (fun x z hz => by simp [enM] at hz; rcases hz with rfl | rfl <;> rfl) ?_ none89 l hl
 intro blk off cap d w hH hb hs
 exact AnyQ.slices_SortFunc Tryz.sortSp 2 Tryz.isAgg55 Tryz.sizeOf55 enM (fun _ => rfl) (fun x v hv => by simp [enM] at hv; rcases hv with rfl | rfl <;> rfl) (fun x y => x.1.1 - y.1.1) swoM 109 #[] blk off cap d w
  (enters_of Tryz.func109 (by kernel_rfl) rfl) (fun _ _ _ _ x y => cl76 x y _) hH hb hs
def toM (l : List Sp) (hm : Mid l) : List MSp := l.attach.map fun s => ⟨s.1, hm s.1 s.2⟩
theorem toM_val {l : List Sp} {hm : Mid l} : (toM l hm).map (·.1) = l := by
 unfold toM
 rw [List.map_map]
 exact List.attach_map_subtype_val l
theorem toM_enc {l : List MSp} : l.map (enV enM) = (l.map (·.1)).map enS := by
 rw [List.map_map]; rfl
theorem ok120 (l : List Sp) (hl : l.length ≤ 4398046511104) (hm : Mid l) : OkN Tryz.prog 120 [.sl 0 0 l.length, .clo 109 []] [.arr 2 (l.map enS)] [] (IsQ (Srt l) (fun _ => .tup []) (fun d => [.arr 2 (d.map enS)])) := by
 have hv : (toM l hm).map (·.1) = l := toM_val
 have hlen : (toM l hm).length = l.length := by simp [toM]
 have h := sort89 (toM l hm) (by omega)
 rw [toM_enc, hv, hlen] at h
 refine okN_post h ?_
 rintro r hs ⟨d, ⟨h1, h2⟩, rfl, rfl⟩
 refine ⟨d.map (·.1), ⟨by rw [← hv]; exact h1.map _, ?_⟩, rfl, by simp only [toM_enc]⟩
 rw [List.pairwise_map]
 refine h2.imp fun {x y} h => ?_
 unfold ltOf at h
 simp at h
 omega
theorem ok107 (l : List Sp) (hl : l.length ≤ 4398046511104) (hm : Mid l) : OkN Tryz.prog 107 [.clo 121 [.ptr 0 0 0], .clo 109 []] [.var [spans l]] [] (IsQ (Srt l) (fun _ => .sl 1 0 l.length) (fun d => [.var [spans l], .arr 2 (d.map enS)])) := by
 refine okN_of pol [0] lw107 (by simp) ⟨trivial, trivial⟩ (by simp) ?_
 unfold c107
 simp -implicitDefEqProofs only [rX,ofConst,↓reduceIte,reduceCtorEq,cxN,args0]
 refine call_isN [0] [.clo 121 [.ptr 0 0 0]] (.sl 1 0 l.length) (.sl 1 0 l.length) [.var [spans l]] [.var [spans l], .arr 2 (l.map enS)] [.var [spans l], .arr 2 (l.map enS)] (ok119 l hl) (by simp) (by simp [blk, renB, rens, ren]) (by simp [lendsOk, lendOk, lends, lend, wkL, wk, pos]) (by simp) (by simp [setAll, renB, rens, ren, back]) (by simp [ren, rens, back]) (by simp [keepP, liveP]) ?_
 simp -implicitDefEqProofs only [rX,↓reduceIte,Nat.reduceEqDiff,Nat.reduceAdd,reduceCtorEq]
 refine call_isM (Srt l) [1] [] [] [.sl 0 0 l.length, .clo 109 []] (fun _ => .tup []) [.arr 2 (l.map enS)] (fun d => [.arr 2 (d.map enS)]) (ok120 l hl hm) (by simp) (by simp) (by simp [blk, renB]) (by simp [lendsOk, lendOk, lends, lend, wkL, wk, pos]) fun d hd => ⟨by simp [keepP, liveP, setAll, renB, killB], ?_⟩
 simp -implicitDefEqProofs only [rX,↓reduceIte,Nat.reduceEqDiff,Nat.reduceAdd,killE,killB,kill,kills,St.kill,setAll,renB,rens,ren]
 refine retP_isQ d hd ?_
 simp -implicitDefEqProofs only [rX,↓reduceIte,Nat.reduceAdd,resP,tupV,leH,leB,leV,leVs,keepP,liveP,wfB,wfV,wfL,Nat.reduceLeDiff]
end Go.Fx.J
namespace Go.Fx.J
open Go Go.Fx Go.Proofs Go.Fx.R
set_option maxRecDepth 20000
theorem mrg_skip {o : List Sp} {s : Sp} (h : s.1 ≥ s.2) : mrg o s = o := by unfold mrg; rw [if_pos (by omega)]
theorem mrg_nil {s : Sp} (h : ¬ s.1 ≥ s.2) : mrg [] s = [s] := by unfold mrg; rw [if_neg (by omega)]; rfl
theorem mrg_join {o : List Sp} {s : Sp} (h : ¬ s.1 ≥ s.2) (hn : o.length - 1 < o.length) (h2 : s.1 ≤ o[o.length - 1].2) : mrg o s = o.set (o.length - 1) (o[o.length - 1].1, max o[o.length - 1].2 s.2) := by
 rcases vU o with rfl | ⟨p, t, rfl⟩
 ·simp at hn
 ·unfold mrg
  simp only [vV] at *
  rw [if_neg (by omega)]
  simp at h2 ⊢
  exact h2
theorem mrg_add {o : List Sp} {s : Sp} (h : ¬ s.1 ≥ s.2) (hn : o.length - 1 < o.length) (h2 : ¬ s.1 ≤ o[o.length - 1].2) : mrg o s = o ++ [s] := by
 rcases vU o with rfl | ⟨p, t, rfl⟩
 ·simp at hn
 ·unfold mrg
  simp only [vV] at *
  rw [if_neg (by omega)]
  simp at h2 ⊢
  omega
theorem mrg_len {o : List Sp} {s : Sp} : (mrg o s).length ≤ o.length + 1 := by
 by_cases h : s.1 ≥ s.2
 ·rw [mrg_skip h]; omega
 ·by_cases hn : o.length = 0
  ·rw [vF.1 hn, mrg_nil h]; simp
  ·by_cases h2 : s.1 ≤ (o[o.length - 1]'(by omega)).2
   ·rw [mrg_join h (by omega) h2]; simp
   ·rw [mrg_add h (by omega) h2]; simp
theorem fold_take {d : List Sp} {k : Nat} (h : k < d.length) (o : List Sp) : (d.take (k + 1)).foldl mrg o = mrg ((d.take k).foldl mrg o) d[k] := by
 rw [yT, yM h, uE]; rfl
abbrev h58 (l d o : List Sp) : List Blk := [.var [spans l], .arr 2 (d.map enS), .arr 2 (o.map enS)]
theorem raw58 (l : List Sp) (hl : l.length ≤ 4398046511104) (hm : Mid l) : Ok 81 [spans l] (IsQ (fun d => Srt l d) (fun d => .sl 2 0 (d.foldl mrg []).length) (fun d => h58 l d (d.foldl mrg []))) := by
 refine ok_of lw81 (by simp) ?_
 unfold c81
 simp -implicitDefEqProofs only [rX,ofConst,↓reduceIte,reduceCtorEq,cxN,args0]
 refine call_isA [spans l] (.clo 121 [.ptr 0 0 0]) (.clo 121 [.ptr 0 0 0]) [.var [spans l]] [.var [spans l]] (ok108 l) ⟨⟨trivial, trivial⟩, ⟨rfl, rfl⟩, trivial⟩ (by simp [ren, rens]) (by simp [renB, rens, ren]) trivial ?_
 simp -implicitDefEqProofs only [rX,↓reduceIte]
 refine call_isM (Srt l) [0] [] [] [.clo 121 [.ptr 0 0 0], .clo 109 []] (fun _ => .sl 1 0 l.length) [.var [spans l]] (fun d => [.var [spans l], .arr 2 (d.map enS)]) (ok107 l hl hm) (by simp) (by simp) (by simp [blk, renB, rens, ren]) (by simp [lendsOk, lendOk, lends, lend, wkL, wk, pos]) fun d hd => ⟨by simp [keepP, liveP, setAll, renB, killB], ?_⟩
 simp -implicitDefEqProofs only [rX,ofConst,↓reduceIte,Nat.reduceEqDiff,Nat.reduceAdd,killE,killB,kill,kills,St.kill,setAll,renB,rens,ren,back,kills,kill]
 have hdl : d.length = l.length := hd.p.length_eq
 intro hmx
 refine loopP_ghost (.virt 1 2 (by decide) (.nilE 4 2 rfl (.refl _))) (fun k : Nat => ⟨[(13, .i k), (12, .i l.length), (11, .sl 1 0 l.length), (4, .sl 2 0 ((d.take k).foldl mrg []).length)], h58 l d ((d.take k).foldl mrg []), 0⟩) (fun k => k ≤ d.length ∧ ((d.take k).foldl mrg []).length ≤ k) (fun k => d.length - k) 0 ⟨by omega, by simp⟩ ?_ ?_
 ·simp -implicitDefEqProofs only [rX,↓reduceIte,Nat.reduceEqDiff,leE,leH,leB,leV,leVs,keepP,liveP,wfE,wfB,wfV,wfL,yL,List.foldl_nil,yO]
  simp
 rintro k ⟨hk, hol⟩
 generalize ho : (d.take k).foldl mrg [] = o at hol
 unfold c81l0
 simp -implicitDefEqProofs only [rX,↓rY,ofConst,cells?,splice,↓reduceIte,Nat.reduceEqDiff,arrSz,Nat.reduceAdd,reduceCtorEq,freshP,litsP,leE,leH,leB,leV,leVs,keepP,liveP,wfE,wfB,wfV,wfL,killE,killB,kill,kills,St.kill,isD,isC,Nat.reduceLT,enS_len,enS_take,enS_0,enS_1,enS_C,enS_D,enS_drop,enS_kill]
 have hend : ∀ (hk' : k < d.length), ∀ o', o' = mrg o d[k] → ((lo IntKind.i64 ≤ (k : Int) + 1 ∧ (k : Int) + 1 ≤ hi IntKind.i64) ∧ ∃ g', ((g' ≤ d.length ∧ (vJ mrg [] (yA g' d)).length ≤ g') ∧ d.length - g' < d.length - k) ∧ ((k : Int) + 1 = (g' : Int) ∧ V.sl 2 0 o'.length = V.sl 2 0 (vJ mrg [] (yA g' d)).length) ∧ Blk.arr 2 (yN enS o') = Blk.arr 2 (yN enS (vJ mrg [] (yA g' d)))) := by
  intro h o' e
  have hf := fold_take h ([] : List Sp)
  rw [ho] at hf
  have := mrg_len (o := o) (s := d[k])
  refine ⟨by simp only [lo, hi]; omega, k + 1, ⟨⟨by omega, by rw [hf]; omega⟩, by omega⟩, ?_⟩
  rw [hf, ← e]
  simp
 have htk : yA o.length (o.map enS) = o.map enS := yC (by simp)
 simp only [br, decide_eq_true_eq, decide_eq_false_iff_not]
 refine ⟨fun h => ?_, fun h => ?_⟩
 ·have hk' : k < d.length := by omega
  have hend := hend hk'
  refine ⟨⟨by omega, h⟩, hk', fun hmo => ⟨fun h1 => hend o (mrg_skip h1).symm, fun h1 => ?_⟩⟩
  have h1' : ¬ d[k].1 ≥ d[k].2 := by omega
  have hbig : (o.length + 1) * 16 ≤ 140737488355328 := by omega
  have hadd : ∀ x, o ++ [x] = mrg o d[k] → x = d[k] → (o.length + 1) * 16 ≤ 140737488355328 ∧ (lo IntKind.i64 ≤ (k : Int) + 1 ∧ (k : Int) + 1 ≤ hi IntKind.i64) ∧ ∃ g', ((g' ≤ d.length ∧ (vJ mrg [] (yA g' d)).length ≤ g') ∧ d.length - g' < d.length - k) ∧ ((k : Int) + 1 = (g' : Int) ∧ V.sl 2 0 (o.length + 1) = V.sl 2 0 (vJ mrg [] (yA g' d)).length) ∧ Blk.arr 2 (yA o.length (yN enS o) ++ [enS d[k]]) = Blk.arr 2 (yN enS (vJ mrg [] (yA g' d))) := by
   rintro x hx rfl
   have := hend _ hx
   rw [htk]
   rw [yJ, yH] at this
   exact ⟨hbig, this⟩
  refine ⟨fun h2 => ?_, fun h2 => ?_⟩
  ·have hn : o.length - 1 < o.length := by omega
   have hto : ((o.length : Int) - 1).toNat = o.length - 1 := by omega
   have r1 : lo IntKind.i64 ≤ (o.length : Int) - 1 ∧ (o.length : Int) - 1 ≤ hi IntKind.i64 := by simp only [lo, hi]; omega
   have r2 : (0 : Int) ≤ (o.length : Int) - 1 ∧ (o.length : Int) - 1 < o.length := by omega
   simp only [hto]
   refine ⟨r1, r2, hn, fun h3 => ?_, fun h3 => ?_⟩
   ·refine ⟨r1, r1, r2, hn, r2, hn, ?_⟩
    have := hend _ (mrg_join h1' hn h3).symm
    have e : (yN enS o).set (o.length - 1) (yA 1 (enS o[o.length - 1]) ++ [V.v (Value.int IntKind.i64 (max o[o.length - 1].snd d[k].snd))]) = (o.set (o.length - 1) (o[o.length - 1].1, max o[o.length - 1].2 d[k].2)).map enS := by
     rw [List.map_set]; rfl
    rw [e]
    simpa using this
   ·exact hadd d[k] (mrg_add h1' hn h3).symm rfl
  ·have h0 : o = [] := vF.1 (by omega)
   refine hadd d[k] ?_ rfl
   subst h0
   exact (mrg_nil h1').symm
 ·refine retP_isQ d hd ?_
  have hf : (d.take k).foldl mrg [] = d.foldl mrg [] := by rw [yC (by omega)]
  rw [ho] at hf
  rw [hf]
  simp -implicitDefEqProofs only [rX,↓reduceIte,Nat.reduceAdd,resP,tupV,leH,leB,leV,leVs,keepP,liveP,wfB,wfV,wfL,Nat.reduceLeDiff]
theorem ok81 (l : List Sp) (hl : l.length ≤ 4398046511104) (hm : Mid l) : Ok 81 [spans l] (Is (spans (ofS l))) := by
 refine ⟨rlF_callable lw81, Fn_give (R := fun q hs => wk (spans (ofS l)) (gvV (fun _ => true) hs q)) ?_ fun _ _ h => h⟩
 refine (okN_post (raw58 l hl hm) ?_).2
 rintro r h ⟨d, hd, rfl, rfl⟩
 have e : d.foldl mrg [] = ofS l := mrg_of hd.s fun s => hd.p.mem_iff
 simp only [e]
 have ht : yA (ofS l).length ((ofS l).map enS) = (ofS l).map enS := yC (by simp)
 simp [gvV, gvL, wk, wkL, wkR, spans, blk, ht]
end Go.Fx.J
namespace Go.Fx.J
open Go Go.Fx Go.Proofs Go.Fx.R
set_option maxRecDepth 20000
theorem ok81m (l : List Sp) (hl : l.length ≤ 4398046511104) (hm : Mid l) : OkN Tryz.prog 81 [.sl 0 0 l.length] [.arr 2 (l.map enS)] [0] (IsA (spans (ofS l)) [.dead]) := by
 have ht : yA l.length (l.map enS) = l.map enS := yC (by simp)
 exact okN_mv (xs := [.sl 0 0 l.length]) (h0 := [.arr 2 (l.map enS)]) (ok81 l hl hm) (by simp [gvL, gvV, wkL, wk, wkR, blk, ht])
theorem call_58m {cx : Cx} {e : Env} {h : List Blk} {b k n : Nat} {K : V → St → Prop} (l : List Sp) (hC : cx.C = C0 Tryz.prog) (hl : l.length ≤ 4398046511104) (hm : Mid l) (hb : h[k]? = some (.arr 2 (l.map enS))) (hn : n = l.length) (hk : k ∉ cx.bn ∧ k ∉ cx.fx)
  (keep : keepP cx.fx ((h.map (killB [k])).set k .dead)) (h3 : K (spans (ofS l)) ⟨killE [k] e, (h.map (killB [k])).set k .dead, b⟩) : callP cx 81 [.sl k 0 n] ⟨e, h, b⟩ K := by
 subst hn
 have hlt : k < h.length := by
  rcases yU k h.length with h' | h'
  ·exact h'
  ·rw [uJ h'] at hb; cases hb
 have hbk : blk h k = .arr 2 (l.map enS) := by simp [blk, hb]
 refine call_isM (fun _ : Unit => True) [k] [0] [k] [.sl 0 0 l.length] (fun _ => spans (ofS l)) [.arr 2 (l.map enS)] (fun _ => [.dead]) ?_ ⟨by simp, fun j hj => ?_⟩ ⟨by simp, fun j hj i hi => ?_⟩ ?_ ?_ fun _ _ => ⟨?_, ?_⟩
 ·rw [hC]
  exact okN_post (ok81m l hl hm) fun r hs h => ⟨(), trivial, h.1, h.2⟩
 ·simp at hj; subst hj; exact ⟨hlt, hk.1⟩
 ·simp at hj; subst hj; simp at hi; subst hi; exact hk.2
 ·simp [hbk, renB]
 ·simp [lendsOk, lendOk, lends, lend, wkL, wk, pos]
 ·simpa [setAll, renB] using keep
 ·simpa [setAll, renB, ren, spans] using h3
theorem ok82 (l : List Sp) (s : Sp) (hl : l.length ≤ 4398046511103) (hs : Sep l) (hm : Mid (l ++ [s])) : Ok 82 [spans l, .agg (enS s)] (Is (spans (addS l s))) := by
 rw [← addS_of hs]
 refine ok_of lw82 (by simp) ?_
 unfold c82
 simp -implicitDefEqProofs only [rX,↓rY,rdK,ofConst,cells?,↓reduceIte,Nat.reduceEqDiff,reduceCtorEq,freshP,litsP,Nat.reduceLT,cxN,enS_len,enS_take,enS_D,args0]
 have hN : l.length ≤ 4398046511104 := by omega
 have hlen : (l ++ [s]).length ≤ 4398046511104 := by simp; omega
 have e1 : yA (l.length + 1) (l.map enS ++ [enS s]) = (l ++ [s]).map enS := by
  rw [yC (by simp), yJ]; rfl
 have e2 : yA l.length (l.map enS) ++ [enS s] = l.map enS ++ [enS s] := by rw [yC (by simp)]
 have e1a : yA l.length (l.map enS) = l.map enS := yC (by simp)
 refine ⟨?_, ?_⟩
 ·refine call_isA [spans l] (.sl 0 0 l.length) (.sl 3 0 l.length) [.arr 2 (l.map enS)] [.arr 2 (l.map enS)] (ok46A l hN) ⟨⟨trivial, trivial⟩, ⟨rfl, rfl⟩, trivial⟩ (by simp [ren]) (by simp [renB]) trivial ?_
  simp -implicitDefEqProofs only [rX,↓rY,cells?,↓reduceIte,Nat.reduceEqDiff,reduceCtorEq,freshP,litsP,killE,killB,kill,St.kill,Nat.reduceLT,enS_len,enS_D,enS_kill]
  refine ⟨by omega, ?_⟩
  refine call_58m (l ++ [s]) rfl hlen hm (by simp [e1a]) (by simp) (by simp) trivial ?_
  simp -implicitDefEqProofs only [rX,↓reduceIte,Nat.reduceEqDiff,reduceCtorEq,resP,tupV,wfV,killE,killB,kill,St.kill,enS_kill]
 ·refine call_isA [spans l] (.sl 0 0 l.length) (.sl 3 0 l.length) [.arr 2 (l.map enS)] [.arr 2 (l.map enS)] (ok46A l hN) ⟨⟨trivial, trivial⟩, ⟨rfl, rfl⟩, trivial⟩ (by simp [ren]) (by simp [renB]) trivial ?_
  simp -implicitDefEqProofs only [rX,↓rY,↓reduceIte,Nat.reduceEqDiff,reduceCtorEq,killE,killB,kill,St.kill,enS_kill]
  refine ⟨by omega, ?_⟩
  refine call_58m (l ++ [s]) rfl hlen hm (by simp [e1a]) (by simp) (by simp) trivial ?_
  simp -implicitDefEqProofs only [rX,↓reduceIte,Nat.reduceEqDiff,reduceCtorEq,resP,tupV,wfV,killE,killB,kill,St.kill,enS_kill]
end Go.Fx.J
namespace Go.Fx.J
open Go Go.Fx Go.Proofs Go.Fx.R
set_option maxRecDepth 20000
set_option maxHeartbeats 1000000 in
theorem grow0 (w : World) : Calls Tryz.prog 117 #[.slice none 0 0, .int .i64 0] w fun e w' => e = .returned (.slice none 0 0) ∧ w' = w := by
 go_enter Tryz.func117, Tryz.ntmps117
 go_wp2
 go_ret
 exact ⟨rfl, rfl⟩
set_option maxHeartbeats 1000000 in
theorem grow1 (n : Nat) (h0 : 0 < n) (hn : n ≤ 4398046511104) (w : World) : Calls Tryz.prog 117 #[.slice none 0 0, .int .i64 n] w fun e w' => ∃ G row, n ≤ G ∧ G ≤ 9223372036854775807 ∧ row.size = G * 2 ∧ e = .returned (.slice (some ⟨w.heap.size, 0, none⟩) 0 G) ∧ w' = w.drew.alloc (.cells row 55) := by
 have hi0 : Tryz.prog.info? 55 = some Tryz.t55 := by kernel_rfl
 have hz0 : Tryz.t55.zero = some (.agg #[.int .i64 0, .int .i64 0]) := by kernel_rfl
 have hs : Tryz.t55.size = 2 := by kernel_rfl
 have hb : Tryz.t55.bytes = 16 := by kernel_rfl
 have hold : (Builtin.firstCells Tryz.t55.size 0 (.slice none 0 0)).run Tryz.prog w.drew = .ok ([] : List Value).toArray w.drew := run_firstCells_none w.drew _ 0 0 0
 have hrz : ∀ ty, _ := fun ty => Lib.run_append_grow_zeros w 25 3 ty 55 Tryz.t55 _ .i64 .i64 Tryz.underlying25 Tryz.underlying3 hi0 hz0 none 0 0 [] hold n (by omega) (by omega) (by omega) (by omega) (by rw [hb]; omega) (by rw [hb]; exact growslice_fits (by omega) (by omega))
 simp only [yX] at hrz
 obtain ⟨G, hG⟩ : ∃ G, G = grownCap w n 0 55 := ⟨_, rfl⟩
 have hGn : n ≤ G := by rw [hG]; exact grownCap_ge w _ _ _
 have hG63 : G ≤ 9223372036854775807 := by
  have := grownCap_le_maxLen w n 0 55 (by unfold maxLen; omega)
  rw [← hG] at this
  unfold maxLen at this
  omega
 rw [← hG] at hrz
 generalize hrow : (([] : List Value).toArray ++ Builtin.zeroCells (Value.agg #[Value.int .i64 0, Value.int .i64 0]).cells n ++ Builtin.zeroCells (Value.agg #[Value.int .i64 0, Value.int .i64 0]).cells (G - n)) = row at hrz
 have hsz : row.size = G * 2 := by
  rw [← hrow]
  simp [Builtin.zeroCells, Value.cells]
  omega
 clear hold hG hrow
 have h1 : ¬ ((n : Int) < 0) := by omega
 have h4 : (n : Int) - (0 - 0) > 0 := by omega
 have e4 : (n : Int) - (0 - 0) = n := by omega
 go_enter Tryz.func117, Tryz.ntmps117
 go_wp2_with (at_builtin; refine Lib.wpList_append_run _ rfl _ _ _ _ rfl _ _ rfl rfl _ _ (hrz _) ?_)
 all_goals (go_ret; exact ⟨G, hGn, hG63, row, hsz, rfl, rfl⟩)
theorem ok117 (n : Nat) (hn : n ≤ 4398046511104) : Ok 117 [.nil, .i n] (IsA (.sl 0 0 0) [.arr 2 []]) := by
 refine ⟨cal Tryz.func117 (by kernel_rfl) (by kernel_rfl), ?_⟩
 intro ρ X w vals hr ha
 match vals, ha with
 | [v0, v1], ⟨h0, h1, _⟩ =>
 have h0' : v0 = .slice none 0 0 := h0
 have h1' : v1 = .int .i64 n := h1
 subst h0' h1'
 have hno : ∀ k, (ρ k).real = false := fun k => hr.out k (yD _)
 have hown : ∀ b, ¬ Own ρ b := by
  rintro b ⟨k, hk, _⟩
  rw [hno k] at hk; cases hk
 rcases Nat.eq_zero_or_pos n with rfl | hp
 ·refine (grow0 w).mono ?_
  rintro e w' ⟨rfl, rfl⟩
  have hno' : ∀ k, (({ ρ 0 with sz := 2 } : Loc) |> fun L => if k = 0 then L else ρ k).real = false := by
   intro k
   show (if k = 0 then _ else ρ k : Loc).real = false
   split
   ·exact hno 0
   ·exact hno k
  refine ⟨_, .sl 0 0 0, [.arr 2 []], fun k => if k = 0 then { ρ 0 with sz := 2 } else ρ k, rfl, ⟨⟨rfl, rfl⟩, yD _⟩, ⟨rfl, rfl, rfl, yI _, fun b hb ho => ⟨rfl, ?_⟩⟩, ⟨fun j k _ h => ?_, fun k _ => hno' k, fun k b hb => ?_, ?_, fun k h => ?_, hr.xlt⟩, ⟨0, yI _, yD _, .inl ⟨rfl, _, rfl⟩⟩, fun k hk => absurd hk (vQ _)⟩
  ·rintro ⟨k, hk, _⟩
   have := hno' k
   simp only at this
   rw [this] at hk; cases hk
  ·have := hno' j
   simp only at this
   rw [this] at h; cases h
  ·cases k with
   | succ k => simp at hb
   | zero =>
    simp only [vG, vB] at hb
    subst hb
    exact ⟨⟨rfl, by decide⟩, .inl ⟨hno 0, rfl⟩⟩
  ·rintro b ⟨k, hk, _⟩
   have := hno' k
   simp only at this
   rw [this] at hk; cases hk
  ·have := hno' k
   simp only at this
   rw [this] at h; cases h
 ·refine (grow1 n hp hn w).mono ?_
  rintro e w' ⟨G, row, g1, g2, g3, rfl, rfl⟩
  have hsize : (w.drew.alloc (.cells row 55)).heap.size = w.heap.size + 1 := Array.size_push ..
  have hold : ∀ b, b < w.heap.size → (w.drew.alloc (.cells row 55)).heap[b]? = w.heap[b]? := by
   intro b hb
   simp only [World.alloc, World.drew]
   rw [Array.getElem?_push_lt (by simpa using hb), Array.getElem?_eq_getElem (by simpa using hb)]
  have hnew : (w.drew.alloc (.cells row 55)).heap[w.heap.size]? = some (.cells row 55 (0, 0)) := by
   simp only [World.alloc, World.drew]
   simp
  let L0 : Loc := { ρ 0 with real := true, blk := w.heap.size, off := 0, sz := 2, room := G * 2 }
  have hloc : ∀ k, (if k = 0 then L0 else ρ k : Loc).real = true → k = 0 := by
   intro k hk
   by_cases h : k = 0
   ·exact h
   ·rw [if_neg h, hno k] at hk; cases hk
  refine ⟨_, .sl 0 0 0, [.arr 2 []], fun k => if k = 0 then L0 else ρ k, rfl, ⟨⟨rfl, rfl⟩, yD _⟩, ⟨rfl, rfl, rfl, by omega, fun b hb ho => ⟨hold b hb, ?_⟩⟩, ⟨fun j k hjk h1 h2 => ?_, fun k hk => ?_, fun k b hb => ?_, ?_, fun k h => ?_, fun b hb => by have := hr.xlt b hb; omega⟩, ⟨G, yD _, by unfold maxLen; omega, .inr ⟨rfl, by simp [L0], by simp [L0]⟩⟩, fun k hk => absurd hk (vQ _)⟩
  ·rintro ⟨k, hk, hb2⟩
   have := hloc k hk
   subst this
   simp only [if_pos] at hb2
   have : w.heap.size = b := hb2
   omega
  ·exact absurd ((hloc j h1).trans (hloc k h2).symm) hjk
  ·have : k ≠ 0 := by simp at hk; omega
   simp only [if_neg this]
   exact hno k
  ·cases k with
   | succ k => simp at hb
   | zero =>
    simp only [vG, vB] at hb
    subst hb
    exact ⟨⟨rfl, by decide⟩, .inr ⟨rfl, row, 55, hnew, g3, by simp [L0], trivial⟩⟩
  ·rintro b ⟨k, hk, hb2⟩ hX
   have := hloc k hk
   subst this
   simp only [if_pos] at hb2
   have h3 : w.heap.size = b := hb2
   have := hr.xlt b hX
   omega
  ·have := hloc k h
   subst this
   show w.heap.size < _
   omega
theorem flat_take {L : List (List Sp)} {k : Nat} (h : k < L.length) : (L.take (k + 1)).flatten = (L.take k).flatten ++ L[k] := by
 rw [yT, yM h, uL]; simp
theorem flat_le {L : List (List Sp)} {k : Nat} : (L.take k).flatten.length ≤ L.flatten.length := by
 conv => rhs; rw [← vX k L, uL, yH]
 omega
theorem ok104 (L : List (List Sp)) (hL : L.flatten.length ≤ 4398046511104) : Ok 104 [.bro 1 (L.map enL)] (IsA (.sl 0 0 L.flatten.length) [.arr 2 (L.flatten.map enS)]) := by
 refine ok_of lw104 (by simp) ?_
 unfold c104
 simp -implicitDefEqProofs only [rX,↓rY,ofConst,↓reduceIte,reduceCtorEq,cxN,args0]
 intro hm
 refine loopP_intro (fun k : Nat => ⟨[(11, .i k), (10, .i L.length), (9, .bro 1 (L.map enL)), (3, .i (L.take k).flatten.length), (0, .bro 1 (L.map enL))], [], 0⟩) (fun k => k ≤ L.length) (fun k => L.length - k) 0 (by omega) ?_ ?_
 ·simp -implicitDefEqProofs only [rX,↓reduceIte,Nat.reduceEqDiff,reduceCtorEq,leE,leH,keepP,wfE,wfB,wfV,yL,List.flatten_nil]
 rintro k hk
 have hle := flat_le (L := L) (k := k)
 unfold c104l0
 simp -implicitDefEqProofs only [rX,↓rY,ofConst,↓reduceIte,Nat.reduceEqDiff,reduceCtorEq,leE,leH,keepP,wfE,wfB,wfV,enL_0]
 simp only [br, decide_eq_true_eq, decide_eq_false_iff_not]
 refine ⟨fun h => ?_, fun h => ?_⟩
 ·have hk' : k < L.length := by omega
  have hle2 := flat_le (L := L) (k := k + 1)
  have hf := flat_take hk'
  refine ⟨⟨by omega, h⟩, hk', ?_⟩
  intro hm2
  have hfl : (L.take (k + 1)).flatten.length = (L.take k).flatten.length + L[k].length := by rw [hf, yH]
  refine ⟨by simp only [lo, hi]; omega, fun hneg => absurd hneg (by omega), fun _ => ⟨by simp only [lo, hi, maxLen] at *; omega, k + 1, ⟨by omega, by omega⟩, ?_⟩⟩
  rw [hfl]
  simp
 ·rw [yC (by omega)]
  refine call_isA [.nil, .i L.flatten.length] (.sl 0 0 0) (.sl 0 0 0) [.arr 2 []] [.arr 2 []] (ok117 _ hL) ⟨⟨trivial, trivial, trivial⟩, rfl, rfl, trivial⟩ (by simp [ren]) (by simp [renB]) trivial ?_
  simp -implicitDefEqProofs only [rX,↓rY,ofConst,↓reduceIte,reduceCtorEq]
  intro hm2
  refine loopP_intro (fun k : Nat => ⟨[(27, .i k), (26, .i L.length), (25, .bro 1 (L.map enL)), (6, .sl 0 0 (L.take k).flatten.length)], [.arr 2 ((L.take k).flatten.map enS)], 0⟩) (fun k => k ≤ L.length) (fun k => L.length - k) 0 (by omega) ?_ ?_
  ·simp -implicitDefEqProofs only [rX,↓reduceIte,Nat.reduceEqDiff,leE,leH,leB,keepP,liveP,wfE,wfB,wfV,yL,List.flatten_nil]
  rintro k hk
  have hle := flat_le (L := L) (k := k)
  unfold c104l1
  simp -implicitDefEqProofs only [rX,↓rY,ofConst,↓reduceIte,Nat.reduceEqDiff,Nat.reduceAdd,resP,tupV,leE,leH,leB,keepP,liveP,wfE,wfB,wfV,killE,killB,kill,St.kill,Nat.reduceLeDiff,enL_0,retP_isA]
  simp only [br, decide_eq_true_eq, decide_eq_false_iff_not]
  refine ⟨fun h => ?_, fun h => ?_⟩
  ·have hk' : k < L.length := by omega
   have hle2 := flat_le (L := L) (k := k + 1)
   have hf := flat_take hk'
   have hfl : (L.take (k + 1)).flatten.length = (L.take k).flatten.length + L[k].length := by rw [hf, yH]
   refine ⟨⟨by omega, h⟩, hk', by simp, by omega, by simp only [lo, hi, maxLen] at *; omega, k + 1, ⟨by omega, by omega⟩, ?_⟩
   have htk : yA (L.take k).flatten.length ((L.take k).flatten.map enS) = (L.take k).flatten.map enS := yC (by rw [yS]; exact yI _)
   rw [htk, hfl, hf, yJ]
   exact ⟨⟨by simp, rfl⟩, rfl⟩
  ·rw [yC (by omega)]
   exact ⟨rfl, rfl⟩
end Go.Fx.J
namespace Go.Fx.R
open Go
def srt (l : List Int) : List Int := l.mergeSort fun x y => decide (x ≤ y)
theorem srt_len {l : List Int} : (srt l).length = l.length := List.length_mergeSort ..
abbrev Asc (l : List Int) : Prop := l.Pairwise (· < ·)
theorem cmp_up {d : Array Int} (hs : ∀ i j, i ≤ j → j < d.size → d[i]! ≤ d[j]!) : ∀ m, m ≤ d.size → Asc (Lib.compactUpTo d m) ∧ ∀ x, x ∈ Lib.compactUpTo d m ↔ ∃ j, j < m ∧ d[j]! = x
 | 0, _ => by
  constructor
  ·simp [Lib.compactUpTo, Asc]
  ·intro x; simp [Lib.compactUpTo]
 | m + 1, hm => by
  obtain ⟨h1, h2⟩ := cmp_up hs m (by omega)
  rw [Lib.compactUpTo_succ]
  by_cases hk : Lib.keeps d m = true
  ·rw [if_pos hk]
   constructor
   ·rw [Asc, vR]
    refine ⟨h1, by simp, fun x hx y hy => ?_⟩
    rw [yF] at hy
    subst hy
    obtain ⟨j, hj, rfl⟩ := (h2 x).1 hx
    have h3 := hs j m (by omega) (by omega)
    simp only [Lib.keeps, decide_eq_true_eq] at hk
    rcases hk with hk | hk
    ·omega
    ·have h4 := hs j (m - 1) (by omega) (by omega)
     have h5 := hs (m - 1) m (by omega) (by omega)
     omega
   ·intro x
    rw [yG, yF, h2]
    constructor
    ·rintro (⟨j, hj, he⟩ | he)
     ·exact ⟨j, by omega, he⟩
     ·exact ⟨m, by omega, he.symm⟩
    ·rintro ⟨j, hj, he⟩
     by_cases hjm : j = m
     ·subst hjm; exact .inr he.symm
     ·exact .inl ⟨j, by omega, he⟩
  ·rw [if_neg hk, yZ]
   refine ⟨h1, fun x => ?_⟩
   rw [h2]
   simp only [Lib.keeps, decide_eq_true_eq, not_or, ne_eq, Decidable.not_not] at hk
   constructor
   ·rintro ⟨j, hj, he⟩
    exact ⟨j, by omega, he⟩
   ·rintro ⟨j, hj, he⟩
    by_cases hjm : j = m
    ·subst hjm
     exact ⟨j - 1, by omega, by rw [← hk.2]; exact he⟩
    ·exact ⟨j, by omega, he⟩
theorem srt_pw {l : List Int} : (srt l).Pairwise (· ≤ ·) := by
 have := List.pairwise_mergeSort (le := fun x y : Int => decide (x ≤ y)) (fun a b c h1 h2 => by simp at *; omega) (fun a b => by simp; omega) l
 exact this.imp fun h => by simpa using h
theorem mem_srt {l : List Int} {x : Int} : x ∈ srt l ↔ x ∈ l := List.mem_mergeSort
def uni (l : List Int) : List Int := Lib.compact (srt l)
theorem uni_both {l : List Int} : Asc (uni l) ∧ ∀ x, x ∈ uni l ↔ x ∈ l := by
 have hs : ∀ i j, i ≤ j → j < (srt l).toArray.size → (srt l).toArray[i]! ≤ (srt l).toArray[j]! := fun i j hij hj => by
  have hj' : j < (srt l).length := by simpa using hj
  rw [getElem!_pos (srt l).toArray i (by simp; omega), getElem!_pos (srt l).toArray j (by simpa using hj')]
  simp only [uM]
  by_cases he : i = j
  ·subst he; exact Int.le_refl _
  ·exact (yV.1 srt_pw) i j (by omega) hj' (by omega)
 obtain ⟨h1, h2⟩ := cmp_up hs (srt l).length (by simp)
 refine ⟨h1, fun x => ?_⟩
 rw [uni, Lib.compact, h2]
 constructor
 ·rintro ⟨j, hj, he⟩
  rw [getElem!_pos (srt l).toArray j (by simpa using hj)] at he
  simp only [uM] at he
  have : x ∈ srt l := he ▸ yW hj
  rwa [mem_srt] at this
 ·intro h
  have : x ∈ srt l := by rw [mem_srt]; exact h
  obtain ⟨j, hj, he⟩ := vE this
  refine ⟨j, hj, ?_⟩
  rw [getElem!_pos (srt l).toArray j (by simpa using hj)]
  simpa using he
theorem cmp_len {l : List Int} : (Lib.compact l).length ≤ l.length := by
 have h := vY (Lib.keeps l.toArray) (List.range l.length)
 rw [List.length_range] at h
 simpa [Lib.compact, Lib.compactUpTo] using h
theorem uni_len {l : List Int} : (uni l).length ≤ l.length := by
 have h1 := cmp_len (l := srt l)
 rw [srt_len] at h1
 exact h1
def endsL (l : List Sp) : List Int := l.flatMap fun s => [s.1, s.2]
theorem mem_ends {l : List Sp} {x : Int} : x ∈ endsL l ↔ ∃ s ∈ l, x = s.1 ∨ x = s.2 := by
 simp only [endsL, List.mem_flatMap, yE, vS, or_false]
theorem ends_len : ∀ {l : List Sp}, (endsL l).length = 2 * l.length
 | [] => rfl
 | s :: l => by
  have := ends_len (l := l)
  unfold endsL at *
  rw [vT, yH, this, yQ]
  simp; omega
def cutE (a b : List Sp) : List Int := uni (endsL (a ++ b))
def pieces : List Int → List Sp
 | x :: y :: r => (x, y) :: pieces (y :: r)
 | _ => []
theorem pieces_len : ∀ {E : List Int}, (pieces E).length = E.length - 1
 | [] => rfl
 | [_] => rfl
 | x :: y :: r => by
  have := pieces_len (E := y :: r)
  simp only [pieces, yQ] at *
  omega
theorem pieces_get : ∀ {E : List Int} {k : Nat} (h : k < (pieces E).length), (pieces E)[k] = (E[k]'(by rw [pieces_len] at h; omega), E[k + 1]'(by rw [pieces_len] at h; omega))
 | [], k, h => by simp [pieces] at h
 | [_], k, h => by simp [pieces] at h
 | x :: y :: r, 0, h => rfl
 | x :: y :: r, k + 1, h => by
  have := pieces_get (E := y :: r) (k := k) (by simpa [pieces] using h)
  simpa [pieces] using this
theorem pieces_cover : ∀ {E : List Int} {x u v : Int}, Asc E → u ∈ E → v ∈ E → u ≤ x → x < v → ∃ s ∈ pieces E, s.1 ≤ x ∧ x < s.2
 | [], _, u, _, _, hu, _, _, _ => by simp at hu
 | [a], _, u, v, _, hu, hv, h1, h2 => by
  simp at hu hv; omega
 | a :: b :: r, x, u, v, h, hu, hv, h1, h2 => by
  obtain ⟨h3, h4⟩ := yP.1 h
  by_cases c : x < b
  ·refine ⟨(a, b), by simp [pieces], ?_, c⟩
   rcases yE.1 hu with rfl | hu
   ·exact h1
   ·have := h3 u hu; simp only; omega
  ·have hvb : v ∈ b :: r := by
    rcases yE.1 hv with rfl | hv
    ·have := h3 b (by simp); omega
    ·exact hv
   obtain ⟨s, hs, h5⟩ := pieces_cover h4 (u := b) (by simp) hvb (by omega) h2
   exact ⟨s, by simp [pieces, hs], h5⟩
theorem pieces_lt {E : List Int} (h : Asc E) {s : Sp} (hs : s ∈ pieces E) : s.1 < s.2 ∧ s.1 ∈ E ∧ s.2 ∈ E ∧ ∀ e ∈ E, e ≤ s.1 ∨ s.2 ≤ e := by
 obtain ⟨k, hk, rfl⟩ := vE hs
 rw [pieces_get hk]
 have hk' := hk
 rw [pieces_len] at hk'
 have hp := yV.1 h
 refine ⟨hp k (k + 1) (by omega) (by omega) (by omega), yW _, yW _, fun e he => ?_⟩
 obtain ⟨j, hj, rfl⟩ := vE he
 rcases yU k j with c | c
 ·right
  rcases yU (k + 1) j with c2 | c2
  ·have := hp (k + 1) j (by omega) hj c2; simp only; omega
  ·have : j = k + 1 := by omega
   subst this; simp only; omega
 ·left
  rcases yU j k with c2 | c2
  ·have := hp j k (by omega) (by omega) c2; simp only; omega
  ·have : j = k := by omega
   subst this; simp only; omega
def hasB (l : List Sp) (x : Int) : Bool := l.any fun s => decide (s.1 ≤ x) && decide (x < s.2)
theorem hasB_iff {l : List Sp} {x : Int} : hasB l x = true ↔ inS l x := by
 simp only [hasB, List.any_eq_true, vA, decide_eq_true_eq, inS]
theorem in_piece {E : List Int} (h : Asc E) {a : List Sp} (ha : ∀ s ∈ a, s.1 ∈ E ∧ s.2 ∈ E) {s : Sp} (hs : s ∈ pieces E) {x : Int} (h1 : s.1 ≤ x) (h2 : x < s.2) : inS a x ↔ inS a s.1 := by
 obtain ⟨p1, p2, p3, p4⟩ := pieces_lt h hs
 constructor
 ·rintro ⟨t, ht, h3, h4⟩
  have a1 := p4 _ (ha t ht).1
  have a2 := p4 _ (ha t ht).2
  exact ⟨t, ht, by omega, by omega⟩
 ·rintro ⟨t, ht, h3, h4⟩
  have a2 := p4 _ (ha t ht).2
  exact ⟨t, ht, by omega, by omega⟩
theorem cutE_asc {a b : List Sp} : Asc (cutE a b) := uni_both.1
theorem cutE_a {a b : List Sp} : ∀ s ∈ a, s.1 ∈ cutE a b ∧ s.2 ∈ cutE a b := fun s hs => by
 unfold cutE
 rw [uni_both.2, uni_both.2, mem_ends, mem_ends]
 exact ⟨⟨s, by simp [hs], .inl rfl⟩, ⟨s, by simp [hs], .inr rfl⟩⟩
theorem cutE_b {a b : List Sp} : ∀ s ∈ b, s.1 ∈ cutE a b ∧ s.2 ∈ cutE a b := fun s hs => by
 unfold cutE
 rw [uni_both.2, uni_both.2, mem_ends, mem_ends]
 exact ⟨⟨s, by simp [hs], .inl rfl⟩, ⟨s, by simp [hs], .inr rfl⟩⟩
theorem in_sel {a b : List Sp} {f : Bool → Bool → Bool} (hf : f false false = false) {x : Int} : inS ((pieces (cutE a b)).filter fun s => f (hasB a s.1) (hasB b s.1)) x ↔ f (hasB a x) (hasB b x) = true := by
 have heq : ∀ s ∈ pieces (cutE a b), s.1 ≤ x → x < s.2 → hasB a x = hasB a s.1 ∧ hasB b x = hasB b s.1 := fun s hs h1 h2 => by
  constructor
  ·rw [uF, hasB_iff, hasB_iff]; exact in_piece cutE_asc cutE_a hs h1 h2
  ·rw [uF, hasB_iff, hasB_iff]; exact in_piece cutE_asc cutE_b hs h1 h2
 constructor
 ·rintro ⟨s, hs, h1, h2⟩
  rw [uG] at hs
  obtain ⟨e1, e2⟩ := heq s hs.1 h1 h2
  rw [e1, e2]
  exact hs.2
 ·intro h
  have hcov : ∃ s ∈ pieces (cutE a b), s.1 ≤ x ∧ x < s.2 := by
   by_cases ha : hasB a x = true
   ·obtain ⟨t, ht, h1, h2⟩ := hasB_iff.1 ha
    exact pieces_cover cutE_asc (cutE_a t ht).1 (cutE_a t ht).2 h1 h2
   ·by_cases hb : hasB b x = true
    ·obtain ⟨t, ht, h1, h2⟩ := hasB_iff.1 hb
     exact pieces_cover cutE_asc (cutE_b t ht).1 (cutE_b t ht).2 h1 h2
    ·have e1 : hasB a x = false := by simpa using ha
     have e2 : hasB b x = false := by simpa using hb
     rw [e1, e2, hf] at h; cases h
  obtain ⟨s, hs, h1, h2⟩ := hcov
  obtain ⟨e1, e2⟩ := heq s hs h1 h2
  rw [e1, e2] at h
  exact ⟨s, uG.2 ⟨hs, h⟩, h1, h2⟩
def selS (f : Bool → Bool → Bool) (a b : List Sp) : List Sp := ofS ((pieces (cutE a b)).filter fun s => f (hasB a s.1) (hasB b s.1))
theorem sel_meet {a b : List Sp} (ha : Sep a) : selS (fun x y => x && y) a b = meetS a b := by
 refine Sep.ext sep_ofS (sep_meetS ha) fun x => ?_
 unfold selS
 rw [in_ofS, in_sel (f := fun x y => x && y) rfl, in_meetS, vA, hasB_iff, hasB_iff]
theorem sel_minus {a b : List Sp} (ha : Sep a) : selS (fun x y => x && !y) a b = minusS a b := by
 refine Sep.ext sep_ofS (sep_minusS ha) fun x => ?_
 unfold selS
 rw [in_ofS, in_sel (f := fun x y => x && !y) rfl, in_minusS, vA, hasB_iff, Bool.not_eq_true', ← Bool.not_eq_true, hasB_iff]
end Go.Fx.R
namespace Go.Fx.J
open Go Go.Fx Go.Proofs Go.Fx.R Go.RowKit
set_option maxRecDepth 20000
theorem repEls_get {S : Nat → Prop} {w : World} {b : Nat} : ∀ {l : List Int} {off : Nat}, RepEls S w 1 b off (l.map encI) → ∀ j (h : j < l.length), w.cell? ⟨b, off + j, none⟩ = some (.int .i64 l[j])
 | [], _, _, j, h => by simp at h
 | x :: r, off, hr, j, h => by
  obtain ⟨⟨_, ⟨val, h1, h2⟩, _⟩, h3⟩ := hr
  cases j with
  | zero =>
   have : val = .int .i64 x := h2.1
   subst this; exact h1
  | succ j =>
   have := repEls_get h3 j (by simpa using h)
   rw [show off + (j + 1) = off + 1 + j by omega]
   exact this
theorem repEls_of {S : Nat → Prop} {w : World} {b : Nat} : ∀ {l : List Int} {off : Nat}, (∀ j (h : j < l.length), w.cell? ⟨b, off + j, none⟩ = some (.int .i64 l[j])) → RepEls S w 1 b off (l.map encI)
 | [], _, _ => trivial
 | x :: r, off, h => ⟨⟨rfl, ⟨_, h 0 (by simp), rfl, rfl⟩, trivial⟩, repEls_of fun j hj => by
   have := h (j + 1) (by simpa using hj)
   rw [show off + 1 + j = off + (j + 1) by omega]
   exact this⟩
theorem ok105 (l : List Int) (hl : l.length < 4611686018427387904) : OkN Tryz.prog 105 [.sl 0 0 l.length] [.arr 1 (l.map encI)] [] (IsA (.tup []) [.arr 1 ((srt l).map encI)]) := by
 refine ⟨cal Tryz.func105 (by kernel_rfl) (by kernel_rfl), ?_⟩
 intro ρ X w vals hr ha
 match vals, ha with
 | [val], ⟨hv, _⟩ =>
 obtain ⟨cap, h1, h2, h3⟩ := hv
 rcases h3 with ⟨h4, a, rfl⟩ | ⟨hre, rfl, hroom⟩
 ·have hl0 : l = [] := vF.1 (by omega)
  subst hl0
  refine (Tryz.slices_Sort_int_none a 0 w).mono ?_
  rintro e w' ⟨rfl, rfl⟩
  exact ⟨_, .tup [], [.arr 1 []], ρ, rfl, ⟨⟨rfl, by simp [srt]⟩, yI _⟩, Fr.refl _ _, hr, ⟨#[], rfl, trivial⟩, fun _ _ _ => rfl⟩
 ·have hb := hr.blk 0 _ rfl
  obtain ⟨⟨hsz, _⟩, hb | ⟨_, c, T, hc, hcs, hlen, hels⟩⟩ := hb
  ·rw [hb.1] at hre; cases hre
  have hoff : (ρ 0).off + 0 * (ρ 0).sz = (ρ 0).off := by omega
  rw [hoff]
  rw [yS] at hlen
  have hg := fun j hj => repEls_get hels j hj
  have hH : Sort.Holds (Value.int .i64) w (ρ 0).blk (ρ 0).off l.toArray := by
   intro j hj
   have hj' : j < l.length := by simpa using hj
   refine ⟨?_, by simp [World.frozen?, hc]⟩
   rw [hg j hj']
   simp [hj']
  refine (Tryz.slices_Sort_int (ρ 0).blk (ρ 0).off cap l w hH (hr.lt 0 hre) hl).mono ?_
  rintro e w' ⟨rfl, n, os, rfl⟩
  have hbl := hr.lt 0 hre
  have hsl : (srt l).length = l.length := srt_len
  have hw1 : (Sort.grow (Sort.putRow (Value.int .i64) (Sort.ahead w n) (ρ 0).blk (ρ 0).off (srt l).toArray) os).heap[(ρ 0).blk]? = some (.cells (Sort.putCells (Value.int .i64) (ρ 0).off (srt l).toArray c) T (0, 0)) := by
   simp only [Sort.grow, Sort.putRow, Sort.mapBlock, Sort.ahead]
   rw [vP (by simpa using hbl), vH, if_pos rfl, hc]
   rfl
  have hw2 : ∀ b, b < w.heap.size → b ≠ (ρ 0).blk → (Sort.grow (Sort.putRow (Value.int .i64) (Sort.ahead w n) (ρ 0).blk (ρ 0).off (srt l).toArray) os).heap[b]? = w.heap[b]? := by
   intro b hb hne
   simp only [Sort.grow, Sort.putRow, Sort.mapBlock, Sort.ahead]
   rw [vP (by simpa using hb), vH, if_neg (fun h => hne h.symm)]
  have hsize : w.heap.size ≤ (Sort.grow (Sort.putRow (Value.int .i64) (Sort.ahead w n) (ρ 0).blk (ρ 0).off (srt l).toArray) os).heap.size := by
   simp [Sort.grow, Sort.putRow, Sort.mapBlock, Sort.ahead]
  have hfr : Fr ρ w ρ (Sort.grow (Sort.putRow (Value.int .i64) (Sort.ahead w n) (ρ 0).blk (ρ 0).off (srt l).toArray) os) := ⟨rfl, rfl, rfl, hsize, fun b hb ho => ⟨hw2 b hb fun h => ho ⟨0, hre, h.symm⟩, ho⟩⟩
  have hcell : ∀ j (hj : j < l.length), (Sort.grow (Sort.putRow (Value.int .i64) (Sort.ahead w n) (ρ 0).blk (ρ 0).off (srt l).toArray) os).cell? ⟨(ρ 0).blk, (ρ 0).off + j, none⟩ = some (.int .i64 ((srt l)[j]'(by rw [hsl]; exact hj))) := by
   intro j hj
   have hjc : (ρ 0).off + j < c.size := by rw [hcs]; rw [hsz] at hroom; omega
   simp only [World.cell?, hw1]
   simp [Sort.putCells, hjc, hsl, hj]
  refine ⟨_, .tup [], [.arr 1 ((srt l).map encI)], ρ, rfl, ⟨⟨rfl, rfl⟩, yI _⟩, hfr, ⟨hr.inj, hr.out, fun k b hk => ?_, hr.disj, fun k hk => vI (hr.lt k hk) hsize, fun b hb => vI (hr.xlt b hb) hsize⟩, ⟨#[], rfl, trivial⟩, fun _ _ _ => rfl⟩
  cases k with
  | succ k => simp at hk
  | zero =>
   simp only [vG, vB] at hk
   subst hk
   refine ⟨⟨hsz, by omega⟩, .inr ⟨hre, _, T, hw1, by simp [Sort.putCells, hcs], by rw [yS, hsl]; exact hlen, repEls_of fun j hj => ?_⟩⟩
   rw [hsl] at hj
   exact hcell j hj
theorem ok106 (l : List Int) (hl : l.length < 4611686018427387904) : OkN Tryz.prog 106 [.sl 0 0 l.length] [.arr 1 (l.map encI)] [] (IsA (.sl 0 0 (Lib.compact l).length) [.arr 1 ((Lib.compact l ++ yB (l.length - (Lib.compact l).length) 0).map encI)]) := by
 refine ⟨cal Tryz.func106 (by kernel_rfl) (by kernel_rfl), ?_⟩
 intro ρ X w vals hr ha
 match vals, ha with
 | [val], ⟨hv, _⟩ =>
 obtain ⟨cap, h1, h2, h3⟩ := hv
 rcases h3 with ⟨h4, a, rfl⟩ | ⟨hre, rfl, hroom⟩
 ·have hl0 : l = [] := vF.1 (by omega)
  subst hl0
  refine (Tryz.slices_Compact_int_empty a 0 w).mono ?_
  rintro e w' ⟨rfl, rfl⟩
  refine ⟨_, .sl 0 0 0, [.arr 1 []], ρ, rfl, ⟨⟨rfl, rfl⟩, yI _⟩, Fr.refl _ _, hr, ?_, fun _ _ _ => rfl⟩
  exact ⟨0, yI _, yD _, .inl ⟨rfl, a, rfl⟩⟩
 ·have hb := hr.blk 0 _ rfl
  obtain ⟨⟨hsz, _⟩, hb | ⟨_, c, T, hc, hcs, hlen, hels⟩⟩ := hb
  ·rw [hb.1] at hre; cases hre
  have hoff : (ρ 0).off + 0 * (ρ 0).sz = (ρ 0).off := by omega
  rw [hoff]
  rw [yS] at hlen
  have hg := fun j hj => repEls_get hels j hj
  have hH : Sort.Holds (Value.int .i64) w (ρ 0).blk (ρ 0).off l.toArray := by
   intro j hj
   have hj' : j < l.length := by simpa using hj
   refine ⟨?_, by simp [World.frozen?, hc]⟩
   rw [hg j hj']
   simp [hj']
  refine (Tryz.slices_Compact_int (ρ 0).blk (ρ 0).off cap l w hH (by omega) (by simpa using h1)).mono ?_
  rintro e w' ⟨rfl, q, rfl⟩
  have hbl := hr.lt 0 hre
  generalize hL : Lib.compact l ++ yB (l.length - (Lib.compact l).length) 0 = L
  have hsl : L.length = l.length := by
   rw [← hL, yH, List.length_replicate]
   have := cmp_len (l := l)
   omega
  have hw1 : (Sort.putRow (Value.int .i64) (Sort.ahead w q) (ρ 0).blk (ρ 0).off L.toArray).heap[(ρ 0).blk]? = some (.cells (Sort.putCells (Value.int .i64) (ρ 0).off L.toArray c) T (0, 0)) := by
   simp only [Sort.putRow, Sort.mapBlock, Sort.ahead]
   rw [vH, if_pos rfl, hc]
   rfl
  have hw2 : ∀ b, b < w.heap.size → b ≠ (ρ 0).blk → (Sort.putRow (Value.int .i64) (Sort.ahead w q) (ρ 0).blk (ρ 0).off L.toArray).heap[b]? = w.heap[b]? := by
   intro b hb hne
   simp only [Sort.putRow, Sort.mapBlock, Sort.ahead]
   rw [vH, if_neg (fun h => hne h.symm)]
  have hsize : w.heap.size ≤ (Sort.putRow (Value.int .i64) (Sort.ahead w q) (ρ 0).blk (ρ 0).off L.toArray).heap.size := by
   simp [Sort.putRow, Sort.mapBlock, Sort.ahead]
  have hfr : Fr ρ w ρ (Sort.putRow (Value.int .i64) (Sort.ahead w q) (ρ 0).blk (ρ 0).off L.toArray) := ⟨rfl, rfl, rfl, hsize, fun b hb ho => ⟨hw2 b hb fun h => ho ⟨0, hre, h.symm⟩, ho⟩⟩
  have hcell : ∀ j (hj : j < l.length), (Sort.putRow (Value.int .i64) (Sort.ahead w q) (ρ 0).blk (ρ 0).off L.toArray).cell? ⟨(ρ 0).blk, (ρ 0).off + j, none⟩ = some (.int .i64 (L[j]'(by rw [hsl]; exact hj))) := by
   intro j hj
   have hjc : (ρ 0).off + j < c.size := by rw [hcs]; rw [hsz] at hroom; omega
   simp only [World.cell?, hw1]
   simp [Sort.putCells, hjc, hsl, hj]
  refine ⟨_, .sl 0 0 (Lib.compact l).length, [.arr 1 (L.map encI)], ρ, rfl, ⟨⟨rfl, rfl⟩, yI _⟩, hfr, ⟨hr.inj, hr.out, fun k b hk => ?_, hr.disj, fun k hk => vI (hr.lt k hk) hsize, fun b hb => vI (hr.xlt b hb) hsize⟩, ?_, fun _ _ _ => rfl⟩
  ·cases k with
   | succ k => simp at hk
   | zero =>
    simp only [vG, vB] at hk
    subst hk
    refine ⟨⟨hsz, by omega⟩, .inr ⟨hre, _, T, hw1, by simp [Sort.putCells, hcs], by rw [yS, hsl]; exact hlen, repEls_of fun j hj => ?_⟩⟩
    rw [hsl] at hj
    exact hcell j hj
  ·have hcl := cmp_len (l := l)
   exact ⟨cap, by omega, h2, .inr ⟨hre, by simp, hroom⟩⟩
end Go.Fx.J
namespace Go.Fx.J
open Go Go.Fx Go.Proofs Go.Fx.R
set_option maxRecDepth 20000
abbrev hpM (A B o : List Sp) : List Blk := [.var [.sl 4 0 o.length], .var [spans A], .var [spans B], .rcd .ready [(5, .ptr 0 0 0)], .arr 2 (o.map enS)]
structure E94 (A B : List Sp) (i j n : Nat) (e : Env) : Prop where
 e0 : get e 0 = .itr 3
 e1 : get e 1 = .ptr 1 0 0
 e2 : get e 2 = .ptr 2 0 0
 e4 : get e 4 = .ro 1 ((cutE A B).map encI)
 e7 : get e 7 = .i i
 e8 : get e 8 = .i j
 e9 : get e 9 = .i n
structure Past (A : List Sp) (i : Nat) (x : Int) : Prop where
 l : i ≤ A.length
 h : ∀ j (hj : j < A.length), j < i → A[j].2 ≤ x
theorem Past.mono {A : List Sp} {i : Nat} {x y : Int} (h : Past A i x) (hxy : x ≤ y) : Past A i y := ⟨h.l, fun j hj hlt => Int.le_trans (h.h j hj hlt) hxy⟩
section
variable {A B : List Sp} {fx : List Nat} {Y : Yt} {K : List Blk → Prop} {Inv : Nat → List Sp → Prop}
structure EN (E : List Int) (i j n : Nat) (e : Env) : Prop where
 e0 : get e 0 = .itr 3
 e1 : get e 1 = .ptr 1 0 0
 e2 : get e 2 = .ptr 2 0 0
 e4 : get e 4 = .ro 1 (E.map encI)
 e7 : get e 7 = .i i
 e8 : get e 8 = .i j
 e9 : get e 9 = .i n
 e10 : get e 10 = .ptr 5 0 0
structure At (A : List Sp) (i : Nat) (x : Int) : Prop extends Past A i x where
 s : ∀ h : i < A.length, x < A[i].2
theorem At.has {A : List Sp} {i : Nat} {x : Int} (hA : Sep A) (h : At A i x) : hasB A x = if h : i < A.length then decide (A[i].1 ≤ x) else false := by
 have hp := yV.1 hA.2
 rw [uF, hasB_iff]
 constructor
 ·rintro ⟨s, hs, h1, h2⟩
  obtain ⟨k, hk, rfl⟩ := vE hs
  rcases Nat.lt_trichotomy k i with c | c | c
  ·have := h.h k hk c; omega
  ·subst c; rw [dif_pos hk]; simpa using h1
  ·have := hp i k (by omega) hk c
   have := h.s (by omega)
   omega
 ·intro hh
  split at hh
  ·rename_i hi
   exact ⟨A[i], yW hi, by simpa using hh, h.s hi⟩
  ·cases hh
theorem l2_94 {X : Nat → St → Prop} {R : St → Prop} {E : List Int} {o : List Sp} {a b : Int} {n i j bb : Nat} {e : Env} (hm : A.length ≤ maxLen) (he : EN E i j n e) (hP : Past A i a)
  (hX : ∀ i' e' b', At A i' a → EN E i' j n e' → X 4 ⟨e', hpM A B o ++ [.var [.i a, .i b]], b'⟩) :
  loopP [3] (fun N => aw ⟨C0 Tryz.prog, [3], [], I0 Tryz.prog, fun k' xs s Z => k' = 3 ∧ Y xs s Z, none⟩ c103l2 N X R) ⟨e, hpM A B o ++ [.var [.i a, .i b]], bb⟩ := by
 have e0 := he.e0; have e1 := he.e1; have e2 := he.e2; have e4 := he.e4; have e7 := he.e7; have e8 := he.e8; have e9 := he.e9; have e10 := he.e10
 refine loopP_intro (fun i : Nat => ⟨[(10, .ptr 5 0 0), (9, .i n), (8, .i j), (7, .i i), (4, .ro 1 (E.map encI)), (2, .ptr 2 0 0), (1, .ptr 1 0 0), (0, .itr 3)], hpM A B o ++ [.var [.i a, .i b]], 0⟩) (fun i => Past A i a) (fun i => A.length - i) i hP ?_ ?_
 ·simp -implicitDefEqProofs only [rX,↓reduceIte,leE,leH,leB,leV,leVs,keepP,liveP,wfE,wfB,wfV,wfL,e0,e1,e2,e4,e7,e8,e9,e10,or_true]
 intro i hP
 have hl := hP.l
 unfold c103l2
 rcases yU i A.length with h1 | h1
 ·have hd : decide ((i : Int) < (A.length : Int)) = true := decide_eq_true (by omega)
  cases h2 : decide (A[i].2 ≤ a) with
  | true =>
   simp -implicitDefEqProofs only [rX,↓rY,ofConst,↓reduceIte,Nat.reduceEqDiff,Nat.reduceAdd,reduceCtorEq,leE,leH,leB,leV,leVs,keepP,liveP,wfE,wfB,wfV,wfL,enS_1,hd,h2]
   refine fun _ => ⟨⟨by omega, by omega⟩, h1, by simp only [lo, hi, maxLen] at *; omega, i + 1, ⟨⟨by omega, fun k hk hlt => ?_⟩, by omega⟩, by simp⟩
   by_cases c : k = i
   ·subst c; simpa using h2
   ·exact hP.h k hk (by omega)
  | false =>
   simp -implicitDefEqProofs only [rX,↓rY,↓reduceIte,Nat.reduceEqDiff,Nat.reduceAdd,enS_1,hd,h2]
   refine fun _ => ⟨⟨by omega, by omega⟩, h1, hX i _ _ ⟨hP, fun _ => by simpa using h2⟩ ⟨rfl, rfl, rfl, rfl, rfl, rfl, rfl, rfl⟩⟩
 ·have hd : decide ((i : Int) < (A.length : Int)) = false := decide_eq_false (by omega)
  simp -implicitDefEqProofs only [rX,↓rY,ofConst,↓reduceIte,Nat.reduceEqDiff,Nat.reduceAdd,hd]
  exact fun _ => hX i _ _ ⟨hP, fun h => absurd h (by omega)⟩ ⟨rfl, rfl, rfl, rfl, rfl, rfl, rfl, rfl⟩
theorem l3_94 {X : Nat → St → Prop} {R : St → Prop} {E : List Int} {o : List Sp} {a b : Int} {n i j bb : Nat} {e : Env} (hm : B.length ≤ maxLen) (he : EN E i j n e) (hP : Past B j a)
  (hX : ∀ j' e' b', At B j' a → EN E i j' n e' → X 6 ⟨e', hpM A B o ++ [.var [.i a, .i b]], b'⟩) :
  loopP [3] (fun N => aw ⟨C0 Tryz.prog, [3], [], I0 Tryz.prog, fun k' xs s Z => k' = 3 ∧ Y xs s Z, none⟩ c103l3 N X R) ⟨e, hpM A B o ++ [.var [.i a, .i b]], bb⟩ := by
 have e0 := he.e0; have e1 := he.e1; have e2 := he.e2; have e4 := he.e4; have e7 := he.e7; have e8 := he.e8; have e9 := he.e9; have e10 := he.e10
 refine loopP_intro (fun j : Nat => ⟨[(10, .ptr 5 0 0), (9, .i n), (8, .i j), (7, .i i), (4, .ro 1 (E.map encI)), (2, .ptr 2 0 0), (1, .ptr 1 0 0), (0, .itr 3)], hpM A B o ++ [.var [.i a, .i b]], 0⟩) (fun j => Past B j a) (fun j => B.length - j) j hP ?_ ?_
 ·simp -implicitDefEqProofs only [rX,↓reduceIte,leE,leH,leB,leV,leVs,keepP,liveP,wfE,wfB,wfV,wfL,e0,e1,e2,e4,e7,e8,e9,e10,or_true]
 intro j hP
 have hl := hP.l
 unfold c103l3
 rcases yU j B.length with h1 | h1
 ·have hd : decide ((j : Int) < (B.length : Int)) = true := decide_eq_true (by omega)
  cases h2 : decide (B[j].2 ≤ a) with
  | true =>
   simp -implicitDefEqProofs only [rX,↓rY,ofConst,↓reduceIte,Nat.reduceEqDiff,Nat.reduceAdd,reduceCtorEq,leE,leH,leB,leV,leVs,keepP,liveP,wfE,wfB,wfV,wfL,enS_1,hd,h2]
   refine fun _ => ⟨⟨by omega, by omega⟩, h1, by simp only [lo, hi, maxLen] at *; omega, j + 1, ⟨⟨by omega, fun k hk hlt => ?_⟩, by omega⟩, by simp⟩
   by_cases c : k = j
   ·subst c; simpa using h2
   ·exact hP.h k hk (by omega)
  | false =>
   simp -implicitDefEqProofs only [rX,↓rY,↓reduceIte,Nat.reduceEqDiff,Nat.reduceAdd,enS_1,hd,h2]
   refine fun _ => ⟨⟨by omega, by omega⟩, h1, hX j _ _ ⟨hP, fun _ => by simpa using h2⟩ ⟨rfl, rfl, rfl, rfl, rfl, rfl, rfl, rfl⟩⟩
 ·have hd : decide ((j : Int) < (B.length : Int)) = false := decide_eq_false (by omega)
  simp -implicitDefEqProofs only [rX,↓rY,ofConst,↓reduceIte,Nat.reduceEqDiff,Nat.reduceAdd,hd]
  exact fun _ => hX j _ _ ⟨hP, fun h => absurd h (by omega)⟩ ⟨rfl, rfl, rfl, rfl, rfl, rfl, rfl, rfl⟩
theorem it103 (hA : Vd A) (hB : Vd B) (hfx : fx = [3])
  (hY : ∀ n o (hn : n < (pieces (cutE A B)).length), Inv n o → ∀ (e : Env) (bb : Nat) (Z : V → St → Prop) (i j : Nat), E94 A B i j (n + 1) e →
   (∀ e' o' tl, E94 A B i j (n + 1) e' → Inv (n + 1) o' → Z (.b true) ⟨e', hpM A B o' ++ tl, bb⟩) →
   Y [.agg (enS (pieces (cutE A B))[n]), .agg [.b (hasB A (pieces (cutE A B))[n].1), .b (hasB B (pieces (cutE A B))[n].1)]] ⟨e, hpM A B o ++ [.var (enS (pieces (cutE A B))[n])], bb⟩ Z)
  (hK : ∀ o, Inv (pieces (cutE A B)).length o → K (hpM A B o)) (o : List Sp) (ho : Inv 0 o) :
  I0 Tryz.prog 103 [.itr 3, .ptr 1 0 0, .ptr 2 0 0] fx 3 Y (hpM A B o) K := by
 refine itN_of pol fx lw103 (by simp) ?_
 subst hfx
 have hal := hA.len
 have hbl := hB.len
 unfold c103
 simp -implicitDefEqProofs only [rX,↓rY,ofConst,cells?,↓reduceIte,Nat.reduceEqDiff,Nat.reduceAdd,reduceCtorEq,freshP,litsP,isD,Nat.reduceLT,args0]
 refine call_isA [.bro 1 ([A, B].map enL)] (.sl 0 0 (A ++ B).length) (.sl 6 0 (A ++ B).length) [.arr 2 ((A ++ B).map enS)] [.arr 2 ((A ++ B).map enS)] ?_ ?_ ?_ ?_ ?_ ?_
 ·have := ok104 [A, B] (by simp; omega)
  rw [show [A, B].flatten = A ++ B by simp] at this
  exact this
 ·simp [lendsOk, lendOk, lends, lend, wkL, wk, wkB, blk, enL]
 ·simp [ren]
 ·simp [renB]
 ·simp [keepP, liveP]
 simp -implicitDefEqProofs only [rX,↓rY,ofConst,↓reduceIte]
 intro hm
 rw [← yH] at *
 have hcl : (A ++ B).length ≤ 2199023255552 := by rw [yH]; omega
 have hbd : ∀ s ∈ A ++ B, (0 ≤ s.1 ∧ s.1 ≤ 1099511627776) ∧ 0 ≤ s.2 ∧ s.2 ≤ 1099511627776 := fun s hs => (yG.1 hs).elim (hA.2 s) (hB.2 s)
 have hE : cutE A B = Lib.compact (srt (endsL (A ++ B))) := rfl
 generalize hC : A ++ B = C at *
 refine loopP_ghost (.virt 1 1 (by decide) (.nilE 4 7 rfl (.refl _))) (fun k : Nat => ⟨[(16, .i k), (15, .i C.length), (14, .sl 6 0 C.length), (4, .sl 7 0 (endsL (C.take k)).length), (2, .ptr 2 0 0), (1, .ptr 1 0 0), (0, .itr 3)], hpM A B o ++ [.dead, .arr 2 (C.map enS), .arr 1 ((endsL (C.take k)).map encI)], 0⟩) (fun k => k ≤ C.length) (fun k => C.length - k) 0 (by omega) ?_ ?_
 ·simp -implicitDefEqProofs only [rX,↓reduceIte,Nat.reduceEqDiff,reduceCtorEq,leE,leH,leB,leV,leVs,keepP,liveP,wfE,wfB,wfV,wfL,yL,yO,endsL,List.flatMap_nil,or_true]
 intro k hk
 have hel : (endsL (C.take k)).length = 2 * k := by rw [ends_len, vD]; omega
 unfold c103l0
 rcases yU k C.length with hk1 | hk1
 ·have hd : decide ((k : Int) < (C.length : Int)) = true := decide_eq_true (by omega)
  have hst : endsL (C.take (k + 1)) = endsL (C.take k) ++ [C[k].1, C[k].2] := by
   unfold endsL
   rw [yT, yM hk1, uN]; simp
  simp -implicitDefEqProofs only [rX,↓rY,ofConst,cells?,splice,↓reduceIte,Nat.reduceEqDiff,arrSz,Nat.reduceAdd,reduceCtorEq,freshP,litsP,leE,leH,leB,leV,leVs,keepP,liveP,wfE,wfB,wfV,wfL,killE,killB,kill,kills,St.kill,isD,Nat.reduceLT,enS_len,enS_take,enS_0,enS_1,enS_C,enS_kill,hd]
  have htk : yA (endsL (C.take k)).length ((endsL (C.take k)).map encI) = (endsL (C.take k)).map encI := yC (by rw [yS]; exact yI _)
  refine ⟨⟨by omega, by omega⟩, hk1, by omega, by simp only [lo, hi]; omega, k + 1, ⟨by omega, by omega⟩, ?_⟩
  rw [htk, hst, yH, yJ]
  exact ⟨⟨by simp, rfl⟩, .inl trivial, rfl⟩
 ·have hd : decide ((k : Int) < (C.length : Int)) = false := decide_eq_false (by omega)
  rw [yC hk1]
  have hel2 : (endsL C).length = 2 * C.length := ends_len
  simp -implicitDefEqProofs only [rX,↓rY,↓reduceIte,Nat.reduceEqDiff,Nat.reduceAdd,hd]
  refine call_isN [7] [.sl 0 0 (endsL C).length] (.tup []) (.tup []) [.arr 1 ((endsL C).map encI)] [.arr 1 ((srt (endsL C)).map encI)] _ (ok105 (endsL C) (by omega)) (by simp) (by simp [blk, renB]) (by simp [lendsOk, lendOk, lends, lend, wkL, wk, pos]) (by simp) rfl rfl (by simp [keepP, liveP, setAll, renB]) ?_
  simp -implicitDefEqProofs only [rX,↓reduceIte,Nat.reduceEqDiff,Nat.reduceAdd,setAll,renB]
  have hsl : (srt (endsL C)).length = (endsL C).length := srt_len
  have h97 := ok106 (srt (endsL C)) (by omega)
  rw [← hE] at h97
  have hEl : (cutE A B).length ≤ (endsL C).length := by rw [← hsl, hE]; exact cmp_len
  generalize hZ : cutE A B ++ yB ((srt (endsL C)).length - (cutE A B).length) 0 = Z at h97
  have hZt : yA (cutE A B).length (Z.map encI) = (cutE A B).map encI := by
   rw [← hZ, yJ, List.take_left' (by simp)]
  have hZl : (cutE A B).length ≤ Z.length := by rw [← hZ]; simp
  rw [← hsl]
  refine call_isN [7] [.sl 0 0 (srt (endsL C)).length] (.sl 0 0 (cutE A B).length) (.sl 7 0 (cutE A B).length) [.arr 1 ((srt (endsL C)).map encI)] [.arr 1 (Z.map encI)] _ h97 (by simp) (by simp [blk, renB]) (by simp [lendsOk, lendOk, lends, lend, wkL, wk, pos]) (by simp) rfl (by simp [ren, back]) (by simp [keepP, liveP, setAll, renB]) ?_
  simp -implicitDefEqProofs only [rX,ofConst,↓reduceIte,Nat.reduceAdd,setAll,renB]
  refine loopP_ghost (.give (fun k => k == 7) (by simp) (.refl _)) (fun g : (Nat × Nat × Nat) × List Sp => ⟨[(9, .i (g.1.1 + 1 : Nat)), (8, .i g.1.2.2), (7, .i g.1.2.1), (4, .ro 1 ((cutE A B).map encI)), (2, .ptr 2 0 0), (1, .ptr 1 0 0), (0, .itr 3)], hpM A B g.2, 0⟩)
   (fun g => g.1.1 ≤ (pieces (cutE A B)).length ∧ (∀ h : g.1.1 < (pieces (cutE A B)).length, Past A g.1.2.1 (pieces (cutE A B))[g.1.1].1 ∧ Past B g.1.2.2 (pieces (cutE A B))[g.1.1].1) ∧ Inv g.1.1 g.2) (fun g => (pieces (cutE A B)).length - g.1.1) ((0, 0, 0), o) ⟨yD _, fun h => ⟨⟨yD _, fun j hj h => absurd h (vQ _)⟩, ⟨yD _, fun j hj h => absurd h (vQ _)⟩⟩, ho⟩ ?_ ?_
  ·simp -implicitDefEqProofs only [rX,↓reduceIte,Nat.reduceEqDiff,Nat.reduceAdd,reduceCtorEq,leE,leH,leB,leV,leVs,keepP,liveP,wfE,wfB,wfV,wfL,St.give,gvE,gvV,gvH,gvB,gvL,Nat.reduceBEq]
   rw [if_pos hZl, hZt]
   exact ⟨⟨rfl, rfl, rfl, rfl⟩, .inl trivial⟩
  rintro ⟨⟨n, i, j⟩, o⟩ ⟨hn, hP, hI⟩
  simp only at hn hP hI
  have hpl := pieces_len (E := cutE A B)
  have hasc : Asc (cutE A B) := cutE_asc
  generalize hEE : cutE A B = E at *
  unfold c103l1
  rcases yU n (pieces E).length with hn1 | hn1
  ·have hd : decide (((n + 1 : Nat) : Int) < (E.length : Int)) = true := decide_eq_true (by omega)
   obtain ⟨hPA, hPB⟩ := hP hn1
   have hg := pieces_get hn1
   have hlt := pieces_lt hasc (yW hn1)
   have he1 : n < E.length := by omega
   have he2 : n + 1 < E.length := by omega
   have hm1 : (((n + 1 : Nat) : Int) - 1).toNat = n := by omega
   simp -implicitDefEqProofs only [rX,↓rY,rZ,rdK,ofConst,cells?,splice,↓reduceIte,Nat.reduceEqDiff,Nat.reduceAdd,freshP,buildP,isC,Nat.reduceLeDiff,hd,hm1]
   refine fun hmE => ⟨by simp only [lo, hi, maxLen] at *; omega, ⟨by omega, by omega⟩, he1, ⟨by omega, by omega⟩, he2, ?_⟩
   have hp1 : (pieces E)[n].1 = E[n] := by rw [hg]
   have hp2 : enS (pieces E)[n] = [.i E[n], .i E[n + 1]] := by rw [hg]; rfl
   have hYn := hY n o hn1 hI
   rw [hp2, hp1] at hYn
   rw [hp1] at hPA hPB
   refine l2_94 (by simp only [maxLen]; omega) ⟨rfl, rfl, rfl, rfl, rfl, rfl, rfl, rfl⟩ hPA ?_
   intro i' e' b1 hAt he'
   simp -implicitDefEqProofs only [rX,↓reduceIte]
   refine l3_94 (by simp only [maxLen]; omega) he' hPB ?_
   clear he'
   intro j' e' b2 hBt he'
   have q0 := he'.e0; have q1 := he'.e1; have q2 := he'.e2; have q4 := he'.e4; have q7 := he'.e7; have q8 := he'.e8; have q9 := he'.e9; have q10 := he'.e10
   have hfa := hAt.has hA.1
   have hfb := hBt.has hB.1
   simp -implicitDefEqProofs only [rX,↓rY,ofConst,cells?,splice,↓reduceIte,Nat.reduceEqDiff,Nat.reduceAdd,buildP,Nat.reduceLeDiff,enS_0,q0,q1,q2,q7,q8,q10]
   have hmono : ∀ h : n + 1 < (pieces E).length, E[n] ≤ (pieces E)[n + 1].1 := fun h => by
    rw [pieces_get h]
    have := (yV.1 hasc) n (n + 1) he1 he2 (by omega)
    simp only
    omega
   rcases Decidable.em (i' < A.length) with a1 | a1 <;> rcases Decidable.em (j' < B.length) with c1 | c1
   ·
    rw [dif_pos a1] at hfa
    rw [dif_pos c1] at hfb
    rw [hfa, hfb] at hYn
    have hdA : decide ((i' : Int) < (A.length : Int)) = true := decide_eq_true (by omega)
    have hdB : decide ((j' : Int) < (B.length : Int)) = true := decide_eq_true (by omega)
    simp only [hdA, hdB, zE, zF]
    refine fun _ => ⟨⟨by omega, by omega⟩, a1, fun _ => ⟨⟨by omega, by omega⟩, c1, ⟨rfl, ?_⟩⟩⟩
    refine hYn _ _ _ i' j' ⟨by first | rfl | exact q0, by first | rfl | exact q1, by first | rfl | exact q2, by rw [hEE]; exact q4, by first | rfl | exact q7, by first | rfl | exact q8, by first | rfl | exact q9⟩ ?_
    intro e3 o3 tl he3 hI3
    have r0 := he3.e0; have r1 := he3.e1; have r2 := he3.e2; have r4 := he3.e4; have r7 := he3.e7; have r8 := he3.e8; have r9 := he3.e9
    simp -implicitDefEqProofs only [rX,↓rY,ofConst,↓reduceIte,Nat.reduceEqDiff,reduceCtorEq,leE,leH,leB,leV,leVs,keepP,liveP,wfE,wfB,wfV,wfL,r9]
    refine ⟨by simp only [lo, hi, maxLen] at *; omega, ((n + 1, i', j'), o3), ⟨⟨by simp only; omega, fun h => ⟨hAt.toPast.mono (hmono h), hBt.toPast.mono (hmono h)⟩, hI3⟩, by simp only; omega⟩, ?_⟩
    simp -implicitDefEqProofs only [rX,r0,r1,r2,r4,r7,r8]
    exact ⟨⟨by simp, by rw [hEE]⟩, .inl trivial⟩
   ·
    rw [dif_pos a1] at hfa
    rw [dif_neg c1] at hfb
    rw [hfa, hfb] at hYn
    have hdA : decide ((i' : Int) < (A.length : Int)) = true := decide_eq_true (by omega)
    have hdB : decide ((j' : Int) < (B.length : Int)) = false := decide_eq_false (by omega)
    simp only [hdA, hdB, zE, zF]
    refine fun _ => ⟨⟨by omega, by omega⟩, a1, fun _ => ⟨rfl, ?_⟩⟩
    refine hYn _ _ _ i' j' ⟨by first | rfl | exact q0, by first | rfl | exact q1, by first | rfl | exact q2, by rw [hEE]; exact q4, by first | rfl | exact q7, by first | rfl | exact q8, by first | rfl | exact q9⟩ ?_
    intro e3 o3 tl he3 hI3
    have r0 := he3.e0; have r1 := he3.e1; have r2 := he3.e2; have r4 := he3.e4; have r7 := he3.e7; have r8 := he3.e8; have r9 := he3.e9
    simp -implicitDefEqProofs only [rX,↓rY,ofConst,↓reduceIte,Nat.reduceEqDiff,reduceCtorEq,leE,leH,leB,leV,leVs,keepP,liveP,wfE,wfB,wfV,wfL,r9]
    refine ⟨by simp only [lo, hi, maxLen] at *; omega, ((n + 1, i', j'), o3), ⟨⟨by simp only; omega, fun h => ⟨hAt.toPast.mono (hmono h), hBt.toPast.mono (hmono h)⟩, hI3⟩, by simp only; omega⟩, ?_⟩
    simp -implicitDefEqProofs only [rX,r0,r1,r2,r4,r7,r8]
    exact ⟨⟨by simp, by rw [hEE]⟩, .inl trivial⟩
   ·
    rw [dif_neg a1] at hfa
    rw [dif_pos c1] at hfb
    rw [hfa, hfb] at hYn
    have hdA : decide ((i' : Int) < (A.length : Int)) = false := decide_eq_false (by omega)
    have hdB : decide ((j' : Int) < (B.length : Int)) = true := decide_eq_true (by omega)
    simp only [hdA, hdB, zE, zF]
    refine fun _ => fun _ => ⟨⟨by omega, by omega⟩, c1, ⟨rfl, ?_⟩⟩
    refine hYn _ _ _ i' j' ⟨by first | rfl | exact q0, by first | rfl | exact q1, by first | rfl | exact q2, by rw [hEE]; exact q4, by first | rfl | exact q7, by first | rfl | exact q8, by first | rfl | exact q9⟩ ?_
    intro e3 o3 tl he3 hI3
    have r0 := he3.e0; have r1 := he3.e1; have r2 := he3.e2; have r4 := he3.e4; have r7 := he3.e7; have r8 := he3.e8; have r9 := he3.e9
    simp -implicitDefEqProofs only [rX,↓rY,ofConst,↓reduceIte,Nat.reduceEqDiff,reduceCtorEq,leE,leH,leB,leV,leVs,keepP,liveP,wfE,wfB,wfV,wfL,r9]
    refine ⟨by simp only [lo, hi, maxLen] at *; omega, ((n + 1, i', j'), o3), ⟨⟨by simp only; omega, fun h => ⟨hAt.toPast.mono (hmono h), hBt.toPast.mono (hmono h)⟩, hI3⟩, by simp only; omega⟩, ?_⟩
    simp -implicitDefEqProofs only [rX,r0,r1,r2,r4,r7,r8]
    exact ⟨⟨by simp, by rw [hEE]⟩, .inl trivial⟩
   ·
    rw [dif_neg a1] at hfa
    rw [dif_neg c1] at hfb
    rw [hfa, hfb] at hYn
    have hdA : decide ((i' : Int) < (A.length : Int)) = false := decide_eq_false (by omega)
    have hdB : decide ((j' : Int) < (B.length : Int)) = false := decide_eq_false (by omega)
    simp only [hdA, hdB, zE, zF]
    refine fun _ => fun _ => ⟨rfl, ?_⟩
    refine hYn _ _ _ i' j' ⟨by first | rfl | exact q0, by first | rfl | exact q1, by first | rfl | exact q2, by rw [hEE]; exact q4, by first | rfl | exact q7, by first | rfl | exact q8, by first | rfl | exact q9⟩ ?_
    intro e3 o3 tl he3 hI3
    have r0 := he3.e0; have r1 := he3.e1; have r2 := he3.e2; have r4 := he3.e4; have r7 := he3.e7; have r8 := he3.e8; have r9 := he3.e9
    simp -implicitDefEqProofs only [rX,↓rY,ofConst,↓reduceIte,Nat.reduceEqDiff,reduceCtorEq,leE,leH,leB,leV,leVs,keepP,liveP,wfE,wfB,wfV,wfL,r9]
    refine ⟨by simp only [lo, hi, maxLen] at *; omega, ((n + 1, i', j'), o3), ⟨⟨by simp only; omega, fun h => ⟨hAt.toPast.mono (hmono h), hBt.toPast.mono (hmono h)⟩, hI3⟩, by simp only; omega⟩, ?_⟩
    simp -implicitDefEqProofs only [rX,r0,r1,r2,r4,r7,r8]
    exact ⟨⟨by simp, by rw [hEE]⟩, .inl trivial⟩
  ·have hd : decide (((n + 1 : Nat) : Int) < (E.length : Int)) = false := decide_eq_false (by omega)
   have hne : n = (pieces E).length := by omega
   subst hne
   have := hK o hI
   simp -implicitDefEqProofs only [rX,↓rY,↓reduceIte,Nat.reduceEqDiff,Nat.reduceAdd,hd]
   exact fun _ => this
end
end Go.Fx.J
namespace Go.Fx.J
open Go Go.Fx Go.Proofs Go.Fx.R
set_option maxRecDepth 20000
theorem ok80 (A B : List Sp) : Ok 80 [spans A, spans B] (IsA (.clo 103 [.ptr 0 0 0, .ptr 1 0 0]) [.var [spans A], .var [spans B]]) := by
 refine ok_of lw80 (by simp) ?_
 unfold c80
 simp -implicitDefEqProofs only [rX,↓rY,ofConst,cells?,↓reduceIte,Nat.reduceEqDiff,Nat.reduceAdd,reduceCtorEq,freshP,resP,tupV,leH,leB,leV,leVs,keepP,liveP,wfB,wfV,wfL,Nat.reduceLeDiff,cxN,args0,retP_isA]
theorem take_map0 {l : List Sp} {n : Nat} (h : n = l.length) : yA n (l.map enS) = l.map enS := yC (by simp [h])
def selP (f : Bool → Bool → Bool) (A B : List Sp) (n : Nat) : List Sp := ((pieces (cutE A B)).take n).filter fun s => f (hasB A s.1) (hasB B s.1)
theorem selP_step {f : Bool → Bool → Bool} {A B : List Sp} {n : Nat} (h : n < (pieces (cutE A B)).length) : selP f A B (n + 1) = selP f A B n ++ if f (hasB A (pieces (cutE A B))[n].1) (hasB B (pieces (cutE A B))[n].1) then [(pieces (cutE A B))[n]] else [] := by
 unfold selP
 rw [yT, yM h, List.filter_append, Option.toList_some]
 congr 1
 rw [List.filter_cons, List.filter_nil]
theorem selP_all {f : Bool → Bool → Bool} {A B : List Sp} : ofS (selP f A B (pieces (cutE A B)).length) = selS f A B := by
 unfold selP selS
 rw [List.take_length]
theorem selP_len {f : Bool → Bool → Bool} {A B : List Sp} {n : Nat} (hA : Vd A) (hB : Vd B) : (selP f A B n).length ≤ 4398046511104 := by
 have h1 : (selP f A B n).length ≤ (pieces (cutE A B)).length := by
  unfold selP
  refine Nat.le_trans (vY _ _) ?_
  rw [vD]; omega
 have h2 := pieces_len (E := cutE A B)
 have h3 : (cutE A B).length ≤ (endsL (A ++ B)).length := uni_len
 rw [ends_len, yH] at h3
 have := hA.len
 have := hB.len
 omega
theorem selP_mid {f : Bool → Bool → Bool} {A B : List Sp} {n : Nat} (hA : Vd A) (hB : Vd B) : Mid (selP f A B n) := by
 intro s hs
 unfold selP at hs
 rw [uG] at hs
 obtain ⟨_, h1, _, _⟩ := pieces_lt cutE_asc (vM hs.1)
 unfold cutE at h1
 rw [uni_both.2, mem_ends] at h1
 obtain ⟨t, ht, h2⟩ := h1
 have : (0 ≤ t.1 ∧ t.1 ≤ 1099511627776) ∧ 0 ≤ t.2 ∧ t.2 ≤ 1099511627776 := (yG.1 ht).elim (hA.2 t) (hB.2 t)
 omega
theorem ok56 (A B : List Sp) (hA : Vd A) (hB : Vd B) : Ok 56 [spans A, spans B] (Is (spans (meetS A B))) := by
 rw [← sel_meet hA.1, ← selP_all]
 refine ok_of lw56 (by simp) ?_
 unfold c56
 simp -implicitDefEqProofs only [rX,↓rY,ofConst,cells?,↓reduceIte,Nat.reduceEqDiff,reduceCtorEq,freshP,cxN,args0]
 refine call_isA [spans A, spans B] (.clo 103 [.ptr 0 0 0, .ptr 1 0 0]) (.clo 103 [.ptr 1 0 0, .ptr 2 0 0]) [.var [spans A], .var [spans B]] [.var [spans A], .var [spans B]] (ok80 A B) ⟨⟨trivial, trivial, trivial⟩, ⟨rfl, rfl⟩, ⟨rfl, rfl⟩, trivial⟩ (by simp [ren, rens]) (by simp [renB, rens, ren]) trivial ?_
 simp -implicitDefEqProofs only [rX]
 refine rfn_go 3 rfl rfl trivial ?_
 refine I0_ghost (as' := [.itr 3, .ptr 1 0 0, .ptr 2 0 0]) (h' := hpM A B []) rfl ⟨_, .virt 1 2 (by decide) (.nilB 0 [.nil] [.sl 4 0 0] rfl ⟨rfl, fun i a b h1 h2 => ?_⟩ (.refl _)), ?_⟩ (it103 hA hB rfl (Inv := fun n o => o = selP (fun x y => x && y) A B n) ?_ ?_ _ ?_)
 ·match i with
  | 0 => simp at h1 h2; subst h1 h2; exact .inr ⟨rfl, _, rfl⟩
  | i + 1 => simp at h1
 ·simp -implicitDefEqProofs only [rX,↓reduceIte,Nat.reduceEqDiff,Nat.reduceAdd,reduceCtorEq,leE,leH,leB,leV,leVs,keepP,liveP,wfE,wfB,wfV,wfL,args0,yO,or_true]
 ·rintro n o hn rfl e bb Z i j he hZ
  have hst := selP_step (f := fun x y => x && y) (A := A) (B := B) hn
  have hlen := selP_len (f := fun x y => x && y) (n := n) hA hB
  have hnext : ∀ (e' : Env) o', E94 A B i j (n + 1) e' → o' = selP (fun x y => x && y) A B (n + 1) → ∀ tl, Z (.b true) ⟨e', hpM A B o' ++ tl, bb⟩ := fun e' o' h1 h2 tl => hZ e' o' tl h1 h2
  have hkill : E94 A B i j (n + 1) (killE [4] e) := by
   refine ⟨?_, ?_, ?_, ?_, ?_, ?_, ?_⟩ <;> rw [get_killE]
   ·rw [he.e0]; simp [kill]
   ·rw [he.e1]; simp [kill]
   ·rw [he.e2]; simp [kill]
   ·rw [he.e4]; rfl
   ·rw [he.e7]; rfl
   ·rw [he.e8]; rfl
   ·rw [he.e9]; rfl
  generalize selP (fun x y => x && y) A B n = o at *
  have htk : yA o.length (o.map enS) = o.map enS := take_map0 rfl
  refine yR_go 6 rfl rfl rfl ?_
  unfold c56a0
  cases hfa : hasB A (pieces (cutE A B))[n].1 with
  | false =>
   rw [hfa] at hst
   simp -implicitDefEqProofs only [rX,↓rY,ofConst,cells?,splice,↓reduceIte,Nat.reduceEqDiff,Nat.reduceAdd,freshP,isC,enS_len,enS_C,setPs]
   unfold c56r0
   simp -implicitDefEqProofs only [rX,↓rY,ofConst,cells?,splice,↓reduceIte,Nat.reduceEqDiff,Nat.reduceAdd,reduceCtorEq,freshP,litsP,killE,killB,kill,kills,St.kill,isC,Nat.reduceLT,enS_len,enS_take,enS_D,enS_kill,show yK 0 * 1 = 0 from rfl,show yK 1 * 1 = 1 from rfl]
   refine ⟨by omega, ?_⟩
   exact hnext e o he (by rw [hst]; simp) [_, _, _, _]
  | true =>
   cases hfb : hasB B (pieces (cutE A B))[n].1 with
   | false =>
    rw [hfa, hfb] at hst
    simp -implicitDefEqProofs only [rX,↓rY,ofConst,cells?,splice,↓reduceIte,Nat.reduceEqDiff,Nat.reduceAdd,freshP,isC,enS_len,enS_C,setPs]
    unfold c56r0
    simp -implicitDefEqProofs only [rX,↓rY,ofConst,cells?,splice,↓reduceIte,Nat.reduceEqDiff,Nat.reduceAdd,reduceCtorEq,freshP,litsP,killE,killB,kill,kills,St.kill,isC,Nat.reduceLT,enS_len,enS_take,enS_D,enS_kill,show yK 0 * 1 = 0 from rfl,show yK 1 * 1 = 1 from rfl]
    refine ⟨by omega, by omega, ?_⟩
    exact hnext e o he (by rw [hst]; simp) [_, _, _, _]
   | true =>
    rw [hfa, hfb] at hst
    simp -implicitDefEqProofs only [rX,↓rY,ofConst,cells?,splice,↓reduceIte,Nat.reduceEqDiff,Nat.reduceAdd,freshP,isC,enS_len,enS_C,setPs]
    unfold c56r0
    simp -implicitDefEqProofs only [rX,↓rY,ofConst,cells?,splice,↓reduceIte,Nat.reduceEqDiff,Nat.reduceAdd,reduceCtorEq,freshP,litsP,killE,killB,kill,kills,St.kill,isC,Nat.reduceLT,enS_len,enS_take,enS_D,enS_kill,show yK 0 * 1 = 0 from rfl,show yK 1 * 1 = 1 from rfl]
    refine ⟨by omega, by omega, by omega, ?_⟩
    have := hnext _ (o ++ [(pieces (cutE A B))[n]]) hkill (by rw [hst]; simp) [.var (enS (pieces (cutE A B))[n]), .dead, .var (enS (pieces (cutE A B))[n]), .var [.b true, .b true], .arr 2 [enS (pieces (cutE A B))[n]], .dead]
    simp only [hpM, yH, yQ, uA, yJ, vN, vK, yY, vC, yX] at this
    rw [htk]
    exact this
 ·rintro o rfl
  have hlen := selP_len (f := fun x y => x && y) (n := (pieces (cutE A B)).length) hA hB
  have hmid := selP_mid (f := fun x y => x && y) (n := (pieces (cutE A B)).length) hA hB
  simp -implicitDefEqProofs only [rX,↓rY,↓reduceIte,Nat.reduceAdd,liveP,wfE,wfB,wfV,wfL]
  generalize selP (fun x y => x && y) A B (pieces (cutE A B)).length = o at *
  refine call_58m o rfl hlen hmid rfl rfl (by simp) trivial ?_
  simp -implicitDefEqProofs only [rX,↓reduceIte,reduceCtorEq,resP,tupV,wfV,killE,killB,kill,kills,St.kill]
 ·simp [selP]
end Go.Fx.J
namespace Go.Fx.R
def Vs (l : List Sp) : Prop := Sep l ∧ ∀ s ∈ l, 0 ≤ s.1 ∧ s.2 ≤ 1099511627776
structure MIn (last : Int) (m : Mis) : Prop where
 k : m.key.length ≤ 4096
 n : m.wt.length ≤ 1000
 w : ∀ w ∈ m.wt, Vs w.need ∧ w.need ≠ []
 wo : m.wt.Pairwise fun a b => a.id < b.id
 f : ∀ f ∈ m.fl, (0 ≤ f.sp.1 ∧ f.sp.1 < f.sp.2 ∧ f.sp.2 ≤ 1099511627776) ∧ 1 ≤ f.id ∧ f.id ≤ last
 fo : m.fl.Pairwise fun a b => a.sp.2 ≤ b.sp.1
 c : ∀ f ∈ m.fl, ∃ x, inS (needed m) x ∧ f.sp.1 ≤ x ∧ x < f.sp.2
 d : ∀ x, inS (needed m) x → inS (flown m) x
structure MOk (last : Int) (m : Mis) : Prop extends MIn last m where
 n1 : 1 ≤ m.wt.length
def ids (l : List Mis) : List Int := l.flatMap fun m => m.fl.map (·.id)
structure JOk (j : Jns) : Prop where
 lo : 0 ≤ j.last ∧ j.last ≤ 1152921504606846976
 n : j.l.length ≤ 1000
 m : ∀ m ∈ j.l, MOk j.last m
 o : j.l.Pairwise fun a b => a.key < b.key
 u : (ids j.l).Nodup
theorem vs_nil : Vs [] := ⟨sep_nil, fun s h => by cases h⟩
theorem vs_of {l : List Sp} (h : Sep l) (hx : ∀ x, inS l x → 0 ≤ x ∧ x < 1099511627776) : Vs l := by
 refine ⟨h, fun s hs => ?_⟩
 have h1 := h.1 s hs
 have a := hx s.1 ⟨s, hs, by omega, h1⟩
 have b := hx (s.2 - 1) ⟨s, hs, by omega, by omega⟩
 omega
theorem Vs.in {l : List Sp} (h : Vs l) {x : Int} (hx : inS l x) : 0 ≤ x ∧ x < 1099511627776 := by
 obtain ⟨s, hs, h1, h2⟩ := hx
 have := h.2 s hs
 omega
theorem Vs.minus {a b : List Sp} (h : Vs a) : Vs (minusS a b) := vs_of (sep_minusS h.1) fun x hx => h.in (in_minusS.1 hx).1
theorem Vs.meet {a b : List Sp} (h : Vs a) : Vs (meetS a b) := vs_of (sep_meetS h.1) fun x hx => h.in (in_meetS.1 hx).1
theorem MIn.vfl {last : Int} {m : Mis} (h : MIn last m) : Vs (flown m) := vs_of sep_ofS fun x hx => by
 obtain ⟨f, hf, h1, h2⟩ := in_flown.1 hx
 have := (h.f f hf).1
 omega
theorem sep_need {m : Mis} : Sep (needed m) := sep_ofS
theorem sep_fl {m : Mis} : Sep (flown m) := sep_ofS
def insT {α : Type} (l : List α) (i : Nat) (x : α) : List α := l.take i ++ x :: l.drop i
theorem insT_len {α : Type} {l : List α} {i : Nat} {x : α} : (insT l i x).length = l.length + 1 := by
 unfold insT; rw [yH, yQ, vD, List.length_drop]; omega
theorem insT_mem {α : Type} {l : List α} {i : Nat} {x y : α} : y ∈ insT l i x ↔ y = x ∨ y ∈ l := by
 unfold insT
 rw [yG, yE]
 constructor
 ·rintro (h | h | h)
  ·exact .inr (vM h)
  ·exact .inl h
  ·exact .inr (List.mem_of_mem_drop h)
 ·rintro (h | h)
  ·exact .inr (.inl h)
  ·rw [← vX i l, yG] at h
   rcases h with h | h
   ·exact .inl h
   ·exact .inr (.inr h)
def newF (last : Int) : List Sp → List Fet
 | [] => []
 | s :: l => ⟨last + 1, s⟩ :: newF (last + 1) l
theorem newF_len {last : Int} {l : List Sp} : (newF last l).length = l.length := by
 induction l generalizing last with
 | nil => rfl
 | cons s l ih => simp [newF, ih]
theorem newF_mem : ∀ {l : List Sp} {last : Int} {f : Fet}, f ∈ newF last l → f.sp ∈ l ∧ last + 1 ≤ f.id ∧ f.id ≤ last + l.length
 | [], _, _, h => by cases h
 | s :: l, last, f, h => by
  rcases yE.1 h with rfl | h
  ·exact ⟨by simp, by simp, by simp only [yQ]; omega⟩
  ·obtain ⟨h1, h2, h3⟩ := newF_mem h
   exact ⟨vW _ h1, by omega, by rw [yQ]; omega⟩
theorem newF_sp : ∀ {l : List Sp} {last : Int}, (newF last l).map (·.sp) = l
 | [], _ => rfl
 | s :: l, last => by simp [newF, newF_sp]
theorem newF_nodup : ∀ {l : List Sp} {last : Int}, ((newF last l).map (·.id)).Nodup
 | [], _ => .nil
 | s :: l, last => by
  rw [newF, vN, List.nodup_cons]
  refine ⟨fun h => ?_, newF_nodup⟩
  obtain ⟨f, hf, he⟩ := vZ.1 h
  have := (newF_mem hf).2.1
  simp only at he
  omega
def insF : List Fet → Fet → List Fet
 | [], x => [x]
 | y :: r, x => if x.sp.1 < y.sp.1 then x :: y :: r else y :: insF r x
theorem insF_perm : ∀ {l : List Fet} {x : Fet}, (insF l x).Perm (x :: l)
 | [], x => .refl _
 | y :: r, x => by
  unfold insF
  split
  ·exact .refl _
  ·exact (insF_perm.cons y).trans (.swap x y r)
def Asc1 (l : List Fet) : Prop := l.Pairwise fun a b => a.sp.1 ≤ b.sp.1
theorem insF_asc : ∀ {l : List Fet} {x : Fet}, Asc1 l → Asc1 (insF l x)
 | [], x, _ => List.pairwise_singleton ..
 | y :: r, x, h => by
  obtain ⟨h1, h2⟩ := yP.1 h
  unfold insF
  split
  ·rename_i c
   refine yP.2 ⟨fun z hz => ?_, h⟩
   rcases yE.1 hz with rfl | hz
   ·omega
   ·have := h1 z hz; omega
  ·rename_i c
   refine yP.2 ⟨fun z hz => ?_, insF_asc h2⟩
   rcases yE.1 (insF_perm.mem_iff.1 hz) with rfl | hz
   ·omega
   ·exact h1 z hz
theorem insFs_perm : ∀ {n l : List Fet}, (n.foldl insF l).Perm (l ++ n)
 | [], l => by simp
 | x :: n, l => by
  rw [vL]
  refine insFs_perm.trans ?_
  refine (insF_perm.append_right n).trans ?_
  rw [yY]
  exact List.perm_middle.symm
theorem insFs_asc : ∀ {n l : List Fet}, Asc1 l → Asc1 (n.foldl insF l)
 | [], l, h => h
 | x :: n, l, h => insFs_asc (n := n) (insF_asc h)
def Apt (l : List Fet) : Prop := (∀ f ∈ l, f.sp.1 < f.sp.2) ∧ l.Pairwise fun a b => ∀ x, a.sp.1 ≤ x → x < a.sp.2 → b.sp.1 ≤ x → x < b.sp.2 → False
theorem Apt.perm {l m : List Fet} (h : Apt l) (p : l.Perm m) : Apt m :=
 ⟨fun f hf => h.1 f (p.mem_iff.2 hf), (p.pairwise_iff fun {a b} h x h1 h2 h3 h4 => h x h3 h4 h1 h2).1 h.2⟩
theorem apt_of {l : List Fet} (h1 : ∀ f ∈ l, f.sp.1 < f.sp.2) (h2 : l.Pairwise fun a b => a.sp.2 ≤ b.sp.1) : Apt l := ⟨h1, h2.imp fun {a b} h x _ _ _ _ => by omega⟩
theorem Apt.ord {l : List Fet} (h : Apt l) (hs : Asc1 l) : l.Pairwise fun a b => a.sp.2 ≤ b.sp.1 := by
 rw [yV] at *
 intro i j hi hj hij
 have a := hs
 unfold Asc1 at a
 rw [yV] at a
 have b := yV.1 h.2 i j hi hj hij
 have c := a i j hi hj hij
 have d := h.1 _ (yW hj)
 apply Classical.byContradiction
 intro hn
 exact b l[j].sp.1 c (by omega) (Int.le_refl _) d
theorem Apt.lt {l : List Fet} (h : Apt l) (hs : Asc1 l) : l.Pairwise fun a b => a.sp.1 < b.sp.1 := by
 have h1 := h.ord hs
 rw [yV] at *
 intro i j hi hj hij
 have := h1 i j hi hj hij
 have := h.1 _ (yW hi)
 omega
theorem sorted_one {l d : List Fet} (h : Apt l) (hp : d.Perm l) (hd : Asc1 d) {e : List Fet} (ep : e.Perm l) (he : Asc1 e) : d = e :=
 sorted_ext (r := fun a b : Fet => a.sp.1 < b.sp.1) (fun a => Int.lt_irrefl _) (fun a b c => Int.lt_trans) ((h.perm hp.symm).lt hd) ((h.perm ep.symm).lt he) fun x => by rw [hp.mem_iff, ep.mem_iff]
theorem apt_new {m : Mis} {last : Int} {l : List Sp} (h : Apt m.fl) (hl : Sep l) (hd : ∀ x, inS l x → ¬ inS (flown m) x) : Apt (m.fl ++ newF last l) := by
 refine ⟨fun f hf => ?_, vR.2 ⟨h.2, ?_, fun a ha b hb x h1 h2 h3 h4 => ?_⟩⟩
 ·rcases yG.1 hf with hf | hf
  ·exact h.1 f hf
  ·exact hl.1 _ (newF_mem hf).1
 ·have : ((newF last l).map (·.sp)).Pairwise fun s t => s.2 < t.1 := by rw [newF_sp]; exact hl.2
  rw [List.pairwise_map] at this
  exact this.imp fun {a b} h x _ _ _ _ => by omega
 ·exact hd x ⟨b.sp, (newF_mem hb).1, h3, h4⟩ (in_flown.2 ⟨a, ha, h1, h2⟩)
end Go.Fx.R
namespace Go.Fx.J
open Go Go.Fx Go.Proofs Go.Fx.R
set_option maxRecDepth 20000
theorem ok43 (A B : List Sp) (hA : Vd A) (hB : Vd B) : Ok 43 [spans A, spans B] (Is (spans (minusS A B))) := by
 rw [← sel_minus hA.1, ← selP_all]
 refine ok_of lw43 (by simp) ?_
 unfold c43
 simp -implicitDefEqProofs only [rX,↓rY,ofConst,cells?,↓reduceIte,Nat.reduceEqDiff,reduceCtorEq,freshP,cxN,args0]
 refine call_isA [spans A, spans B] (.clo 103 [.ptr 0 0 0, .ptr 1 0 0]) (.clo 103 [.ptr 1 0 0, .ptr 2 0 0]) [.var [spans A], .var [spans B]] [.var [spans A], .var [spans B]] (ok80 A B) ⟨⟨trivial, trivial, trivial⟩, ⟨rfl, rfl⟩, ⟨rfl, rfl⟩, trivial⟩ (by simp [ren, rens]) (by simp [renB, rens, ren]) trivial ?_
 simp -implicitDefEqProofs only [rX]
 refine rfn_go 3 rfl rfl trivial ?_
 refine I0_ghost (as' := [.itr 3, .ptr 1 0 0, .ptr 2 0 0]) (h' := hpM A B []) rfl ⟨_, .virt 1 2 (by decide) (.nilB 0 [.nil] [.sl 4 0 0] rfl ⟨rfl, fun i a b h1 h2 => ?_⟩ (.refl _)), ?_⟩ (it103 hA hB rfl (Inv := fun n o => o = selP (fun x y => x && !y) A B n) ?_ ?_ _ ?_)
 ·match i with
  | 0 => simp at h1 h2; subst h1 h2; exact .inr ⟨rfl, _, rfl⟩
  | i + 1 => simp at h1
 ·simp -implicitDefEqProofs only [rX,↓reduceIte,Nat.reduceEqDiff,Nat.reduceAdd,reduceCtorEq,leE,leH,leB,leV,leVs,keepP,liveP,wfE,wfB,wfV,wfL,args0,yO,or_true]
 ·rintro n o hn rfl e bb Z i j he hZ
  have hst := selP_step (f := fun x y => x && !y) (A := A) (B := B) hn
  have hlen := selP_len (f := fun x y => x && !y) (n := n) hA hB
  have hnext : ∀ (e' : Env) o', E94 A B i j (n + 1) e' → o' = selP (fun x y => x && !y) A B (n + 1) → ∀ tl, Z (.b true) ⟨e', hpM A B o' ++ tl, bb⟩ := fun e' o' h1 h2 tl => hZ e' o' tl h1 h2
  have hkill : E94 A B i j (n + 1) (killE [4] e) := by
   refine ⟨?_, ?_, ?_, ?_, ?_, ?_, ?_⟩ <;> rw [get_killE]
   ·rw [he.e0]; simp [kill]
   ·rw [he.e1]; simp [kill]
   ·rw [he.e2]; simp [kill]
   ·rw [he.e4]; rfl
   ·rw [he.e7]; rfl
   ·rw [he.e8]; rfl
   ·rw [he.e9]; rfl
  generalize selP (fun x y => x && !y) A B n = o at *
  have htk : yA o.length (o.map enS) = o.map enS := take_map0 rfl
  refine yR_go 6 rfl rfl rfl ?_
  unfold c43a0
  cases hfa : hasB A (pieces (cutE A B))[n].1 with
  | false =>
   rw [hfa] at hst
   simp -implicitDefEqProofs only [rX,↓rY,ofConst,cells?,splice,↓reduceIte,Nat.reduceEqDiff,Nat.reduceAdd,freshP,isC,enS_len,enS_C,setPs]
   unfold c43r0
   simp -implicitDefEqProofs only [rX,↓rY,ofConst,cells?,splice,↓reduceIte,Nat.reduceEqDiff,Nat.reduceAdd,reduceCtorEq,freshP,litsP,killE,killB,kill,kills,St.kill,isC,Nat.reduceLT,enS_len,enS_take,enS_D,enS_kill,show yK 0 * 1 = 0 from rfl,show yK 1 * 1 = 1 from rfl]
   refine ⟨by omega, ?_⟩
   exact hnext e o he (by rw [hst]; simp) [_, _, _, _]
  | true =>
   cases hfb : hasB B (pieces (cutE A B))[n].1 with
   | false =>
    rw [hfa, hfb] at hst
    simp -implicitDefEqProofs only [rX,↓rY,ofConst,cells?,splice,↓reduceIte,Nat.reduceEqDiff,Nat.reduceAdd,freshP,isC,enS_len,enS_C,setPs]
    unfold c43r0
    simp -implicitDefEqProofs only [rX,↓rY,ofConst,cells?,splice,↓reduceIte,Nat.reduceEqDiff,Nat.reduceAdd,reduceCtorEq,freshP,litsP,killE,killB,kill,kills,St.kill,isC,Nat.reduceLT,enS_len,enS_take,enS_D,enS_kill,show yK 0 * 1 = 0 from rfl,show yK 1 * 1 = 1 from rfl]
    refine ⟨by omega, by omega, by omega, ?_⟩
    have := hnext _ (o ++ [(pieces (cutE A B))[n]]) hkill (by rw [hst]; simp) [.var (enS (pieces (cutE A B))[n]), .dead, .var (enS (pieces (cutE A B))[n]), .var [.b true, .b false], .arr 2 [enS (pieces (cutE A B))[n]], .dead]
    simp only [hpM, yH, yQ, uA, yJ, vN, vK, yY, vC, yX] at this
    rw [htk]
    exact this
   | true =>
    rw [hfa, hfb] at hst
    simp -implicitDefEqProofs only [rX,↓rY,ofConst,cells?,splice,↓reduceIte,Nat.reduceEqDiff,Nat.reduceAdd,freshP,isC,enS_len,enS_C,setPs]
    unfold c43r0
    simp -implicitDefEqProofs only [rX,↓rY,ofConst,cells?,splice,↓reduceIte,Nat.reduceEqDiff,Nat.reduceAdd,reduceCtorEq,freshP,litsP,killE,killB,kill,kills,St.kill,isC,Nat.reduceLT,enS_len,enS_take,enS_D,enS_kill,show yK 0 * 1 = 0 from rfl,show yK 1 * 1 = 1 from rfl]
    refine ⟨by omega, by omega, ?_⟩
    exact hnext e o he (by rw [hst]; simp) [_, _, _, _]
 ·rintro o rfl
  have hlen := selP_len (f := fun x y => x && !y) (n := (pieces (cutE A B)).length) hA hB
  have hmid := selP_mid (f := fun x y => x && !y) (n := (pieces (cutE A B)).length) hA hB
  simp -implicitDefEqProofs only [rX,↓rY,↓reduceIte,Nat.reduceAdd,liveP,wfE,wfB,wfV,wfL]
  generalize selP (fun x y => x && !y) A B (pieces (cutE A B)).length = o at *
  refine call_58m o rfl hlen hmid rfl rfl (by simp) trivial ?_
  simp -implicitDefEqProofs only [rX,↓reduceIte,reduceCtorEq,resP,tupV,wfV,killE,killB,kill,kills,St.kill]
 ·simp [selP]
theorem call_isMA {cx : Cx} {f : FuncId} {args : List V} {e : Env} {h : List Blk} {b : Nat} {K : V → St → Prop} (ι mv M : List Nat) (xs : List V) (x x' : V) (h0 h1 h' : List Blk) (e' : Env) (hC : cx.C f xs h0 mv (IsA x h1))
  (hι : ι.Nodup ∧ ∀ k ∈ ι, k < h.length ∧ k ∉ cx.bn) (hM : mv.filterMap (ι[·]?) = M ∧ ∀ j ∈ mv, ∀ k, ι[j]? = some k → k ∉ cx.fx) (r0 : ι.map (fun k => renB (pos ι) (blk h k)) = h0) (ha : lendsOk h (pos ι) args ∧ wkL xs (lends h (pos ι) args))
  (hh : setAll ι (h1.map (renB (back ι h.length))) (h.map (killB M)) = h') (hx : ren (back ι h.length) x = x') (he : killE M e = e') (keep : keepP cx.fx h') (h3 : K x' ⟨e', h', b⟩) : callP cx f args ⟨e, h, b⟩ K := by
 refine ⟨ι, xs, mv, IsA x h1, ⟨hι, hM.2⟩, ha.1, ha.2, by rw [r0]; exact hC, ?_⟩
 rintro r h2 ⟨rfl, rfl⟩ _
 rw [hM.1, hh, hx, he]
 exact ⟨keep, h3⟩
theorem ok64 (l : List Sp) (s : Sp) (hl : Vd l) (hs : Vd [s]) : Ok 64 [spans l, .agg (enS s)] (Is (.b (common l s))) := by
 refine ok_of lw64 (by simp) ?_
 unfold c64
 have hc : decide ((0 : Int) < ((meetS l [s]).length : Int)) = common l s := by unfold common; congr 1; rw [eq_iff_iff]; omega
 have h56 := okN_mv (xs := [spans l, .sl 0 0 1]) (h0 := [.arr 2 [enS s]]) (ok56 l [s] hl hs) (by simp [gvL, gvV, wkL, wk, wkR, blk])
 simp -implicitDefEqProofs only [rX,↓rY,ofConst,cells?,↓reduceIte,Nat.reduceEqDiff,reduceCtorEq,freshP,litsP,Nat.reduceLT,cxN,enS_len,enS_take,enS_D,Bool.true_and,args0]
 refine call_isMA [1] [0] [1] [spans l, .sl 0 0 1] (spans (meetS l [s])) (spans (meetS l [s])) [.arr 2 [enS s]] [.dead] _ _ h56 (by simp) (by simp) (by simp [blk, renB]) (by simp [lendsOk, lendOk, lends, lend, wkL, wk, wkR, pos]) rfl rfl rfl trivial ?_
 simp -implicitDefEqProofs only [rX,↓rY,ofConst,↓reduceIte,Nat.reduceAdd,reduceCtorEq,resP,tupV,wfV,killE,killB,kill,St.kill,enS_kill,Bool.true_and,hc]
 exact fun _ => trivial
def goodS (s : Sp) : Bool := decide (s.1 ≥ 0) && decide (s.1 < s.2) && decide (s.2 ≤ 1099511627776)
end Go.Fx.J
namespace Go.Fx.J
open Go Go.Fx Go.Proofs Go.Fx.R
set_option maxRecDepth 20000
theorem ok66 (s : Sp) : Ok 66 [.agg (enS s)] (Is (.b (decide (s.2 ≤ s.1)))) := by
 refine ok_of lw66 (by simp) ?_
 unfold c66
 simp -implicitDefEqProofs only [rX,↓rY,ofConst,cells?,↓reduceIte,Nat.reduceEqDiff,freshP,resP,tupV,wfV,cxN,enS_0,enS_1,args0]
def goodR (s : Sp) : Bool := decide (s.2 ≤ s.1) || (decide (s.1 ≥ 0) && decide (s.2 ≤ 1099511627776))
theorem ok67 (s : Sp) : Ok 67 [.agg (enS s)] (Is (.b (goodR s))) := by
 refine ok_of lw67 (by simp) ?_
 unfold c67
 simp -implicitDefEqProofs only [rX,↓rY,ofConst,cells?,↓reduceIte,Nat.reduceEqDiff,freshP,cxN,enS_len,enS_take,args0]
 refine call_is (ok66 s) ⟨⟨⟨trivial, trivial, trivial⟩, trivial⟩, ⟨rfl, rfl, trivial⟩, trivial⟩ rfl trivial ?_
 unfold goodR
 cases h1 : decide (s.2 ≤ s.1) <;> cases h2 : decide (s.1 ≥ 0) <;> cases h3 : decide (s.2 ≤ 1099511627776) <;> simp -implicitDefEqProofs only [rX,↓rY,ofConst,↓reduceIte,Nat.reduceEqDiff,resP,tupV,wfV,enS_0,enS_1,h2,h3] <;> simp_all
def badR (l : List Sp) (k : Nat) (h : k < l.length) : Bool := (decide (l[k].2 ≤ l[k].1) || !goodR l[k]) || (decide (0 < k) && decide (l[k].1 ≤ (l[k - 1]'(by omega)).2))
structure OkR (l : List Sp) (k : Nat) : Prop where
 h : ∀ j (h : j < l.length), j < k → badR l j h = false
theorem vdB_at : ∀ {l : List Sp} {t : Int}, vdB t l = true ↔ ∀ j (h : j < l.length), (0 ≤ l[j].1 ∧ l[j].1 < l[j].2 ∧ l[j].2 ≤ 1099511627776) ∧ (if j = 0 then t < l[j].1 else (l[j - 1]'(by omega)).2 < l[j].1)
 | [], t => by simp [vdB]
 | s :: r, t => by
  simp only [vdB, vA, decide_eq_true_eq, vdB_at (l := r)]
  constructor
  ·rintro ⟨⟨⟨⟨h1, h2⟩, h3⟩, h4⟩, h5⟩ j hj
   cases j with
   | zero => exact ⟨⟨h1, h2, h3⟩, h4⟩
   | succ j =>
    have := h5 j (by simpa using hj)
    refine ⟨this.1, ?_⟩
    have h6 := this.2
    simp only [List.getElem_cons_succ, Nat.add_eq_zero_iff, Nat.one_ne_zero, and_false, if_false]
    cases j with
    | zero => simpa using h6
    | succ j => simpa using h6
  ·intro h
   have h0 := h 0 (by simp)
   refine ⟨⟨⟨⟨h0.1.1, h0.1.2.1⟩, h0.1.2.2⟩, by simpa using h0.2⟩, fun j hj => ?_⟩
   have := h (j + 1) (by simpa using hj)
   refine ⟨this.1, ?_⟩
   have h6 := this.2
   cases j with
   | zero => simpa using h6
   | succ j => simpa using h6
theorem badR_iff {l : List Sp} {k : Nat} {h : k < l.length} : badR l k h = false ↔ (0 ≤ l[k].1 ∧ l[k].1 < l[k].2 ∧ l[k].2 ≤ 1099511627776) ∧ (if k = 0 then -1 < l[k].1 else (l[k - 1]'(by omega)).2 < l[k].1) := by
 unfold badR goodR
 by_cases h0 : k = 0
 ·subst h0
  simp
  omega
 ·have h1 : 0 < k := by omega
  simp [h0, h1]
  omega
theorem OkR.all {l : List Sp} {k : Nat} (h : OkR l k) (hk : l.length ≤ k) : vd l = true := by
 unfold vd
 rw [vdB_at]
 intro j hj
 exact badR_iff.1 (h.h j hj (by omega))
theorem OkR.bad {l : List Sp} {k : Nat} (hk : k < l.length) (hb : badR l k hk = true) : vd l = false := by
 rw [← Bool.not_eq_true]
 intro hv
 unfold vd at hv
 rw [vdB_at] at hv
 have := badR_iff.2 (hv k hk)
 rw [hb] at this
 cases this
theorem ok22 (l : List Sp) : Ok 22 [spans l] (Is (.b (vd l))) := by
 refine ok_of lw22 (by simp) ?_
 unfold c22 spans
 simp -implicitDefEqProofs only [rX,ofConst,cxN,args0]
 refine loopP_intro (fun k : Nat => ⟨[(3, .i k), (0, .ro 2 (l.map enS))], [], 0⟩) (fun k => k ≤ l.length ∧ OkR l k) (fun k => l.length - k) 0 ⟨by omega, ⟨fun j h hj => by omega⟩⟩ ?_ ?_
 ·simp -implicitDefEqProofs only [rX,↓reduceIte,reduceCtorEq,leE,leH,keepP,wfE,wfB,wfV,yL]
 rintro k ⟨hk, hv⟩
 unfold c22l0
 simp -implicitDefEqProofs only [rX,↓rY,rdK,ofConst,↓reduceIte,Nat.reduceEqDiff,reduceCtorEq,resP,tupV,wfV,enS_len,enS_take]
 intro hm
 simp only [br, decide_eq_true_eq, decide_eq_false_iff_not]
 refine ⟨fun h => ?_, fun h => ?_⟩
 ·have hk' : k < l.length := by omega
  refine ⟨⟨by omega, h⟩, hk', ?_⟩
  refine call_is (ok66 l[k]) ⟨⟨⟨trivial, trivial, trivial⟩, trivial⟩, ⟨rfl, rfl, trivial⟩, trivial⟩ rfl trivial ?_
  have hgo : badR l k hk' = false → ((lo IntKind.i64 ≤ (k : Int) + 1 ∧ (k : Int) + 1 ≤ hi IntKind.i64) ∧ ∃ g', ((g' ≤ l.length ∧ OkR l g') ∧ l.length - g' < l.length - k) ∧ (k : Int) + 1 = (g' : Int)) := fun hb =>
   ⟨by simp only [lo, hi, maxLen] at *; omega, k + 1, ⟨⟨by omega, ⟨fun j h hj => by
    by_cases e : j = k
    ·subst e; exact hb
    ·exact hv.h j h (by omega)⟩⟩, by omega⟩, by simp⟩
  cases h1 : decide (l[k].2 ≤ l[k].1) with
  | true =>
   simp -implicitDefEqProofs only [rX,↓rY,rdK,ofConst,↓reduceIte,Nat.reduceEqDiff,resP,tupV,wfV]
   exact (OkR.bad hk' (by simp [badR, h1])).symm
  | false =>
   simp -implicitDefEqProofs only [rX,↓rY,rdK,↓reduceIte,Nat.reduceEqDiff,reduceCtorEq,enS_len,enS_take]
   refine ⟨⟨by omega, h⟩, hk', ?_⟩
   refine call_is (ok67 l[k]) ⟨⟨⟨trivial, trivial, trivial⟩, trivial⟩, ⟨rfl, rfl, trivial⟩, trivial⟩ rfl trivial ?_
   cases h2 : goodR l[k] with
   | false =>
    simp -implicitDefEqProofs only [rX,↓rY,rdK,ofConst,↓reduceIte,Nat.reduceEqDiff,resP,tupV,wfV]
    exact (OkR.bad hk' (by simp [badR, h2])).symm
   | true =>
    cases h3 : decide (0 < k) with
    | false =>
     have h3' : decide ((0 : Int) < (k : Int)) = false := by simpa using h3
     simp -implicitDefEqProofs only [rX,↓rY,rdK,ofConst,↓reduceIte,Nat.reduceEqDiff,reduceCtorEq,resP,tupV,leE,leH,keepP,wfE,wfB,wfV,enS_0,enS_1,h3']
     exact hgo (by simp [badR, h1, h2, h3])
    | true =>
     have h3' : decide ((0 : Int) < (k : Int)) = true := by simpa using h3
     have h4 : 0 < k := by simpa using h3
     have hto : ((k : Int) - 1).toNat = k - 1 := by omega
     simp -implicitDefEqProofs only [rX,↓rY,rdK,ofConst,↓reduceIte,Nat.reduceEqDiff,reduceCtorEq,resP,tupV,leE,leH,keepP,wfE,wfB,wfV,enS_0,enS_1,h3',hto]
     refine ⟨⟨by omega, h⟩, hk', by simp only [lo, hi, maxLen] at *; omega, by omega, by omega, ?_⟩
     cases h5 : decide (l[k].1 ≤ (l[k - 1]'(by omega)).2) with
     | true =>
      simp -implicitDefEqProofs only [↓rY]
      exact (OkR.bad hk' (by simp [badR, h3, h5])).symm
     | false =>
      simp -implicitDefEqProofs only [↓rY]
      exact hgo (by simp [badR, h1, h2, h5])
 ·exact (hv.all (by omega)).symm
theorem ok25 (l : List Sp) (hl : Vd l) : Ok 25 [spans l] (Is (.i (tot l))) := by
 refine ok_of lw25 (by simp) ?_
 unfold c25 spans
 simp -implicitDefEqProofs only [rX,ofConst,cxN,args0]
 refine loopP_intro (fun k : Nat => ⟨[(4, .i k), (3, .i (tot (l.take k))), (0, .ro 2 (l.map enS))], [], 0⟩) (fun k => k ≤ l.length) (fun k => l.length - k) 0 (by omega) ?_ ?_
 ·simp -implicitDefEqProofs only [rX,↓reduceIte,Nat.reduceEqDiff,reduceCtorEq,leE,leH,keepP,wfE,wfB,wfV,yL]
  rfl
 rintro k hk
 have ht := (hl.take k).tot
 unfold c25l0
 simp -implicitDefEqProofs only [rX,↓rY,ofConst,↓reduceIte,Nat.reduceEqDiff,reduceCtorEq,resP,tupV,leE,leH,keepP,wfE,wfB,wfV,enS_0,enS_1]
 intro hm
 simp only [br, decide_eq_true_eq, decide_eq_false_iff_not]
 refine ⟨fun h => ?_, fun h => ?_⟩
 ·have hk' : k < l.length := by omega
  have hb := hl.2 _ (yW hk')
  have ht' := (hl.take (k + 1)).tot
  rw [tot_take hk'] at ht'
  simp only [lo, hi, maxLen] at *
  refine ⟨⟨by omega, h⟩, hk', by omega, ⟨by omega, h⟩, hk', by omega, by omega, k + 1, ⟨by omega, by omega⟩, ?_⟩
  rw [tot_take hk']
  constructor
  ·simp
  ·congr 2; omega
 ·rw [yC (by omega)]
end Go.Fx.J
namespace Go.Fx.J
open Go Go.Fx Go.Proofs Go.Fx.R
set_option maxRecDepth 20000
theorem take_map {l : List Sp} {n : Nat} (h : n = l.length) : yA n (l.map enS) = l.map enS := yC (by simp [h])
abbrev G68 := Nat × (List Sp × Bool × Sp)
theorem ok24 (l : List Sp) (s : Sp) (hl : l.length ≤ 4398046511103) : Ok 24 [spans l, .agg (enS s)] (Is (spans (addS l s))) := by
 refine okN_gv ?_
 refine ok_of lw24 (by simp) ?_
 unfold c24 spans
 simp -implicitDefEqProofs only [rX,↓rY,ofConst,cells?,↓reduceIte,Nat.reduceEqDiff,reduceCtorEq,freshP,cxN,enS_len,enS_take,args0]
 refine call_is (ok66 s) ⟨⟨⟨trivial, trivial, trivial⟩, trivial⟩, ⟨rfl, rfl, trivial⟩, trivial⟩ rfl trivial ?_
 cases hs : decide (s.2 ≤ s.1) with
 | true =>
  simp -implicitDefEqProofs only [rX,↓rY,↓reduceIte,Nat.reduceEqDiff,reduceCtorEq,freshP,litsP,killE,killB,kill,St.kill,enS_kill]
  have e : addS l s = l := if_pos (by simpa using hs)
  refine ⟨by simp, by omega, ?_⟩
  refine ret_sl rfl (sz := 2) ?_ ?_
  ·rw [e]; rfl
  ·rw [e]; simp
 | false =>
  have e : addS l s = addEnd (l.foldl addStep ([], false, s)) := if_neg (by simpa using hs)
  simp -implicitDefEqProofs only [rX,↓rY,ofConst,↓reduceIte]
  refine loopP_ghost (.virt 1 2 (by decide) (.nilE 5 1 rfl (.refl _))) (fun g : G68 => ⟨[(7, .i g.1), (6, .b g.2.2.1), (5, .sl 1 0 g.2.1.length), (3, .ptr 0 0 0), (0, .ro 2 (l.map enS))], [.var [.i g.2.2.2.1, .i g.2.2.2.2], .arr 2 (g.2.1.map enS)], 0⟩)
   (fun g => (g.1 ≤ l.length ∧ g.2.1.length ≤ g.1 + 1) ∧ (g.2.2.1 = false → g.2.1.length ≤ g.1) ∧ (l.take g.1).foldl addStep ([], false, s) = g.2) (fun g => l.length - g.1) (0, ([], false, s)) ⟨by simp, by simp, by simp⟩ ?_ ?_
  ·simp -implicitDefEqProofs only [rX,↓reduceIte,Nat.reduceEqDiff,reduceCtorEq,leE,leH,leB,leV,leVs,keepP,liveP,wfE,wfB,wfV,wfL,yL,yO,enS]
  rintro ⟨k, o, put, t⟩ ⟨⟨hk, hol⟩, hop, hv⟩
  simp only at hk hol hop hv
  unfold c24l0
  simp -implicitDefEqProofs only [rX,↓rY,ofConst,cells?,splice,↓reduceIte,Nat.reduceEqDiff,Nat.reduceAdd,reduceCtorEq,freshP,litsP,leE,leH,leB,leV,leVs,keepP,liveP,wfE,wfB,wfV,wfL,killE,killB,kill,kills,St.kill,isD,isC,Nat.reduceLT,Nat.reduceLeDiff,enS_len,enS_take,enS_0,enS_1,enS_D,enS_kill]
  intro hm
  have hend : ∀ (hk' : k < l.length) (st : List Sp × Bool × Sp) (n : Nat) (L : List (List V)), st = addStep (o, put, t) l[k] → n = st.1.length → L = st.1.map enS →
    ((lo IntKind.i64 ≤ (k : Int) + 1 ∧ (k : Int) + 1 ≤ hi IntKind.i64) ∧ ∃ g' : G68, (((g'.1 ≤ l.length ∧ g'.2.1.length ≤ g'.1 + 1) ∧ (g'.2.2.1 = false → g'.2.1.length ≤ g'.1) ∧ (l.take g'.1).foldl addStep ([], false, s) = g'.2) ∧ l.length - g'.1 < l.length - k) ∧
      ((k : Int) + 1 = g'.1 ∧ st.2.1 = g'.2.2.1 ∧ V.sl 1 0 n = V.sl 1 0 g'.2.1.length) ∧ (st.2.2.1 = g'.2.2.2.1 ∧ st.2.2.2 = g'.2.2.2.2) ∧ Blk.arr 2 L = Blk.arr 2 (g'.2.1.map enS)) := by
   rintro hk' st n L rfl rfl rfl
   refine ⟨by simp only [lo, hi, maxLen] at *; omega, (k + 1, addStep (o, put, t) l[k]), ⟨⟨⟨by simp only; omega, ?_⟩, ?_, ?_⟩, by simp only; omega⟩, ⟨by simp, rfl, rfl⟩, ⟨rfl, rfl⟩, rfl⟩
   ·unfold addStep
    cases put <;> simp only <;> split <;> (try split) <;> simp <;> first | omega | (have := hop rfl; omega)
   ·unfold addStep
    cases put <;> simp only <;> split <;> (try split) <;> simp <;> first | omega | (have := hop rfl; omega)
   ·rw [yT, yM hk', uE, hv]; rfl
  have htk : yA o.length (o.map enS) = o.map enS := take_map rfl
  have hm1 : o.map enS ++ [[V.i t.1, V.i t.2]] = (o ++ [t]).map enS := by rw [yJ]; rfl
  have hm2 : yA (o.length + 1) ((o ++ [t]).map enS) = (o ++ [t]).map enS := take_map (by simp)
  simp only [htk, hm1, hm2, br, decide_eq_true_eq, decide_eq_false_iff_not]
  refine ⟨fun h => ?_, fun h => ?_⟩
  ·have hk' : k < l.length := by omega
   have hend := hend hk'
   have hkk : (0 : Int) ≤ k ∧ (k : Int) < l.length := ⟨by omega, h⟩
   refine ⟨hkk, hk', fun h1 => ⟨hkk, hk', by omega, ?_⟩, fun h1 => ⟨hkk, hk', fun h2 => ⟨fun hp => ?_, fun hp => ?_⟩, fun h2 => ⟨hkk, hk', hkk, hk', ?_⟩⟩⟩
   ·exact hend (o ++ [l[k]], put, t) _ _ (by simp [addStep, h1]) (by simp) (by simp)
   ·have hp' : put = false := by simpa using hp
    subst hp'
    have := hop rfl
    refine ⟨by omega, hkk, hk', ⟨by simp, by omega⟩, ?_⟩
    exact hend (o ++ [t] ++ [l[k]], true, t) _ _ (by simp [addStep, h1, h2]) (by simp) (by simp)
   ·have hp' : put = true := by simpa using hp
    subst hp'
    refine ⟨hkk, hk', by omega, ?_⟩
    exact hend (o ++ [l[k]], true, t) _ _ (by simp [addStep, h1, h2]) (by simp) (by simp)
   ·exact hend (o, put, (min t.1 l[k].1, max t.2 l[k].2)) _ _ (by simp [addStep, h1, h2]) rfl rfl
  ·have hr : addS l s = addEnd (o, put, t) := by rw [e, ← hv, yC (by omega)]
   rw [hr]
   cases put with
   | true =>
    refine ⟨by simp, fun _ => ?_⟩
    exact ret_sl rfl rfl (by simp [addEnd])
   | false =>
    have := hop rfl
    refine ⟨fun _ => ⟨by omega, ?_⟩, by simp⟩
    refine ret_sl rfl rfl (by simp [addEnd])
end Go.Fx.J
namespace Go.Fx.J
open Go Go.Fx Go.Proofs Go.Fx.R
set_option maxRecDepth 20000
theorem cut1_len {s t : Sp} : (cut1 s t).length ≤ 2 := by
 unfold cut1
 split <;> split <;> simp
theorem ok88 (l : List Sp) (s : Sp) (hl : l.length ≤ 2199023255552) : Ok 88 [spans l, .agg (enS s)] (Is (spans (cutS l s))) := by
 refine okN_gv ?_
 refine ok_of lw88 (by simp) ?_
 unfold c88 spans
 simp -implicitDefEqProofs only [rX,↓rY,ofConst,cells?,↓reduceIte,Nat.reduceEqDiff,reduceCtorEq,freshP,cxN,enS_len,enS_take,args0]
 refine call_is (ok66 s) ⟨⟨⟨trivial, trivial, trivial⟩, trivial⟩, ⟨rfl, rfl, trivial⟩, trivial⟩ rfl trivial ?_
 cases hs : decide (s.2 ≤ s.1) with
 | true =>
  simp -implicitDefEqProofs only [rX,↓rY,↓reduceIte,Nat.reduceEqDiff,reduceCtorEq,freshP,litsP,killE,killB,kill,St.kill,enS_kill]
  have e : cutS l s = l := if_pos (by simpa using hs)
  refine ⟨by simp, by omega, ?_⟩
  refine ret_sl rfl (sz := 2) ?_ ?_
  ·rw [e]; rfl
  ·rw [e]; simp
 | false =>
  have e : cutS l s = l.flatMap (cut1 s) := if_neg (by simpa using hs)
  simp -implicitDefEqProofs only [rX,↓rY,ofConst,↓reduceIte]
  refine loopP_ghost (.virt 1 2 (by decide) (.nilE 5 1 rfl (.refl _))) (fun k : Nat => ⟨[(6, .i k), (5, .sl 1 0 ((l.take k).flatMap (cut1 s)).length), (3, .ptr 0 0 0), (0, .ro 2 (l.map enS))], [.var [.i s.1, .i s.2], .arr 2 (((l.take k).flatMap (cut1 s)).map enS)], 0⟩)
   (fun k => k ≤ l.length ∧ ((l.take k).flatMap (cut1 s)).length ≤ 2 * k) (fun k => l.length - k) 0 ⟨by omega, by simp⟩ ?_ ?_
  ·simp -implicitDefEqProofs only [rX,↓reduceIte,Nat.reduceEqDiff,reduceCtorEq,leE,leH,leB,leV,leVs,keepP,liveP,wfE,wfB,wfV,wfL,yL,yO,enS,List.flatMap_nil]
  rintro k ⟨hk, hol⟩
  generalize ho : (l.take k).flatMap (cut1 s) = o at hol
  unfold c88l0
  simp -implicitDefEqProofs only [rX,↓rY,rdK,ofConst,cells?,splice,↓reduceIte,Nat.reduceEqDiff,Nat.reduceAdd,reduceCtorEq,freshP,buildP,isC,Nat.reduceLeDiff,enS_0,enS_1]
  intro hm
  simp only [br, decide_eq_true_eq, decide_eq_false_iff_not]
  refine ⟨fun h => ?_, fun h => ?_⟩
  ·have hk' : k < l.length := by omega
   have hkk : (0 : Int) ≤ k ∧ (k : Int) < l.length := ⟨by omega, h⟩
   have hstep : (l.take (k + 1)).flatMap (cut1 s) = o ++ cut1 s l[k] := by
    rw [yT, yM hk', uN, ho]; simp
   have hc2 := cut1_len (s := s) (t := l[k])
   have hend : ∀ (o' : List Sp) (n : Nat) (L : List (List V)), o' = o ++ cut1 s l[k] → n = o'.length → L = o'.map enS →
     ((lo IntKind.i64 ≤ (k : Int) + 1 ∧ (k : Int) + 1 ≤ hi IntKind.i64) ∧ ∃ g', ((g' ≤ l.length ∧ ((l.take g').flatMap (cut1 s)).length ≤ 2 * g') ∧ l.length - g' < l.length - k) ∧ ((k : Int) + 1 = (g' : Int) ∧ V.sl 1 0 n = V.sl 1 0 ((l.take g').flatMap (cut1 s)).length) ∧ Blk.arr 2 L = Blk.arr 2 (((l.take g').flatMap (cut1 s)).map enS)) := by
    rintro o' n L rfl rfl rfl
    refine ⟨by simp only [lo, hi, maxLen] at *; omega, k + 1, ⟨⟨by omega, by rw [hstep, yH]; omega⟩, by omega⟩, ?_⟩
    rw [hstep]
    exact ⟨⟨by simp, rfl⟩, rfl⟩
   have htk : yA o.length (o.map enS) = o.map enS := take_map rfl
   refine ⟨hkk, hk', hkk, hk', hkk, hk', hkk, hk', ?_⟩
   have hcut : cut1 s l[k] = (if min l[k].2 s.1 ≤ l[k].1 then [] else [(l[k].1, min l[k].2 s.1)]) ++ (if l[k].2 ≤ max l[k].1 s.2 then [] else [(max l[k].1 s.2, l[k].2)]) := rfl
   refine call_is (ok66 (l[k].1, min l[k].2 s.1)) ⟨⟨⟨trivial, trivial, trivial⟩, trivial⟩, ⟨rfl, rfl, trivial⟩, trivial⟩ rfl trivial ?_
   cases h1 : decide (min l[k].2 s.1 ≤ l[k].1) with
   | true =>
    simp -implicitDefEqProofs only [rX,↓rY,↓reduceIte,Nat.reduceEqDiff,Nat.reduceAdd]
    refine call_is (ok66 (max l[k].1 s.2, l[k].2)) ⟨⟨⟨trivial, trivial, trivial⟩, trivial⟩, ⟨rfl, rfl, trivial⟩, trivial⟩ rfl trivial ?_
    have h1' : min l[k].2 s.1 ≤ l[k].1 := by simpa using h1
    cases h2 : decide (l[k].2 ≤ max l[k].1 s.2) with
    | true =>
     have h2' : l[k].2 ≤ max l[k].1 s.2 := by simpa using h2
     simp -implicitDefEqProofs only [rX,↓rY,ofConst,↓reduceIte,Nat.reduceEqDiff,Nat.reduceAdd,reduceCtorEq,leE,leH,leB,leV,leVs,keepP,liveP,wfE,wfB,wfV,wfL]
     exact hend o _ _ (by rw [hcut, if_pos h1', if_pos h2']; simp) rfl rfl
    | false =>
     have h2' : ¬ l[k].2 ≤ max l[k].1 s.2 := by simpa using h2
     simp -implicitDefEqProofs only [rX,↓rY,ofConst,cells?,↓reduceIte,Nat.reduceEqDiff,Nat.reduceAdd,reduceCtorEq,freshP,litsP,leE,leH,leB,leV,leVs,keepP,liveP,wfE,wfB,wfV,wfL,killE,killB,kill,kills,St.kill,isD,Nat.reduceLT]
     refine ⟨by omega, ?_⟩
     exact hend (o ++ [(max l[k].1 s.2, l[k].2)]) _ _ (by rw [hcut, if_pos h1', if_neg h2']; simp) (by simp) (by rw [htk, yJ]; rfl)
   | false =>
    have h1' : ¬ min l[k].2 s.1 ≤ l[k].1 := by simpa using h1
    simp -implicitDefEqProofs only [rX,↓rY,cells?,↓reduceIte,Nat.reduceEqDiff,Nat.reduceAdd,reduceCtorEq,freshP,litsP,killE,killB,kill,kills,St.kill,isD,Nat.reduceLT]
    refine ⟨by omega, ?_⟩
    refine call_is (ok66 (max l[k].1 s.2, l[k].2)) ⟨⟨⟨trivial, trivial, trivial⟩, trivial⟩, ⟨rfl, rfl, trivial⟩, trivial⟩ rfl trivial ?_
    cases h2 : decide (l[k].2 ≤ max l[k].1 s.2) with
    | true =>
     have h2' : l[k].2 ≤ max l[k].1 s.2 := by simpa using h2
     simp -implicitDefEqProofs only [rX,↓rY,ofConst,↓reduceIte,Nat.reduceEqDiff,Nat.reduceAdd,reduceCtorEq,leE,leH,leB,leV,leVs,keepP,liveP,wfE,wfB,wfV,wfL]
     exact hend (o ++ [(l[k].1, min l[k].2 s.1)]) _ _ (by rw [hcut, if_neg h1', if_pos h2']; simp) (by simp) (by rw [htk, yJ]; rfl)
    | false =>
     have h2' : ¬ l[k].2 ≤ max l[k].1 s.2 := by simpa using h2
     simp -implicitDefEqProofs only [rX,↓rY,ofConst,cells?,↓reduceIte,Nat.reduceEqDiff,Nat.reduceAdd,reduceCtorEq,freshP,litsP,leE,leH,leB,leV,leVs,keepP,liveP,wfE,wfB,wfV,wfL,killE,killB,kill,kills,St.kill,isD,Nat.reduceLT,Nat.reduceLeDiff]
     refine ⟨⟨by simp, by omega⟩, ?_⟩
     refine hend (o ++ [(l[k].1, min l[k].2 s.1), (max l[k].1 s.2, l[k].2)]) _ _ (by rw [hcut, if_neg h1', if_neg h2']; simp) (by simp) ?_
     rw [htk, yC (by simp), yJ]
     simp [enS]
  ·rw [yC (by omega)] at ho
   have e' : cutS l s = o := by rw [e, ho]
   rw [e']
   exact ret_sl rfl rfl (by simp)
theorem fold_cut {a b : List Sp} {k : Nat} (h : k < b.length) : minusS a (b.take (k + 1)) = cutS (minusS a (b.take k)) b[k] := by
 unfold minusS
 rw [yT, yM h, uE]; rfl
theorem ok48 (a b : List Sp) (ha : Vd a) : Ok 48 [spans a, spans b] (Is (spans (minusS a b))) := by
 refine okN_gv ?_
 refine ok_of lw48 (by simp) ?_
 have hal := ha.len
 unfold c48 spans
 simp -implicitDefEqProofs only [rX,↓rY,ofConst,↓reduceIte,Nat.reduceEqDiff,Nat.reduceAdd,reduceCtorEq,freshP,litsP,killE,killB,kill,St.kill,cxN,args0]
 refine ⟨by simp, by omega, ?_⟩
 have htk : yA a.length (a.map enS) = a.map enS := take_map rfl
 refine loopP_ghost (.give (fun k => k == 0) (by simp) (.refl _)) (fun k : Nat => ⟨[(6, .i k), (5, .ro 2 ((minusS a (b.take k)).map enS)), (1, .ro 2 (b.map enS))], [], 0⟩) (fun k => k ≤ b.length) (fun k => b.length - k) 0 (by omega) ?_ ?_
 ·simp -implicitDefEqProofs only [rX,↓reduceIte,Nat.reduceEqDiff,reduceCtorEq,leE,leH,keepP,wfE,wfB,wfV,St.give,gvE,gvV,gvH,gvB,Nat.reduceBEq,yL,htk]
  rfl
 rintro k hk
 have hv : Vd (minusS a (b.take k)) := ha.minus
 have hvl := hv.len
 unfold c48l0
 simp -implicitDefEqProofs only [rX,↓rY,↓reduceIte,Nat.reduceEqDiff,enS_len,enS_take]
 intro hm
 simp only [br, decide_eq_true_eq, decide_eq_false_iff_not]
 refine ⟨fun h => ?_, fun h => ?_⟩
 ·have hk' : k < b.length := by omega
  refine ⟨⟨by omega, h⟩, hk', ?_⟩
  refine call_is (ok88 (minusS a (b.take k)) b[k] (by omega)) ⟨⟨trivial, ⟨trivial, trivial, trivial⟩, trivial⟩, ⟨rfl, rfl⟩, ⟨rfl, rfl, trivial⟩, trivial⟩ rfl trivial ?_
  simp -implicitDefEqProofs only [rX,↓rY,ofConst,↓reduceIte,Nat.reduceEqDiff,leE,leH,keepP,wfE,wfB,wfV]
  refine ⟨by simp only [lo, hi, maxLen] at *; omega, k + 1, ⟨by omega, by omega⟩, ?_⟩
  rw [fold_cut hk']
  simp
 ·rw [yC (by omega)]
  exact ret_ro rfl
end Go.Fx.J
