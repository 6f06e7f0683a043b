import Derived.Test.YtcchjpjkhaomeaaFxFrz
import Derived.Test.YtcchjpjkhaomeaaFxRun
import Derived.Test.YtcchjpjkhaomeaaWLow
import Derived.Sort.Walk0
import Derived.Shelf.Strings.Builder1
import Derived.Shelf.Strings.OnBuilder
import Derived.Shelf.Small.Strs
import Derived.Shelf.Strings.Search1
import Derived.Shelf.Sort.Plain
import Derived.Shelf.Slices.Turned
import Derived.Ground.Names2Prog
import Derived.Shelf.Slices.CompactS
import Derived.Shelf.Slices.In.SortNone
import Derived.Test.YtcchjpjkhaomeaaProg
import Derived.WalkKit
import Derived.BigCall
import Derived.Lib.IndexLaws
set_option linter.unusedVariables false
set_option linter.unusedSimpArgs false
set_option linter.unusedSectionVars false
open List renaming take → yA, getElem_mem → yB, take_of_length_le → yD, getElem?_eq_getElem → yE, replicate → yG, map → yJ, length_append → yK, any_eq_true → yL, take_add_one → yM, range → yN, mem_append → yO, length_take → yP, getElem_of_mem → yQ, getD_eq_getElem?_getD → yR, length_cons → yS, mem_singleton → yT, map_append → yU, take_length → yV, length_map → yW, flatMap_append → yZ, any_eq_false → vA, mem_range → vB, find?_eq_none → vC, mem_cons_self → vD, append_nil → vF, map_cons → vG, mem_cons → vH, length_eq_zero_iff → vI, mem_map → vJ, mem_cons_of_mem → vL, drop → vM, find?_some → vN, not_lt → vO, pairwise_iff_getElem → vP, map_nil → vR, getElem?_cons_zero → vU, length_nil → vV, append_assoc → vZ, getElem_map → uC, not_mem_nil → uD, range' → uE, range_eq_range' → uF, mem_take_iff_getElem → uH, replicate_succ → uI, length_singleton → uK, take_append_drop → uL, set_cons_succ → uM, mem_of_find?_eq_some → uO, all_eq_true → uP, not_of_lt_findIdx → uR, find?_eq_some_iff_getElem → uS, pairwise_append → uT, getElem_toArray → uU, length_filter_le → uV, mem_append_left → uW
open Int renaming toNat_natCast → yC, natCast_zero → yF
open Nat renaming le_refl → yH, zero_le → yI, lt_of_lt_of_le → yX, zero_add → vQ, le_trans → vW, not_lt_zero → vY, min_eq_left → uA, succ_mul → uJ
open Bool renaming not_eq_true' → yY, or_eq_true → vE, eq_iff_iff → vK, and_eq_true → uB, true_and → uG, or_eq_false_iff → uN
open Option renaming map_some → vS
open Option.some renaming injEq → vT
open Array renaming getElem?_modify → vX, getElem?_append_left → uQ
namespace Go.Fx
def rdK (x : V) (bn : List Nat) : List Nat :=
 match x with
 | .ptr k _ _ => k :: bn
 | _ => bn
def tupK (x : V) (K : List V → Prop) : Prop :=
 match x with
 | .tup vs => K vs
 | _ => False
def cloK (x : V) (K : FuncId → List V → Prop) : Prop :=
 match x with
 | .clo g cs => K g cs
 | _ => False
mutual
theorem kill_nil : ∀ x : V, kill [] x = x
 | .any => rfl
 | .v _ => rfl
 | .ro _ _ => rfl
 | .bro _ _ => rfl
 | .full _ _ => rfl
 | .rp _ _ _ _ => rfl
 | .sl _ _ _ => by simp [kill]
 | .ptr _ _ _ => by simp [kill]
 | .mp _ => by simp [kill]
 | .itr _ => by simp [kill]
 | .agg cs => by simp [kill, kills_nil cs]
 | .tup cs => by simp [kill, kills_nil cs]
 | .clo _ cs => by simp [kill, kills_nil cs]
theorem kills_nil : ∀ xs : List V, kills [] xs = xs
 | [] => rfl
 | x :: r => by simp [kills, kill_nil x, kills_nil r]
end
theorem killE_nil : ∀ e : Env, killE [] e = e
 | [] => rfl
 | (_, x) :: r => by simp [killE, kill_nil x, killE_nil r]
theorem killB_nil (l : List Blk) : l.map (killB []) = l := by
 have : killB [] = id := by
  funext b
  cases b <;> simp [killB, kills_nil, kill_nil, killE_nil, funext kills_nil]
 simp [this]
section
variable {cx : Cx} {e : Env} {h : List Blk} {b : Nat} {K : V → St → Prop} {Ks : St → Prop} {N R : St → Prop} {X : Nat → St → Prop} {d : Option Nat} {op : LOp}
theorem zk {d : Nat} {x : V} : St.put ⟨e, h, b⟩ (some d) x = ⟨(d, x) :: e, h, b⟩ := rfl
theorem zl {x : V} : St.put ⟨e, h, b⟩ none x = ⟨e, h, b⟩ := rfl
theorem qE : aOps cx [] ⟨e, h, b⟩ Ks = Ks ⟨e, h, b⟩ := rfl
theorem qF {r : List LOper} : aOps cx (⟨d, op, none⟩ :: r) ⟨e, h, b⟩ Ks = aOp cx op ⟨e, h, b⟩ fun x s' => aOps cx r (s'.put d x) Ks := rfl
theorem qG {g : Nat} {w : Bool} {r : List LOper} : aOps cx (⟨d, op, some (g, w)⟩ :: r) ⟨e, h, b⟩ Ks = guardP (get e g) w
   (aOp cx op ⟨(g, .b w) :: e, h, b⟩ fun x s' => aOps cx r (s'.put d x) Ks)
   (aOps cx r (St.put ⟨(g, .b !w) :: e, h, b⟩ d (.v (.tuple #[]))) Ks)
   (aOps cx r (St.put ⟨e, h, b⟩ d (.v (.tuple #[]))) Ks) := rfl
theorem qa {x : Operand} {bn : List Nat} : rdB (.mov x) e bn = bn := rfl
theorem qH {x : Operand} : aOp cx (.mov x) ⟨e, h, b⟩ K = K (ev e x) ⟨e, h, b⟩ := rfl
theorem qb {c x y : Operand} {bn : List Nat} : rdB (.pick c x y) e bn = bn := rfl
theorem qI {c x y : Operand} : aOp cx (.pick c x y) ⟨e, h, b⟩ K = brV (ev e c) (K (ev e x) ⟨e, h, b⟩) (K (ev e y) ⟨e, h, b⟩) := rfl
theorem qJ {j : Nat} {x : Operand} : aOp cx (.box j x) ⟨e, h, b⟩ K = optK (cells? (ev e x)) fun cs => freshP h (b + j) ∧ K (.ptr (b + j) 0 0) ⟨e, h.set (b + j) (.var cs), b⟩ := rfl
theorem qK {j : Nat} {z : Value} : aOp cx (.alloc j z) ⟨e, h, b⟩ K = optK (cells? (ofConst z)) fun cs => freshP h (b + j) ∧ K (.ptr (b + j) 0 0) ⟨e, h.set (b + j) (.var cs), b⟩ := rfl
theorem qL {n : Option Nat} {x : Operand} : aOp cx (.load n x) ⟨e, h, b⟩ K = loadP h n (ev e x) fun y => K y ⟨e, h, b⟩ := rfl
theorem qM {n : Nat} {x y : Operand} : aOp cx (.store n x y) ⟨e, h, b⟩ K = optK (cells? (ev e y)) fun cs => storeP cx.bn h n (ev e x) cs fun h => K (.v (.tuple #[])) ⟨e, h, b⟩ := rfl
theorem qc {n : Nat} {x : Operand} {bn : List Nat} : rdB (.fld n x) e bn = bn := rfl
theorem qN {n : Nat} {x : Operand} : aOp cx (.fld n x) ⟨e, h, b⟩ K = fldP n (ev e x) fun y => K y ⟨e, h, b⟩ := rfl
theorem qd {n : Nat} {x i : Operand} {bn : List Nat} : rdB (.idx n x i) e bn = bn := rfl
theorem qO {n : Nat} {x i : Operand} : aOp cx (.idx n x i) ⟨e, h, b⟩ K = intK (ev e i) fun _ m => idxP h n m (ev e x) fun y => K y ⟨e, h, b⟩ := rfl
theorem qP {o : BinOp} {ex : Bool} {x y : Operand} : aOp cx (.bin o ex x y) ⟨e, h, b⟩ K = intK (ev e x) fun k a => intK (ev e y) fun k' c => k' = k ∧ binInt o ex k a c fun z => K z ⟨e, h, b⟩ := rfl
theorem qe {x : Operand} {bn : List Nat} : rdB (.len x) e bn = bn := rfl
theorem qQ {x : Operand} : aOp cx (.len x) ⟨e, h, b⟩ K = lenP (ev e x) fun y => K y ⟨e, h, b⟩ := rfl
theorem qR {x : Operand} : aOp cx (.lens x) ⟨e, h, b⟩ K = lensP (ev e x) fun y => K y ⟨e, h, b⟩ := rfl
theorem qf {x : Operand} {bn : List Nat} : rdB (.not x) e bn = bn := rfl
theorem qS {x : Operand} : aOp cx (.not x) ⟨e, h, b⟩ K = boolK (ev e x) fun t => K (.b (!t)) ⟨e, h, b⟩ := rfl
theorem qT {f : FuncId} {cs : List Operand} : aOp cx (.fn f cs) ⟨e, h, b⟩ K = K (.clo f (cs.map (ev e))) ⟨e, h, b⟩ := rfl
theorem qh {z : Nat} {x : Operand} {l u m : Option Operand} {bn : List Nat} : rdB (.slice z x l u m) e bn = bn := rfl
theorem qU {z : Nat} {x : Operand} {l u m : Option Operand} : aOp cx (.slice z x l u m) ⟨e, h, b⟩ K = optI (l.map (ev e)) fun l => optI (u.map (ev e)) fun u => optI (m.map (ev e)) fun m => slcP h z (ev e x) l u m fun y => K y ⟨e, h, b⟩ := rfl
theorem qi {z : List Value} {ps : List (Nat × Nat × Operand)} {bn : List Nat} : rdB (.build z ps) e bn = bn := rfl
theorem qV {z : List Value} {ps : List (Nat × Nat × Operand)} : aOp cx (.build z ps) ⟨e, h, b⟩ K = buildP e (z.map .v) ps fun y => K y ⟨e, h, b⟩ := rfl
theorem qW {neg : Bool} {x y : Operand} : aOp cx (.eqb neg x y) ⟨e, h, b⟩ K = boolK (ev e x) fun a => boolK (ev e y) fun c => K (.b (if neg then a != c else a == c)) ⟨e, h, b⟩ := rfl
theorem qX {neg : Bool} {ks : List (Nat × TypeDesc)} {x y : Operand} : aOp cx (.eqf neg ks x y) ⟨e, h, b⟩ K = optK (aggC (ev e x)) fun xs => optK (aggC (ev e y)) fun ys => eqFs xs ys ks fun t => K (.b (if neg then !t else t)) ⟨e, h, b⟩ := rfl
theorem qY {neg : Bool} {x : Operand} {v : Value} : aOp cx (.eqn neg x (.const v)) ⟨e, h, b⟩ K = match ofConst v with | .v _ => eqnP (ev e x) fun t => K (.b (if neg then !t else t)) ⟨e, h, b⟩ | _ => False := rfl
theorem qZ {j sz n : Nat} {z : List Value} {ps : List (Nat × Operand)} : aOp cx (.lits j sz n z ps) ⟨e, h, b⟩ K = litsP e sz (yG n (z.map .v)) ps fun els => freshP h (b + j) ∧ K (.sl (b + j) 0 n) ⟨e, h.set (b + j) (.arr sz els), b⟩ := rfl
theorem za {j sz bytes : Nat} {z : List Value} {l c : Operand} : aOp cx (.mk j sz bytes z l c) ⟨e, h, b⟩ K = intK (ev e l) fun _ a => intK (ev e c) fun _ d => ((0 ≤ a ∧ a ≤ d) ∧ (bytes : Int) * d ≤ 281474976710656 ∧ d ≤ 9223372036854775807) ∧ freshP h (b + j) ∧ K (.sl (b + j) 0 a.toNat) ⟨e, h.set (b + j) (.arr sz (yG a.toNat (z.map .v))), b⟩ := rfl
theorem zb {j sz bytes : Nat} {x y : Operand} : aOp cx (.append j sz bytes x y) ⟨e, h, b⟩ K = viewK h (ev e y) fun sz' new => (new = [] ∨ sz' = sz) ∧ appP cx.fx cx.bn (b + j) sz bytes ⟨e, h, b⟩ (ev e x) new K := rfl
theorem zc {x i : Operand} : aOp cx (.prim .sidx [x, i]) ⟨e, h, b⟩ K = strK (ev e x) fun t => intK (ev e i) fun _ j => 0 ≤ j ∧ optK t[j.toNat]? fun c => K (.v (.int .u8 c.toNat)) ⟨e, h, b⟩ := rfl
theorem qj {x l : Operand} {bn : List Nat} : rdB (.prim (.sslc true false) [x, l]) e bn = bn := rfl
theorem zd {x l : Operand} : aOp cx (.prim (.sslc true false) [x, l]) ⟨e, h, b⟩ K = strK (ev e x) fun t => intK (ev e l) fun _ l => sslcP t (some l) none fun y => K y ⟨e, h, b⟩ := rfl
theorem qk {x u : Operand} {bn : List Nat} : rdB (.prim (.sslc false true) [x, u]) e bn = bn := rfl
theorem ze {x u : Operand} : aOp cx (.prim (.sslc false true) [x, u]) ⟨e, h, b⟩ K = strK (ev e x) fun t => intK (ev e u) fun _ u => sslcP t none (some u) fun y => K y ⟨e, h, b⟩ := rfl
theorem ql {o : BinOp} {x y : Operand} {bn : List Nat} : rdB (.prim (.sbin o) [x, y]) e bn = bn := rfl
theorem zf {o : BinOp} {x y : Operand} : aOp cx (.prim (.sbin o) [x, y]) ⟨e, h, b⟩ K = strK (ev e x) fun t => strK (ev e y) fun u => sbinP o t u fun y => K y ⟨e, h, b⟩ := rfl
theorem zg {j : Nat} {x : Operand} : aOp cx (.eff .b2s j [x]) ⟨e, h, b⟩ K = viewK h (ev e x) fun sz els => (els = [] ∨ sz = 1) ∧ optK (bytesOf els) fun l => K (.v (.string ⟨l.toArray⟩)) ⟨e, h, b⟩ := rfl
theorem zh {f : FuncId} {xs : List Operand} : aOp cx (.call f xs) ⟨e, h, b⟩ K = callP cx f (xs.map (ev e)) ⟨e, h, b⟩ K := rfl
theorem qm {n : Option Nat} {x : Operand} {bn : List Nat} : rdB (.load n x) e bn = rdK (ev e x) bn := by
 show (match ev e x with | .ptr k _ _ => k :: bn | _ => bn) = _
 unfold rdK
 cases ev e x <;> rfl
theorem zi {x : Operand} {i : Nat} : aOp cx (.ext x i) ⟨e, h, b⟩ K = tupK (ev e x) fun vs => optK vs[i]? fun y => K y ⟨e, h, b⟩ := by
 simp only [aOp, tupK]; split <;> simp_all
theorem zj {f : Operand} {xs : List Operand} : aOp cx (.callv f xs) ⟨e, h, b⟩ K = cloK (ev e f) fun g cs => callP cx g (xs.map (ev e) ++ cs) ⟨e, h, b⟩ K := by
 simp only [aOp, cloK]; split <;> simp_all
theorem qu : aw cx .skip N X R ⟨e, h, b⟩ = N ⟨e, h, b⟩ := rfl
theorem qv {n : Nat} {l : List LOper} : aw cx (.reg n l) N X R ⟨e, h, b⟩ = aOps cx l ⟨e, h ++ yG n .dead, h.length⟩ N := rfl
theorem qw {m n : Nat} {l : List LOper} : aw cx (.tail m n l) N X R ⟨e, h, b⟩ = aOps cx l ⟨e, h ++ yG n .dead, h.length⟩ N := rfl
theorem qx {n : Nat} {l : List LOper} : aw cx (.qui n l) N X R ⟨e, h, b⟩ = aOps cx l ⟨e, h ++ yG n .dead, h.length⟩ N := rfl
theorem qn {n : Nat} {p : LPlan} : aw cx (.tree n p) N X R ⟨e, h, b⟩ = awP cx p [] N ⟨e, h ++ yG n .dead, h.length⟩ := rfl
theorem qo {bn : List Nat} : awP cx .done bn Ks ⟨e, h, b⟩ = Ks ⟨e, h, b⟩ := rfl
theorem qp {bn : List Nat} : awP cx .none bn Ks ⟨e, h, b⟩ = True := rfl
theorem qq {i : Nat} {D bn : List Nat} {p : LPlan} : awP cx (.take i D ⟨d, op, none⟩ p) bn Ks ⟨e, h, b⟩ = aOp cx op ⟨e, h, b⟩ fun x s' => awP cx p (rdB op e bn) Ks (s'.put d x) := rfl
theorem qr {i g : Nat} {w : Bool} {D bn : List Nat} {p : LPlan} : awP cx (.take i D ⟨d, op, some (g, w)⟩ p) bn Ks ⟨e, h, b⟩ = guardP (get e g) w
   (aOp cx op ⟨(g, .b w) :: e, h, b⟩ fun x s' => awP cx p (rdB op e bn) Ks (s'.put d x))
   (awP cx p (rdB op e bn) Ks (St.put ⟨(g, .b !w) :: e, h, b⟩ d (.v (.tuple #[]))))
   (awP cx p (rdB op e bn) Ks (St.put ⟨e, h, b⟩ d (.v (.tuple #[])))) := rfl
theorem qs {i : Nat} {r : Bool} {bn : List Nat} {p q : LPlan} : awP cx (.alt i ⟨d, op, none⟩ r p q) bn Ks ⟨e, h, b⟩ =
   ((aOp ⟨cx.C, cx.fx, if r then bn else [], cx.it, cx.y, cx.rk⟩ op ⟨e, h, b⟩ fun x s' => awP cx p (if r then bn else []) Ks (s'.put d x)) ∧ awP cx q bn Ks ⟨e, h, b⟩) := rfl
theorem qt {i g : Nat} {w r : Bool} {bn : List Nat} {p q : LPlan} : awP cx (.alt i ⟨d, op, some (g, w)⟩ r p q) bn Ks ⟨e, h, b⟩ =
   ((guardP (get e g) w
     (aOp ⟨cx.C, cx.fx, if r then bn else [], cx.it, cx.y, cx.rk⟩ op ⟨(g, .b w) :: e, h, b⟩ fun x s' => awP cx p (if r then bn else []) Ks (s'.put d x))
     (awP cx p (if r then bn else []) Ks (St.put ⟨(g, .b !w) :: e, h, b⟩ d (.v (.tuple #[]))))
     (awP cx p (if r then bn else []) Ks (St.put ⟨e, h, b⟩ d (.v (.tuple #[]))))) ∧ awP cx q bn Ks ⟨e, h, b⟩) := rfl
theorem qy {x y : LCode} : aw cx (.seq x y) N X R ⟨e, h, b⟩ = aw cx x (fun s' => aw cx y N X R s') X R ⟨e, h, b⟩ := rfl
theorem qz {c : Operand} {x y : LCode} : aw cx (.cond c x y) N X R ⟨e, h, b⟩ = brV (ev e c) (aw cx x N X R ⟨e, h, b⟩) (aw cx y N X R ⟨e, h, b⟩) := rfl
theorem qA {i : Nat} {x : LCode} : aw cx (.block i x) N X R ⟨e, h, b⟩ = aw cx x N (fun j s' => if j = i then N s' else X j s') R ⟨e, h, b⟩ := rfl
theorem qB {x : LCode} : aw cx (.loop x) N X R ⟨e, h, b⟩ = loopP cx.fx (fun N => aw cx x N X R) ⟨e, h, b⟩ := rfl
theorem qC {i : Nat} : aw cx (.exit i) N X R ⟨e, h, b⟩ = X i ⟨e, h, b⟩ := rfl
theorem qD : aw cx .ret N X R ⟨e, h, b⟩ = R ⟨e, h, b⟩ := rfl
theorem zv {A B : Prop} : br true A B = A := by simp [br]
theorem zw {A B : Prop} : br false A B = B := by simp [br]
theorem zu {t : Bool} {A B : Prop} : brV (.v (.bool t)) A B = br t A B := rfl
theorem zx {t : Bool} {w : Bool} {A B C : Prop} : guardP (.v (.bool t)) w A B C = if w then br t A B else br t B A := rfl
theorem zy {w : Bool} {A B C : Prop} : guardP (.v (.tuple #[])) w A B C = C := rfl
theorem zr {k : IntKind} {a : Int} {K : IntKind → Int → Prop} : intK (.v (.int k a)) K = K k a := rfl
theorem zt {a : Bool} {K : Bool → Prop} : boolK (.v (.bool a)) K = K a := rfl
theorem retP_eq {fx : List Nat} {n : Nat} {rs : List LRes} {R : V → List Blk → Prop} : retP fx n rs R ⟨e, h, b⟩ = resP h e rs [] fun xs => ∃ p, (leH h p ∧ keepP fx p ∧ n ≤ p.length ∧ wfV p (tupV xs) ∧ wfB p p) ∧ R (tupV xs) p := rfl
theorem zA {fx : List Nat} {p : Env} {q : List Blk} {b' : Nat} : leS fx ⟨e, h, b⟩ ⟨p, q, b'⟩ = (leE e p ∧ leH h q ∧ keepP fx q ∧ wfE q p ∧ wfB q q) := rfl
end
section
variable {cx : Cx} {h : List Blk} {e : Env} {s : St} {fx bn : List Nat}
def Is (x : V) : V → List Blk → Prop := fun r h => r = x ∧ h = []
theorem zz {e : Env} {h : List Blk} {b : Nat} {rs : List LRes} {x : V} : retP [] 0 rs (Is x) ⟨e, h, b⟩ = resP h e rs [] fun xs => wfV [] (tupV xs) ∧ tupV xs = x := by
 unfold retP Is
 simp only
 congr 1
 funext xs
 apply propext
 constructor
 ·rintro ⟨p, ⟨_, _, _, h4, _⟩, h5, rfl⟩
  exact ⟨h4, h5⟩
 ·rintro ⟨h4, h5⟩
  exact ⟨[], ⟨by unfold leH; trivial, trivial, yH _, h4, trivial⟩, h5, rfl⟩
theorem zm {t : Nat} : ev e (.tmp t) = get e t := rfl
theorem zn {c : Value} : ev e (.const c) = ofConst c := rfl
theorem zo {f : FuncId} : ev e (.func f) = .clo f [] := rfl
theorem zp {j i : Nat} {x : V} {r : Env} : get ((j, x) :: r) i = if i = j then x else get r i := rfl
theorem zq {k : Nat} : blk h k = h.getD k .dead := rfl
@[congr] theorem c_optK {α : Type} {o o' : Option α} {K : α → Prop} (q : o = o') : optK o K = optK o' K := by rw [q]
@[congr] theorem c_intK {x x' : V} {K : IntKind → Int → Prop} (q : x = x') : intK x K = intK x' K := by rw [q]
@[congr] theorem c_boolK {x x' : V} {K : Bool → Prop} (q : x = x') : boolK x K = boolK x' K := by rw [q]
@[congr] theorem c_brV {x x' : V} {A B : Prop} (q : x = x') : brV x A B = brV x' A B := by rw [q]
@[congr] theorem c_guardP {x x' : V} {w : Bool} {A B C : Prop} (q : x = x') : guardP x w A B C = guardP x' w A B C := by rw [q]
@[congr] theorem c_loadP {n : Option Nat} {p p' : V} {K : V → Prop} (q : p = p') : loadP h n p K = loadP h n p' K := by rw [q]
@[congr] theorem c_loadB {n : Option Nat} {i f : Nat} {b b' : Blk} {K : V → Prop} (q : b = b') : loadB n i f b K = loadB n i f b' K := by rw [q]
@[congr] theorem c_loadCs {n : Option Nat} {f : Nat} {cs cs' : List V} {K : V → Prop} (q : cs = cs') : loadCs n f cs K = loadCs n f cs' K := by rw [q]
@[congr] theorem c_storeP {n : Nat} {p p' : V} {cs cs' : List V} {K : List Blk → Prop} (q : p = p') (q2 : cs = cs') : storeP bn h n p cs K = storeP bn h n p' cs' K := by rw [q, q2]
@[congr] theorem c_storeB {n i f : Nat} {cs : List V} {b b' : Blk} {K : Blk → Prop} (q : b = b') : storeB n i f cs b K = storeB n i f cs b' K := by rw [q]
@[congr] theorem c_fldP {n : Nat} {x x' : V} {K : V → Prop} (q : x = x') : fldP n x K = fldP n x' K := by rw [q]
@[congr] theorem c_idxP {z : Nat} {n n' : Int} {x x' : V} {K : V → Prop} (q : x = x') (q2 : n = n') : idxP h z n x K = idxP h z n' x' K := by rw [q, q2]
@[congr] theorem c_lenP {x x' : V} {K : V → Prop} (q : x = x') : lenP x K = lenP x' K := by rw [q]
@[congr] theorem c_lensP {x x' : V} {K : V → Prop} (q : x = x') : lensP x K = lensP x' K := by rw [q]
@[congr] theorem c_viewK {x x' : V} {K : Nat → List (List V) → Prop} (q : x = x') : viewK h x K = viewK h x' K := by rw [q]
@[congr] theorem c_optI {x x' : Option V} {K : Option Int → Prop} (q : x = x') : optI x K = optI x' K := by rw [q]
@[congr] theorem c_slcP {z : Nat} {x x' : V} {l u m : Option Int} {K : V → Prop} (q : x = x') : slcP h z x l u m K = slcP h z x' l u m K := by rw [q]
@[congr] theorem c_buildP {acc acc' : List V} {ps : List (Nat × Nat × Operand)} {K : V → Prop} (q : acc = acc') : buildP e acc ps K = buildP e acc' ps K := by rw [q]
@[congr] theorem c_litsP {sz : Nat} {acc acc' : List (List V)} {ps : List (Nat × Operand)} {K : List (List V) → Prop} (q : acc = acc') : litsP e sz acc ps K = litsP e sz acc' ps K := by rw [q]
@[congr] theorem c_eqnP {x x' : V} {K : Bool → Prop} (q : x = x') : eqnP x K = eqnP x' K := by rw [q]
@[congr] theorem c_appP {id sz bytes : Nat} {x x' : V} {new new' : List (List V)} {K : V → St → Prop} (q : x = x') (q2 : new = new') : appP fx bn id sz bytes s x new K = appP fx bn id sz bytes s x' new' K := by rw [q, q2]
@[congr] theorem c_appB {k i n sz bytes : Nat} {new : List (List V)} {b b' : Blk} {K : V → St → Prop} (q : b = b') : appB fx bn k i n sz bytes s new b K = appB fx bn k i n sz bytes s new b' K := by rw [q]
@[congr] theorem c_appNew {id sz bytes : Nat} {old old' new : List (List V)} {K : V → St → Prop} (q : old = old') : appNew id sz bytes s old new K = appNew id sz bytes s old' new K := by rw [q]
@[congr] theorem c_copyP {sz : Nat} {x x' : V} {new : List (List V)} {K : V → St → Prop} (q : x = x') : copyP bn sz s x new K = copyP bn sz s x' new K := by rw [q]
@[congr] theorem c_tupK {x x' : V} {K : List V → Prop} (q : x = x') : tupK x K = tupK x' K := by rw [q]
@[congr] theorem c_cloK {x x' : V} {K : FuncId → List V → Prop} (q : x = x') : cloK x K = cloK x' K := by rw [q]
@[congr] theorem c_aggK {x x' : V} {K : List V → Prop} (q : x = x') : aggK x K = aggK x' K := by rw [q]
@[congr] theorem c_callP {f : FuncId} {xs xs' : List V} {s s' : St} {K : V → St → Prop} (q : xs = xs') (q2 : s = s') : callP cx f xs s K = callP cx f xs' s' K := by rw [q, q2]
@[congr] theorem c_binInt {op : BinOp} {ex : Bool} {k : IntKind} {a a' b b' : Int} {K : V → Prop} (q : a = a') (q2 : b = b') : binInt op ex k a b K = binInt op ex k a' b' K := by rw [q, q2]
@[congr] theorem c_eqFs {xs xs' ys ys' : List V} {ks : List (Nat × TypeDesc)} {K : Bool → Prop} (q : xs = xs') (q2 : ys = ys') : eqFs xs ys ks K = eqFs xs' ys' ks K := by rw [q, q2]
@[congr] theorem c_eqC {kd : TypeDesc} {x x' y y' : Option V} {K : Bool → Prop} (q : x = x') (q2 : y = y') : eqC kd x y K = eqC kd x' y' K := by rw [q, q2]
@[congr] theorem c_resP {ls : List LRes} {acc acc' : List V} {K : List V → Prop} (q : acc = acc') : resP h e ls acc K = resP h e ls acc' K := by rw [q]
@[congr] theorem c_awP {p : LPlan} {s s' : St} {Ks : St → Prop} (q : s = s') : awP cx p bn Ks s = awP cx p bn Ks s' := by rw [q]
@[congr] theorem c_aOps {l : List LOper} {s s' : St} {Ks : St → Prop} (q : s = s') : aOps cx l s Ks = aOps cx l s' Ks := by rw [q]
@[congr] theorem c_aw {c : LCode} {s s' : St} {N R : St → Prop} {X : Nat → St → Prop} (q : s = s') : aw cx c N X R s = aw cx c N X R s' := by rw [q]
@[congr] theorem c_aOp {o : LOp} {s s' : St} {K : V → St → Prop} (q : s = s') : aOp cx o s K = aOp cx o s' K := by rw [q]
end
theorem loopP_intro {fx : List Nat} {f : (St → Prop) → St → Prop} {s : St} {G : Type} (pat : G → St) (I : G → Prop) (μ : G → Nat) (g : G) (h0 : I g) (h1 : leS fx s (pat g))
  (h : ∀ g, I g → f (fun s' => ∃ g', (I g' ∧ μ g' < μ g) ∧ leS fx s' (pat g')) (pat g)) : loopP fx f s :=
 ⟨G, pat, I, μ, leS fx, fun a _ h => ⟨a, .refl a, h⟩, ⟨g, h0, _, .refl s, h1⟩, h⟩
theorem loopP_ghost {fx : List Nat} {f : (St → Prop) → St → Prop} {s s0 : St} {G : Type} (hg : Ghost fx s s0) (pat : G → St) (I : G → Prop) (μ : G → Nat) (g : G) (h0 : I g) (h1 : leS fx s0 (pat g))
  (h : ∀ g, I g → f (fun s' => ∃ g', (I g' ∧ μ g' < μ g) ∧ leS fx s' (pat g')) (pat g)) : loopP fx f s :=
 ⟨G, pat, I, μ, leS fx, fun a _ h => ⟨a, .refl a, h⟩, ⟨g, h0, s0, hg, h1⟩, h⟩
theorem callP_pure {cx : Cx} {f : FuncId} {args : List V} {e : Env} {h : List Blk} {b : Nat} {K : V → St → Prop} (zas : List V) (R : V → List Blk → Prop) (h1 : lendsOk h (fun _ => none) args ∧ wkL zas (lends h (fun _ => none) args)) (h2 : cx.C f zas [] [] R)
  (h3 : ∀ r h', R r h' → keepP cx.fx (h ++ h'.map (renB (fun j => some (h.length + j)))) ∧ K (ren (fun j => some (h.length + j)) r) ⟨e, h ++ h'.map (renB (fun j => some (h.length + j))), b⟩) : callP cx f args ⟨e, h, b⟩ K := by
 have hp : pos [] = fun _ => none := rfl
 have hb : back [] h.length = fun j => some (h.length + j) := by funext j; simp [back]
 have hk : ∀ l : List Blk, l.map (killB []) = l := killB_nil
 refine ⟨[], zas, [], R, ⟨⟨List.nodup_nil, by simp⟩, by simp⟩, ?_, ?_, by simpa using h2, ?_⟩
 ·rw [hp]; exact h1.1
 ·rw [hp]; exact h1.2
 ·intro r h' hR _
  have := h3 r h' hR
  simp only [hb, setAll, List.filterMap_nil, hk, killE_nil]
  exact this
section
variable {h : List Blk} {e : Env} {s : St} {fx bn : List Nat} {b : Nat}
def viewB (b : Blk) (i n : Nat) (K : Nat → List (List V) → Prop) : Prop :=
 match b with
 | .arr sz els => i + n ≤ els.length ∧ K sz ((els.drop i).take n)
 | .var cs => (i + n ≤ cs.length ∧ ((cs.drop i).take n).all isD = true) ∧ K 1 (((cs.drop i).take n).map fun c => [c])
 | _ => False
theorem zQ {α : Type} {x : α} {K : α → Prop} : optK (some x) K = K x := rfl
theorem zR {n : Option Nat} {k i f : Nat} {K : V → Prop} : loadP h n (.ptr k i f) K = loadB n i f (blk h k) K := rfl
theorem zS {n : Option Nat} {z i f : Nat} {els : List (List V)} {K : V → Prop} : loadP h n (.rp z els i f) K = ∃ hi : i < els.length, loadCs n f (els[i]'hi) K := rfl
theorem zT {n : Option Nat} {f : Nat} {cs : List V} {K : V → Prop} : loadB n 0 f (.var cs) K = loadCs n f cs K := by
 show loadCs n (0 + f) cs K = _
 rw [vQ]
theorem zU {n : Option Nat} {i : Nat} {cs : List V} {K : V → Prop} : loadB n i 0 (.var cs) K = loadCs n i cs K := rfl
theorem zV {n : Option Nat} {i f z : Nat} {els : List (List V)} {K : V → Prop} : loadB n i f (.arr z els) K = ∃ hi : i < els.length, loadCs n f (els[i]'hi) K := rfl
theorem zW {f : Nat} {cs : List V} {K : V → Prop} : loadCs none f cs K = optK cs[f]? K := rfl
theorem zX {m f : Nat} {cs : List V} {K : V → Prop} : loadCs (some m) f cs K = (f + m ≤ cs.length ∧ K (.agg ((cs.drop f).take m))) := rfl
theorem zY {n k i f : Nat} {cs : List V} {K : List Blk → Prop} : storeP bn h n (.ptr k i f) cs K = ((cs.length = n ∧ k ∉ bn) ∧ cs.all isC = true ∧ storeB n i f cs (blk h k) fun b => K (h.set k b)) := rfl
theorem zZ {n f : Nat} {cs old : List V} {K : Blk → Prop} : storeB n 0 f cs (.var old) K = ((f + n ≤ old.length) ∧ K (.var (splice old f cs))) := by
 show ((0 + f + n ≤ old.length) ∧ K (.var (splice old (0 + f) cs))) = _
 rw [vQ]
theorem ka {n i : Nat} {cs old : List V} {K : Blk → Prop} : storeB n i 0 cs (.var old) K = ((i + n ≤ old.length) ∧ K (.var (splice old i cs))) := rfl
theorem kc {n i f z : Nat} {cs : List V} {els : List (List V)} {K : Blk → Prop} : storeB n i f cs (.arr z els) K = ((f + n ≤ z ∧ cs.all isD = true) ∧ ∃ hi : i < els.length, K (.arr z (els.set i (splice (els[i]'hi) f cs)))) := rfl
theorem ke {o k i f : Nat} {K : V → Prop} : fldP o (.ptr k i f) K = K (.ptr k i (f + o)) := rfl
theorem kf {o z i f : Nat} {els : List (List V)} {K : V → Prop} : fldP o (.rp z els i f) K = K (.rp z els i (f + o)) := rfl
theorem kg {z k i m : Nat} {n : Int} {K : V → Prop} : idxP h z n (.sl k i m) K = (arrSz z (blk h k) ∧ (0 ≤ n ∧ n < m) ∧ K (.ptr k (i + n.toNat) 0)) := rfl
theorem kh {z y : Nat} {els : List (List V)} {n : Int} {K : V → Prop} : idxP h z n (.ro y els) K = (y = z ∧ (0 ≤ n ∧ n < els.length) ∧ K (.rp y els n.toNat 0)) := rfl
theorem ki {z y : Nat} {els : List (List V)} {n : Int} {K : V → Prop} : idxP h z n (.bro y els) K = (y = z ∧ (0 ≤ n ∧ n < els.length) ∧ K (.rp y els n.toNat 0)) := rfl
theorem kj {k i n : Nat} {K : V → Prop} : lenP (.sl k i n) K = (n ≤ maxLen → K (.i n)) := rfl
theorem kk {y : Nat} {els : List (List V)} {K : V → Prop} : lenP (.ro y els) K = (els.length ≤ maxLen → K (.i els.length)) := rfl
theorem kn {y : Nat} {els : List (List V)} {K : V → Prop} : lenP (.bro y els) K = (els.length ≤ maxLen → K (.i els.length)) := rfl
theorem ko {t : ByteArray} {K : V → Prop} : lensP (.v (.string t)) K = K (.i t.size) := rfl
theorem kp {vs : List V} {K : List V → Prop} : tupK (.tup vs) K = K vs := rfl
theorem kq {f : FuncId} {cs : List V} {K : FuncId → List V → Prop} : cloK (.clo f cs) K = K f cs := rfl
theorem kr {k i n : Nat} {K : Nat → List (List V) → Prop} : viewK h (.sl k i n) K = viewB (blk h k) i n K := rfl
theorem kv {i n z : Nat} {els : List (List V)} {K : Nat → List (List V) → Prop} : viewB (.arr z els) i n K = (i + n ≤ els.length ∧ K z ((els.drop i).take n)) := rfl
theorem kw {z : Nat} {els : List (List V)} {K : Nat → List (List V) → Prop} : viewK h (.ro z els) K = K z els := rfl
theorem kx {K : Option Int → Prop} : optI none K = K none := rfl
theorem ky {k : IntKind} {n : Int} {K : Option Int → Prop} : optI (some (.v (.int k n))) K = K (some n) := rfl
theorem kz {z y : Nat} {els : List (List V)} {l u : Option Int} {K : V → Prop} : slcP h z (.ro y els) l u none K = (y = z ∧ slcOk els.length l u none ∧ K (.ro y ((els.drop (l.getD 0).toNat).take ((u.getD els.length).toNat - (l.getD 0).toNat)))) := rfl
theorem kA {z : Nat} {els : List (List V)} {K : Bool → Prop} : eqnP (.ro z els) K = ((els ≠ [] → K false) ∧ (els = [] → K true ∧ K false)) := rfl
theorem kB {id sz bytes : Nat} {old new : List (List V)} {K : V → St → Prop} : appNew id sz bytes ⟨e, h, b⟩ old new K = ((old.length + new.length) * bytes ≤ 140737488355328 ∧ freshP h id ∧ K (.sl id 0 (old.length + new.length)) ⟨e, h.set id (.arr sz (old ++ new)), b⟩) := rfl
theorem kC {k i n sz bytes z : Nat} {new els : List (List V)} {K : V → St → Prop} : appB fx bn k i n sz bytes ⟨e, h, b⟩ new (.arr z els) K = ((z = sz ∧ i + n ≤ els.length ∧ (n + new.length) * bytes ≤ 140737488355328) ∧ (k ∉ fx ∧ k ∉ bn) ∧ K (.sl k 0 (n + new.length)) ⟨killE [k] e, (h.map (killB [k])).set k (.arr sz ((els.drop i).take n ++ new)), b⟩) := rfl
theorem kD {k i n id sz bytes : Nat} {new : List (List V)} {K : V → St → Prop} : appP fx bn id sz bytes ⟨e, h, b⟩ (.sl k i n) new K = appB fx bn k i n sz bytes ⟨e, h, b⟩ new (blk h k) K := rfl
theorem kF {id sz bytes : Nat} {new : List (List V)} {K : V → St → Prop} : appP fx bn id sz bytes s (.v (.slice none 0 0)) new K = appNew id sz bytes s [] new K := rfl
theorem kG {id sz bytes z : Nat} {els new : List (List V)} {K : V → St → Prop} : appP fx bn id sz bytes s (.full z els) new K = ((z = sz ∧ new ≠ []) ∧ appNew id sz bytes s els new K) := rfl
theorem kH {t : ByteArray} {K : ByteArray → Prop} : strK (.v (.string t)) K = K t := rfl
theorem kI {t : ByteArray} {l u : Option Int} {K : V → Prop} : sslcP t l u K = (slcOk t.size l u none ∧ K (.v (.string (t.extract (l.getD 0).toNat (u.getD t.size).toNat)))) := rfl
theorem kJ {t u : ByteArray} {K : V → Prop} : sbinP .add t u K = (t.size + u.size ≤ 9223372036854775807 ∧ K (.v (.string (t ++ u)))) := rfl
theorem kK {t u : ByteArray} {K : V → Prop} : sbinP .eql t u K = K (.b (t.toList == u.toList)) := rfl
theorem kL {t u : ByteArray} {K : V → Prop} : sbinP .neq t u K = K (.b (!(t.toList == u.toList))) := rfl
theorem kM {t u : ByteArray} {K : V → Prop} : sbinP .lss t u K = K (.b (Op.bytesLess t.toList u.toList)) := rfl
theorem kN {t u : ByteArray} {K : V → Prop} : sbinP .leq t u K = K (.b (Op.bytesLess t.toList u.toList || t.toList == u.toList)) := rfl
theorem kO {t u : ByteArray} {K : V → Prop} : sbinP .gtr t u K = K (.b (!(Op.bytesLess t.toList u.toList || t.toList == u.toList))) := rfl
section
variable {k : IntKind} {a c : Int} {K : V → Prop}
theorem kP : binInt .add true k a c K = ((lo k ≤ a + c ∧ a + c ≤ hi k) ∧ K (.v (.int k (a + c)))) := rfl
theorem kQ : binInt .sub true k a c K = ((lo k ≤ a - c ∧ a - c ≤ hi k) ∧ K (.v (.int k (a - c)))) := rfl
theorem kR : binInt .mul true k a c K = ((lo k ≤ a * c ∧ a * c ≤ hi k) ∧ K (.v (.int k (a * c)))) := rfl
theorem kS {x : Bool} : binInt .eql x k a c K = K (.b (a == c)) := rfl
theorem kT {x : Bool} : binInt .neq x k a c K = K (.b (a != c)) := rfl
theorem kU {x : Bool} : binInt .lss x k a c K = K (.b (decide (a < c))) := rfl
theorem kV {x : Bool} : binInt .leq x k a c K = K (.b (decide (a ≤ c))) := rfl
theorem kW {x : Bool} : binInt .gtr x k a c K = K (.b (decide (c < a))) := rfl
theorem kX {x : Bool} : binInt .geq x k a c K = K (.b (decide (c ≤ a))) := rfl
end
@[congr] theorem c_slcAP {n : Nat} {x x' : V} {l u m : Option Int} {K : V → Prop} (q : x = x') : slcAP h n x l u m K = slcAP h n x' l u m K := by rw [q]
@[congr] theorem c_slcAB {n k i i' : Nat} {b b' : Blk} {l u m : Option Int} {K : V → Prop} (q : b = b') (q2 : i = i') : slcAB n k i b l u m K = slcAB n k i' b' l u m K := by rw [q, q2]
@[congr] theorem c_peqP {x x' y y' : V} {K : Bool → Prop} (q : x = x') (q2 : y = y') : peqP x y K = peqP x' y' K := by rw [q, q2]
@[congr] theorem c_strK {x x' : V} {K : ByteArray → Prop} (q : x = x') : strK x K = strK x' K := by rw [q]
@[congr] theorem c_sslcP {t t' : ByteArray} {l u : Option Int} {K : V → Prop} (q : t = t') : sslcP t l u K = sslcP t' l u K := by rw [q]
@[congr] theorem c_sbinP {o : BinOp} {t t' u u' : ByteArray} {K : V → Prop} (q : t = t') (q2 : u = u') : sbinP o t u K = sbinP o t' u' K := by rw [q, q2]
@[congr] theorem c_mmP {mx : Bool} {x x' : V} {r r' : List V} {K : V → Prop} (q : x = x') (q2 : r = r') : mmP mx x r K = mmP mx x' r' K := by rw [q, q2]
@[congr] theorem c_clrP {sz : Nat} {z : List Value} {x x' : V} {K : V → St → Prop} (q : x = x') : clrP bn sz z x s K = clrP bn sz z x' s K := by rw [q]
@[congr] theorem c_clrB {k i n sz : Nat} {z : List Value} {b b' : Blk} {K : V → St → Prop} (q : b = b') : clrB bn k i n sz z s b K = clrB bn k i n sz z s b' K := by rw [q]
@[congr] theorem c_keyA {ks : List (Nat × TypeDesc)} {x x' : V} {K : List Value → Prop} (q : x = x') : keyA ks x K = keyA ks x' K := by rw [q]
@[congr] theorem c_lookMA {ks : List (Nat × TypeDesc)} {us : List Value} {z : Value} {ok : Bool} {m m' : V} {K : V → Prop} (q : m = m') : lookMA h ks us z ok m K = lookMA h ks us z ok m' K := by rw [q]
@[congr] theorem c_copyB {k i n sz : Nat} {new : List (List V)} {b b' : Blk} {K : V → St → Prop} (q : b = b') : copyB bn k i n sz s new b K = copyB bn k i n sz s new b' K := by rw [q]
@[congr] theorem c_keyK {kd : TypeDesc} {x x' : V} {K : Value → Prop} (q : x = x') : keyK kd x K = keyK kd x' K := by rw [q]
@[congr] theorem c_mapK {x x' : V} {K : Nat → List (Value × V × Nat) → Nat → Prop} (q : x = x') : mapK h x K = mapK h x' K := by rw [q]
@[congr] theorem c_mapB {x x' : Blk} {K : List (Value × V × Nat) → Nat → Prop} (q : x = x') : mapB x K = mapB x' K := by rw [q]
@[congr] theorem c_lookK {r r' : Option (Option (Nat × V))} {z : Value} {ok : Bool} {K : V → Prop} (q : r = r') : lookK r z ok K = lookK r' z ok K := by rw [q]
@[congr] theorem c_msetK {r r' : Option (Option (Nat × V))} {key key' : Value} {x x' : V} {es es' : List (Value × V × Nat)} {c c' : Nat} {K : Blk → Prop} (q : r = r') (q1 : key = key') (q2 : x = x') (q3 : es = es') (q4 : c = c') : msetK r key x es c K = msetK r' key' x' es' c' K := by rw [q, q1, q2, q3, q4]
@[congr] theorem c_nextK {es es' : List (Value × V × Nat)} {si si' la la' : Nat} {se se' : List Nat} {D : Prop} {K : Value → V → Nat → Prop} (q : es = es') (q1 : si = si') (q2 : se = se') (q3 : la = la') : nextK es si se la D K = nextK es' si' se' la' D K := by rw [q, q1, q2, q3]
@[congr] theorem c_entK {r r' : Option (Value × V × Nat)} {K : V → Prop} (q : r = r') : entK r K = entK r' K := by rw [q]
@[congr] theorem c_itK {x x' : V} {K : Nat → V → Nat → List Nat → Nat → Prop} (q : x = x') : itK h x K = itK h x' K := by rw [q]
@[congr] theorem c_itB {x x' : Blk} {K : V → Nat → List Nat → Nat → Prop} (q : x = x') : itB x K = itB x' K := by rw [q]
@[congr] theorem c_viewB {i n : Nat} {x x' : Blk} {K : Nat → List (List V) → Prop} (q : x = x') : viewB x i n K = viewB x' i n K := by rw [q]
end
section
variable {α : Type} {a : α} {l : List α} {x : α} {y : Nat}
theorem lg0 : (a :: l)[1]? = l[0]? := rfl
theorem zB : (a :: l).set 1 x = a :: l.set 0 x := rfl
theorem zC : (a :: l).drop 1 = l.drop 0 := rfl
theorem zD : (a :: l).take 1 = a :: l.take 0 := rfl
theorem zE : yG 1 x = x :: yG 0 x := rfl
theorem lg1 : (a :: l)[2]? = l[1]? := rfl
theorem zF : (a :: l).set 2 x = a :: l.set 1 x := rfl
theorem zG : (a :: l).drop 2 = l.drop 1 := rfl
theorem zH : (a :: l).take 2 = a :: l.take 1 := rfl
theorem zI : yG 2 x = x :: yG 1 x := rfl
theorem lg2 : (a :: l)[3]? = l[2]? := rfl
theorem zJ : (a :: l).set 3 x = a :: l.set 2 x := rfl
theorem zK : (a :: l).drop 3 = l.drop 2 := rfl
theorem zL : (a :: l).take 3 = a :: l.take 2 := rfl
theorem zM : yG 3 x = x :: yG 2 x := rfl
theorem lg3 : (a :: l)[4]? = l[3]? := rfl
theorem zN : (a :: l).set 4 x = a :: l.set 3 x := rfl
theorem lg4 : (a :: l)[5]? = l[4]? := rfl
theorem zO : (a :: l).set 5 x = a :: l.set 4 x := rfl
theorem zP : yG 0 x = [] := rfl
end
end Go.Fx
namespace Go.Fx
open Go.RowKit
theorem rep_none {ρ : Nat → Loc} {X : Nat → Prop} {w : World} {h : List Blk} (hr : Rep ρ X w h) : Rep (gvLoc ρ fun _ => true) X w [] :=
 ⟨fun j k _ h1 => by simp [gvLoc] at h1, fun k _ => by simp [gvLoc], fun k b hb => by simp at hb, fun b ho => hr.disj b (gv_own ho), fun k h1 => by simp [gvLoc] at h1, hr.xlt⟩
theorem Fn_give {P : Program} {f : FuncId} {args : List V} {mv : List Nat} {R : V → List Blk → Prop} {y : V} (h : Fn P f args [] mv R) (hy : ∀ r hs, R r hs → wk y (gvV (fun _ => true) hs r)) : Fn P f args [] mv (Is y) := by
 intro ρ X w vals h1 h2
 refine Calls.mono (h ρ X w vals h1 h2) ?_
 rintro e w' ⟨val, r, h', ρ', q1, q2, q3, q4, q5, q6⟩
 exact ⟨val, y, [], _, q1, ⟨⟨rfl, rfl⟩, yH _⟩, q3.trans gv_fr, rep_none q4, wk_rep _ _ _ (hy r h' q2.1) (gv_rep q4 _ _ q5), fun k hk => by simp at hk⟩
theorem Fn_ghost {P : Program} {f : FuncId} {args : List V} {mv : List Nat} {R R' : V → List Blk → Prop} (h : Fn P f args [] mv R) (hR : ∀ r hs, R r hs → ∃ r' hs', R' r' hs' ∧ leG [] ⟨[(0, r)], hs, 0⟩ ⟨[(0, r')], hs', 0⟩) : Fn P f args [] mv R' := by
 intro ρ X w vals h1 h2
 refine Calls.mono (h ρ X w vals h1 h2) ?_
 rintro e w' ⟨val, r, h', ρ', q1, q2, q3, q4, q5, q6⟩
 obtain ⟨r', hs', g1, g2⟩ := hR r h' q2.1
 have hg : Good ρ X w [] 1 ⟨[(0, r)], h', 0⟩ ⟨#[val], []⟩ w' := by
  refine ⟨ρ', ⟨⟨q3, fun k hk => by simp at hk⟩, trivial⟩, ⟨q4, fun i => ?_⟩, rfl, Marks.nil⟩
  by_cases hi : i = 0
  ·subst hi; exact q5
  ·have : get [(0, r)] i = .any := by simp [get, hi]
   rw [this]; trivial
 obtain ⟨ρ2, ⟨⟨p1, _⟩, _⟩, ⟨p2, p3⟩, _⟩ := hg.leG g2
 exact ⟨val, r', hs', ρ2, q1, ⟨g1, yI _⟩, p1, p2, p3 0, fun k hk => by simp at hk⟩
end Go.Fx
namespace Go.Fx
open Go.RowKit
section
variable (P : Program)
def C0 : Ctr := fun f xs h0 mv R => Callable P f ∧ Fn P f xs h0 mv R
def I0 : Itr := fun f zas fx k Y h K => Callable P f ∧ Iter P f zas fx k Y h K
def Y0 : Nat → Yt := fun _ _ _ _ => False
def cxN (fx : List Nat) : Cx := ⟨C0 P, fx, [], I0 P, Y0, none⟩
theorem cxN_ok (fx : List Nat) : (cxN P fx).ok P := ⟨fun _ _ _ _ _ h => h, fun _ _ _ _ _ _ _ h => h⟩
def OkN (f : FuncId) (xs : List V) (h0 : List Blk) (mv : List Nat) (R : V → List Blk → Prop) : Prop := C0 P f xs h0 mv R
variable {P}
theorem okN_of (hP : P.follows .mixedOrders = true) {f : FuncId} {l0 l : LCode} {rs : List LRes} {nt : Nat} (fx : List Nat) (hl : rlF P f l0 = some (l, rs, nt)) {args : List V} {h0 : List Blk} {mv : List Nat} {R : V → List Blk → Prop} (hlen : args.length ≤ nt) (hb : keepP fx h0)
  (hfx : ∀ k, k < h0.length → k ∉ mv → k ∈ fx) (h : aw (cxN P fx) l (retP fx h0.length rs R) (fun _ _ => False) (retP fx h0.length rs R) ⟨args0 0 args, h0, 0⟩) : OkN P f args h0 mv R :=
 ⟨rlF_callable hl, Fn_rl hP (cxN_ok P fx) hl hlen hb hfx h⟩
theorem okN_post {f : FuncId} {xs : List V} {h0 : List Blk} {mv : List Nat} {R R' : V → List Blk → Prop} (h : OkN P f xs h0 mv R) (hR : ∀ r h', R r h' → R' r h') : OkN P f xs h0 mv R' := by
 refine ⟨h.1, ?_⟩
 intro ρ X w vals h1 h2
 refine Calls.mono (h.2 ρ X w vals h1 h2) ?_
 rintro e w' ⟨val, r, h', ρ', q1, q2, q3, q4, q5, q6⟩
 exact ⟨val, r, h', ρ', q1, ⟨hR r h' q2.1, q2.2⟩, q3, q4, q5, q6⟩
theorem okN_ghost {f : FuncId} {xs : List V} {R R' : V → List Blk → Prop} (h : OkN P f xs [] [] R) (hR : ∀ r hs, R r hs → ∃ r' hs', R' r' hs' ∧ leG [] ⟨[(0, r)], hs, 0⟩ ⟨[(0, r')], hs', 0⟩) : OkN P f xs [] [] R' := ⟨h.1, Fn_ghost h.2 hR⟩
end
def IsA (x : V) (h0 : List Blk) : V → List Blk → Prop := fun r h => r = x ∧ h = h0
theorem retP_isA {fx : List Nat} {n : Nat} {e : Env} {h : List Blk} {b : Nat} {rs : List LRes} {x : V} {h0 : List Blk} : retP fx n rs (IsA x h0) ⟨e, h, b⟩ = resP h e rs [] fun xs => (leH h h0 ∧ keepP fx h0 ∧ n ≤ h0.length ∧ wfV h0 (tupV xs) ∧ wfB h0 h0) ∧ tupV xs = x := by
 rw [retP_eq]
 congr 1
 funext xs
 apply propext
 constructor
 ·rintro ⟨p, h1, h2, rfl⟩
  exact ⟨h1, h2⟩
 ·rintro ⟨h1, h2⟩
  exact ⟨h0, h1, h2, rfl⟩
def IsQ {G : Type} (Q : G → Prop) (x : G → V) (h0 : G → List Blk) : V → List Blk → Prop := fun r h => ∃ g, Q g ∧ r = x g ∧ h = h0 g
section
variable {cx : Cx} {f : FuncId} {args : List V} {e : Env} {h : List Blk} {b : Nat} {K : V → St → Prop}
theorem call_is {xs : List V} {x : V} (hC : cx.C f xs [] [] (Is x)) (h1 : lendsOk h (fun _ => none) args ∧ wkL xs (lends h (fun _ => none) args)) (hx : ren (fun j => some (h.length + j)) x = x) (keep : keepP cx.fx h) (h3 : K x ⟨e, h, b⟩) : callP cx f args ⟨e, h, b⟩ K := by
 refine callP_pure xs (Is x) h1 hC ?_
 rintro r h' ⟨rfl, rfl⟩
 simp only [vR, vF]
 exact ⟨keep, by rw [hx]; exact h3⟩
theorem call_isA (xs : List V) (x x' : V) (h0 h0' : List Blk) (hC : cx.C f xs [] [] (IsA x h0)) (h1 : lendsOk h (fun _ => none) args ∧ wkL xs (lends h (fun _ => none) args))
  (hx : ren (fun j => some (h.length + j)) x = x') (hh : h0.map (renB (fun j => some (h.length + j))) = h0') (keep : keepP cx.fx (h ++ h0')) (h3 : K x' ⟨e, h ++ h0', b⟩) : callP cx f args ⟨e, h, b⟩ K := by
 refine callP_pure xs (IsA x h0) h1 hC ?_
 rintro r h' ⟨rfl, rfl⟩
 rw [hx, hh]
 exact ⟨keep, h3⟩
theorem call_isN (ι : List Nat) (xs : List V) (x x' : V) (h0 h1 h' : List Blk) (hC : cx.C f xs h0 [] (IsA x h1))
  (hι : ι.Nodup ∧ ∀ k ∈ ι, k < h.length ∧ k ∉ cx.bn) (r0 : ι.map (fun k => renB (pos ι) (blk h k)) = h0) (ha : lendsOk h (pos ι) args ∧ wkL xs (lends h (pos ι) args)) (hlen : ι.length ≤ h1.length)
  (hh : setAll ι (h1.map (renB (back ι h.length))) h = h') (hx : ren (back ι h.length) x = x') (keep : keepP cx.fx h') (h3 : K x' ⟨e, h', b⟩) : callP cx f args ⟨e, h, b⟩ K := by
 have hkb : ∀ l : List Blk, l.map (killB []) = l := killB_nil
 refine ⟨ι, xs, [], IsA x h1, ⟨hι, by simp⟩, ha.1, ha.2, by rw [r0]; exact hC, ?_⟩
 rintro r h2 ⟨rfl, rfl⟩ _
 simp only [List.filterMap_nil, hkb, killE_nil, hh, hx]
 exact ⟨keep, h3⟩
theorem call_isM {G : Type} (Q : G → Prop) (ι mv M : List Nat) (xs : List V) (x : G → V) (h0 : List Blk) (h1 : G → List Blk) (hC : cx.C f xs h0 mv (IsQ Q x h1))
  (hι : ι.Nodup ∧ ∀ k ∈ ι, k < h.length ∧ k ∉ cx.bn) (hM : mv.filterMap (ι[·]?) = M ∧ ∀ j ∈ mv, ∀ k, ι[j]? = some k → k ∉ cx.fx) (r0 : ι.map (fun k => renB (pos ι) (blk h k)) = h0) (ha : lendsOk h (pos ι) args ∧ wkL xs (lends h (pos ι) args))
  (h3 : ∀ g, Q g → keepP cx.fx (setAll ι ((h1 g).map (renB (back ι h.length))) (h.map (killB M))) ∧ K (ren (back ι h.length) (x g)) ⟨killE M e, setAll ι ((h1 g).map (renB (back ι h.length))) (h.map (killB M)), b⟩) : callP cx f args ⟨e, h, b⟩ K := by
 refine ⟨ι, xs, mv, IsQ Q x h1, ⟨hι, hM.2⟩, ha.1, ha.2, by rw [r0]; exact hC, ?_⟩
 rintro r h2 ⟨g, hq, rfl, rfl⟩ _
 rw [hM.1]
 exact h3 g hq
end
end Go.Fx
namespace Go.Fx
open Go.RowKit
theorem okN_ofG {P : Program} (hP : P.follows .mixedOrders = true) {f : FuncId} {l0 l : LCode} {rs : List LRes} {nt : Nat} (fx : List Nat) (hl : rlF P f l0 = some (l, rs, nt)) {args : List V} {h0 : List Blk} {mv : List Nat} {R : V → List Blk → Prop} (hlen : args.length ≤ nt) (hb : keepP fx h0)
  (hfx : ∀ k, k < h0.length → k ∉ mv → k ∈ fx) {s0 : St} (hg : leG fx ⟨args0 0 args, h0, 0⟩ s0) (h : aw (cxN P fx) l (retP fx h0.length rs R) (fun _ _ => False) (retP fx h0.length rs R) s0) : OkN P f args h0 mv R := by
 refine ⟨rlF_callable hl, ?_⟩
 unfold rlF at hl
 split at hl
 ·rename_i fn hf
  split at hl
  ·rename_i c rs' hb' hr ht
   simp only [uB, yY, decide_eq_true_eq] at ht
   cases hm : rlC P fn.ntmps c l0 with
   | none => simp [hm] at hl
   | some l1 =>
    simp only [hm, vS, vT, Prod.mk.injEq] at hl
    obtain ⟨rfl, rfl, rfl⟩ := hl
    intro ρ X w vals hr0 ha
    have hvl := RepL_len ha
    refine (callsIn_wide (n := 0)).1 (callsIn_of_wp_marks hf hb' trivial ?_)
    have hgd : Good ρ X w fx fn.ntmps ⟨args0 0 args, h0, 0⟩ { tmps := vals.toArray ++ Array.replicate (fn.ntmps - vals.toArray.size) undef, defers := [] } w :=
     ⟨ρ, ⟨⟨Fr.refl _ _, fun _ _ => rfl⟩, hb⟩, ⟨hr0, args0_rep ha _⟩, by simp; omega, Marks.nil⟩
    have hend : ∀ s, retP fx h0.length rs' R s → ∀ a w', Good ρ X w fx fn.ntmps s a w' → ∃ v, (results fn a.tmps).run P w' = .ok v w' ∧ ∃ val r h' ρ', Ending.returned v = .returned val ∧ (R r h' ∧ h0.length ≤ h'.length) ∧ Fr ρ w ρ' w' ∧ Rep ρ' X w' h' ∧ RepV ρ' X w' r val ∧
      ∀ k, k < h0.length → k ∉ mv → ρ' k = ρ k := by
     intro s hret a w' hgood
     obtain ⟨ρ', ⟨⟨hf1, hfx1⟩, hk1⟩, ⟨hr1, he1⟩, hN1, hd1⟩ := hgood
     obtain ⟨xs, vs, h5, h6, h7⟩ := resP_run hr1 he1 fn.results.toList rs' [] [] hr trivial hret
     obtain ⟨p, ⟨h8, h9, h10, h11, h12⟩, h13⟩ := h5
     refine ⟨tupU vs, results_run ht.1 h7, _, _, p, dropLoc ρ' p, rfl, ⟨h13, h10⟩, hf1.trans drop_fr, dropRep hr1 h8 h12, ?_, fun k hk hkm => ?_⟩
     ·exact drop_rep _ _ h11 (tup_rep (by simpa using h6))
     ·have hkf := hfx k hk hkm
      rw [live_loc (keepP_get h9 k hkf)]
      exact hfx1 k hkf
    refine aw_sound (P := P) (X := X) (N := fn.ntmps) hP c l0 l1 hm none (cxN P fx) ρ w (cxN_ok P fx) (.inl rfl) trivial (fun k => YOk_none) _ (retP fx h0.length rs' R) (fun _ _ => False) (retP fx h0.length rs' R) ?_ ?_ (fun _ _ _ _ hx _ => hx.elim) ?_ _ _ _ h (hgd.leG hg)
    ·rintro ⟨a, w', val, _, _, _, hq, _⟩
     cases hq
    ·intro s a w' hret hgood
     exact leaves_of (hend s hret) a.defers a w' rfl hgood
    ·intro s a w' hret hgood
     exact leaves_of (hend s hret) a.defers a w' rfl hgood
  ·cases hl
 ·cases hl
end Go.Fx
namespace Go.Fx
open Go.RowKit
end Go.Fx
namespace Go.Fx
open Go.RowKit
section
variable {cx : Cx} {e : Env} {h : List Blk} {b : Nat} {K : V → St → Prop} {Ks : St → Prop} {N R : St → Prop} {X : Nat → St → Prop} {d : Option Nat} {op : LOp}
@[congr] theorem c_aOpsY {l : List LOper} {s s' : St} {Ks : St → Prop} (q : s = s') : aOpsY cx l s Ks = aOpsY cx l s' Ks := by rw [q]
@[congr] theorem c_begRd {k : Nat} {s s' : St} (q : s = s') : begRd k Ks s = begRd k Ks s' := by rw [q]
@[congr] theorem c_endRd {k kE bI : Nat} {t : RS} {y : Bool} {s s' : St} (q : s = s') : endRd k kE bI K y t s = endRd k kE bI K y t s' := by rw [q]
@[congr] theorem c_endLp {k : Nat} {h h' : List Blk} (q : h = h') : endLp k N X R h = endLp k N X R h' := by rw [q]
end
end Go.Fx
namespace Go.Fx.W
open Go Go.Fx Go.Proofs
abbrev S := List UInt8
def sb (l : S) : ByteArray := ⟨l.toArray⟩
abbrev sv (l : S) : V := .v (.string (sb l))
theorem sb_size {l : S} : (sb l).size = l.length := rfl
theorem sb_list {l : S} : (sb l).toList = l := (ByteArray.toList_eq _).trans rfl
theorem sb_get {l : S} {j : Nat} : (sb l)[j]? = l[j]? := by
 by_cases h : j < l.length
 ·rw [yE h]
  exact getElem?_pos (sb l) j h
 ·rw [List.getElem?_eq_none (by omega)]
  exact getElem?_neg (sb l) j h
theorem sb_ex {b : ByteArray} : ∃ l, b = sb l := ⟨b.data.toList, by cases b; simp [sb]⟩
theorem sb_of {b : ByteArray} {l : S} (h : b.data.toList = l) : b = sb l := by subst h; cases b; simp [sb]
theorem sb_app {a b : S} : sb a ++ sb b = sb (a ++ b) := sb_of (by rw [ByteArray.data_append]; simp [sb])
theorem less {a b : S} : Op.bytesLess a b = decide (a < b) := bytesLess_eq a b
structure Vary where
 h : S
 vals : List S
 d : S
 deriving Inhabited
def encS (s : S) : List V := [sv s]
def ss (l : List S) : V := .ro 1 (l.map encS)
def Vary.enc (v : Vary) : List V := [sv v.h, ss v.vals, sv v.d]
structure Hd where
 n : S
 v : S
 deriving Inhabited, DecidableEq
def Hd.enc (x : Hd) : List V := [sv x.n, sv x.v]
def vs (l : List Vary) : V := .ro 3 (l.map Vary.enc)
def hs (l : List Hd) : V := .ro 2 (l.map Hd.enc)
abbrev Ok (f : FuncId) (xs : List V) (R : V → List Blk → Prop) : Prop := OkN Try.prog f xs [] [] R
theorem ok_of {f : FuncId} {l0 l : LCode} {rs : List LRes} {nt : Nat} (hl : rlF Try.prog f l0 = some (l, rs, nt)) {args : List V} {R : V → List Blk → Prop} (hlen : args.length ≤ nt)
  (h : aw (cxN Try.prog []) l (retP [] 0 rs R) (fun _ _ => False) (retP [] 0 rs R) ⟨args0 0 args, [], 0⟩) : Ok f args R :=
 okN_of pol [] hl hlen trivial (fun k hk => by simp at hk) h
theorem encS_0 {s : S} : (encS s)[0]? = some (sv s) := rfl
theorem vr_len {v : Vary} : v.enc.length = 3 := rfl
theorem vr_t {v : Vary} : yA 3 v.enc = v.enc := rfl
theorem vr_0 {v : Vary} : v.enc[0]? = some (sv v.h) := rfl
theorem vr_1 {v : Vary} : v.enc[1]? = some (.ro 1 (v.vals.map encS)) := rfl
theorem vr_2 {v : Vary} : v.enc[2]? = some (sv v.d) := rfl
theorem vr_C {v : Vary} : v.enc.all isC = true := rfl
theorem hd_len {v : Hd} : v.enc.length = 2 := rfl
theorem hd_t {v : Hd} : yA 2 v.enc = v.enc := rfl
theorem hd_0 {v : Hd} : v.enc[0]? = some (sv v.n) := rfl
theorem hd_1 {v : Hd} : v.enc[1]? = some (sv v.v) := rfl
theorem k_nil : Value.string ⟨#[]⟩ = .string (sb []) := rfl
theorem k_amp : Value.string ⟨#[38]⟩ = .string (sb [38]) := rfl
theorem k_eq : Value.string ⟨#[61]⟩ = .string (sb [61]) := rfl
theorem vr_le {v : Vary} : leVs v.enc v.enc = True := eq_true ⟨rfl, rfl, rfl, trivial⟩
theorem vr_wf {H : List Blk} {v : Vary} : wfL H v.enc = True := eq_true ⟨trivial, trivial, trivial, trivial⟩
open And renaming intro → aI
set_option linter.defProp false
def rX := aI (aI (aI (aI (aI (aI (aI (@Bool.and_self) (@Bool.and_true)) (aI (@Bool.false_eq_true) (@Bool.not_false))) (aI (aI (@Bool.not_true) (@yC)) (aI (@List.all_cons.{0}) (@List.all_nil.{0})))) (aI (aI (aI (@vF.{0}) (@List.cons_append.{0})) (aI (@List.drop_nil.{0}) (@List.drop_zero.{0}))) (aI (aI (@yR.{0}) (@vU.{0})) (aI (@uC.{0,0}) (aI (@yK.{0}) (@yS.{0})))))) (aI (aI (aI (aI (@yW.{0,0}) (@vV.{0})) (aI (@vG.{0,0}) (@vR.{0,0}))) (aI (aI (@vH.{0}) (@List.nil_append.{0})) (aI (@uD.{0}) (aI (@List.reverse_cons.{0}) (@List.reverse_nil.{0}))))) (aI (aI (aI (@List.set_cons_zero.{0}) (@List.take_nil.{0})) (aI (@List.take_zero.{0}) (@Nat.add_zero))) (aI (aI (@yH) (@vQ)) (aI (@Option.getD_none.{0}) (aI (@Option.getD_some.{0}) (@Option.map_none.{0,0}))))))) (aI (aI (aI (aI (aI (@vS.{0,0}) (@V.v.injEq)) (aI (@Value.bool.injEq) (@Value.int.injEq))) (aI (aI (@qE) (@qF)) (aI (@qG) (@and_self)))) (aI (aI (aI (@and_true) (@qs)) (aI (@qt) (@qo))) (aI (aI (@qp) (@qq)) (aI (@qr) (aI (@qA) (@qz)))))) (aI (aI (aI (aI (@qC) (@qB)) (aI (@qx) (@qv))) (aI (aI (@qD) (@qy)) (aI (@qu) (aI (@qw) (@qn))))) (aI (aI (aI (@zq) (@zt)) (aI (@zu) (@zn))) (aI (aI (@zo) (@zm)) (aI (@false_or) (aI (@zp) (@zx)))))))) (aI (aI (aI (aI (aI (aI (@zy) (@zr)) (aI (@zC) (@zG))) (aI (aI (@zK) (@zA)) (aI (@lg0) (@lg1)))) (aI (aI (aI (@lg2) (@lg3)) (aI (@lg4) (@zE))) (aI (aI (@zI) (@zM)) (aI (@zP) (aI (@zB) (@zF)))))) (aI (aI (aI (aI (@zJ) (@zN)) (aI (@zO) (@zD))) (aI (aI (@zH) (@zL)) (aI (@not_false_eq_true) (aI (@qK) (@zb))))) (aI (aI (aI (@zg) (@qP)) (aI (@qJ) (@qV))) (aI (aI (@zh) (@zj)) (aI (@qW) (aI (@qX) (@qY))))))) (aI (aI (aI (aI (aI (@zi) (@qN)) (aI (@qT) (@qO))) (aI (aI (@qQ) (@qR)) (aI (@qZ) (@qL)))) (aI (aI (aI (@za) (@qH)) (aI (@qS) (@qI))) (aI (aI (@zf) (@zc)) (aI (@qU) (aI (@zd) (@ze)))))) (aI (aI (aI (aI (@qM) (@or_false)) (aI (@zl) (@zk))) (aI (aI (@qi) (@qc)) (aI (@qd) (aI (@qe) (@qm))))) (aI (aI (aI (@qa) (@qf)) (aI (@qb) (@ql))) (aI (aI (@qh) (@qj)) (aI (@qk) (aI (@zz) (@true_and))))))))
def rY := aI (aI (aI (aI (aI (@kC) (aI (@kB) (@kG))) (aI (@kF) (aI (@kD) (@kP)))) (aI (aI (@kS) (aI (@kX) (@kW))) (aI (aI (@kV) (@kU)) (aI (@kR) (@kT))))) (aI (aI (aI (@kQ) (aI (@zw) (@zv))) (aI (aI (@kq) (@kA)) (aI (@ke) (@kf)))) (aI (aI (@ki) (aI (@kh) (@kg))) (aI (aI (@kn) (@kk)) (aI (@kj) (@ko)))))) (aI (aI (aI (aI (@zV) (aI (@zT) (@zU))) (aI (@zW) (aI (@zX) (@zR)))) (aI (aI (@zS) (aI (@kx) (@ky))) (aI (aI (@zQ) (@kJ)) (aI (@kK) (@kO))))) (aI (aI (aI (@kM) (aI (@kN) (@kL))) (aI (aI (@kz) (@kI)) (aI (@kc) (@zZ)))) (aI (aI (@ka) (aI (@zY) (@kH))) (aI (aI (@kp) (@kv)) (aI (@kw) (@kr))))))
end Go.Fx.W
namespace Go.Proofs
open Go.Shelf
def Try.lays169_ren : Go.Shelf.Ren := ⟨fun | 169 => 63 | n => n, fun | 70 => 79 | 9 => 9 | 0 => 0 | 72 => 82 | 37 => 80 | 127 => 94 | 3 => 3 | 5 => 5 | n => n, fun | n => n⟩
theorem Try.lays169 : Go.Proofs.Lays.n169 Try.prog Try.lays169_ren := {
 mixed := by kernel_rfl
 f169 := Try.func63.trans (congrArg some (by kernel_rfl))
 t0 := Try.underlying0
 a0 := Try.isAgg0
 z0 := Try.sizeOf0
 v0 := Try.zeroValue0
 t3 := Try.underlying3
 a3 := Try.isAgg3
 z3 := Try.sizeOf3
 v3 := Try.zeroValue3
 t9 := Try.underlying9
 a9 := Try.isAgg9
 z9 := Try.sizeOf9
 v9 := Try.zeroValue9
 t37 := Try.underlying80
 a37 := Try.isAgg80
 z37 := Try.sizeOf80
 v37 := Try.zeroValue80
 t70 := Try.underlying79
 a70 := Try.isAgg79
 z70 := Try.sizeOf79
 v70 := Try.zeroValue79
 t72 := Try.underlying82
 a72 := Try.isAgg82
 z72 := Try.sizeOf82
 v72 := Try.zeroValue82
 t127 := Try.underlying94
 a127 := Try.isAgg94
 z127 := Try.sizeOf94
 v127 := Try.zeroValue94 }
theorem Try.Builder_Extra_169 : Builder.Extra Try.prog Try.lays169_ren := {
 sizeBuilder := by kernel_rfl
 liesBuilder := by kernel_rfl
 t5 := Try.underlying5
 a5 := Try.isAgg5
 z5 := Try.sizeOf5
 v5 := Try.zeroValue5
 infoByte := by kernel_rfl
 cellsByte := by kernel_rfl
 sizeByte := by kernel_rfl
 neB5 := by decide }
open Go.RowKit in
theorem Try.Builder_String_any (B b : Nat) (l : List UInt8) (w : World) (h : Lib.IsBuilder 82 5 B b (Lib.byteCells l) w) (hBw : B ≤ w.heap.size) :
  Calls Try.prog 63 #[.pointer (some ⟨b, 0, none⟩)] w fun e w' => e = .returned (.string ⟨l.toArray⟩) ∧ Below B w w' := Any.Builder_String_any Try.lays169 Try.Builder_Extra_169 B b l w h hBw
def Try.lays156_ren : Go.Shelf.Ren := ⟨fun | 156 => 58 | 165 => 71 | 166 => 61 | 169 => 63 | 240 => 74 | 241 => 77 | 276 => 78 | 277 => 90 | n => n, fun | 31 => 24 | 9 => 9 | 3 => 3 | 4 => 4 | 0 => 0 | 20 => 20 | 72 => 82 | 76 => 85 | 70 => 79 | 37 => 80 | 75 => 84 | 127 => 94 | 164 => 98 | 5 => 5 | 80 => 88 | n => n, fun | n => n⟩
theorem Try.lays156 : Go.Proofs.Lays.n156 Try.prog Try.lays156_ren := {
 mixed := by kernel_rfl
 f156 := Try.func58.trans (congrArg some (by kernel_rfl))
 f165 := Try.func71.trans (congrArg some (by kernel_rfl))
 f166 := Try.func61.trans (congrArg some (by kernel_rfl))
 f169 := Try.func63.trans (congrArg some (by kernel_rfl))
 f240 := Try.func74.trans (congrArg some (by kernel_rfl))
 f241 := Try.func77.trans (congrArg some (by kernel_rfl))
 f276 := Try.func78.trans (congrArg some (by kernel_rfl))
 f277 := Try.func90.trans (congrArg some (by kernel_rfl))
 t0 := Try.underlying0
 a0 := Try.isAgg0
 z0 := Try.sizeOf0
 v0 := Try.zeroValue0
 t3 := Try.underlying3
 a3 := Try.isAgg3
 z3 := Try.sizeOf3
 v3 := Try.zeroValue3
 t4 := Try.underlying4
 a4 := Try.isAgg4
 z4 := Try.sizeOf4
 v4 := Try.zeroValue4
 t9 := Try.underlying9
 a9 := Try.isAgg9
 z9 := Try.sizeOf9
 v9 := Try.zeroValue9
 t20 := Try.underlying20
 a20 := Try.isAgg20
 z20 := Try.sizeOf20
 v20 := Try.zeroValue20
 t31 := Try.underlying24
 a31 := Try.isAgg24
 z31 := Try.sizeOf24
 v31 := Try.zeroValue24
 t37 := Try.underlying80
 a37 := Try.isAgg80
 z37 := Try.sizeOf80
 v37 := Try.zeroValue80
 t70 := Try.underlying79
 a70 := Try.isAgg79
 z70 := Try.sizeOf79
 v70 := Try.zeroValue79
 t72 := Try.underlying82
 a72 := Try.isAgg82
 z72 := Try.sizeOf82
 v72 := Try.zeroValue82
 t75 := Try.underlying84
 a75 := Try.isAgg84
 z75 := Try.sizeOf84
 v75 := Try.zeroValue84
 t76 := Try.underlying85
 a76 := Try.isAgg85
 z76 := Try.sizeOf85
 v76 := Try.zeroValue85
 t127 := Try.underlying94
 a127 := Try.isAgg94
 z127 := Try.sizeOf94
 v127 := Try.zeroValue94
 t164 := Try.underlying98
 a164 := Try.isAgg98
 z164 := Try.sizeOf98
 v164 := Try.zeroValue98 }
theorem Try.Builder_Extra_156 : Builder.Extra Try.prog Try.lays156_ren := {
 sizeBuilder := by kernel_rfl
 liesBuilder := by kernel_rfl
 t5 := Try.underlying5
 a5 := Try.isAgg5
 z5 := Try.sizeOf5
 v5 := Try.zeroValue5
 infoByte := by kernel_rfl
 cellsByte := by kernel_rfl
 sizeByte := by kernel_rfl
 neB5 := by decide }
open Go.RowKit in
theorem Try.strings_Join_none (a : Option Addr) (c : Nat) (sep : ByteArray) (w : World) :
  Calls Try.prog 58 #[.slice a 0 c, .string sep] w fun e w' => e = .returned (.string ⟨#[]⟩) ∧ w' = w := Any.strings_Join_none Try.lays156 Try.Builder_Extra_156 a c sep w
open Go.RowKit in
theorem Try.strings_Join (bk o c : Nat) (xs : List ByteArray) (sep : ByteArray) (w : World) (hcells : ∀ (j : Nat) x, xs[j]? = some x → w.cell? ⟨bk, o + j, none⟩ = some (.string x)) (hbk : bk < w.heap.size) (hN : xs.length ≤ 140737488355328) (hcap : xs.length ≤ c) (hlen : (Lib.join (xs.map (·.data.toList)) sep.data.toList).length ≤ 140737488355328) :
  Calls Try.prog 58 #[.slice (some ⟨bk, o, none⟩) xs.length c, .string sep] w fun e w' => e = .returned (.string ⟨(Lib.join (xs.map (·.data.toList)) sep.data.toList).toArray⟩) ∧ Below w.heap.size w w' := Any.strings_Join Try.lays156 Try.Builder_Extra_156 bk o c xs sep w hcells hbk hN hcap hlen
def Try.lays137_ren : Go.Shelf.Ren := ⟨fun | 137 => 39 | 217 => 60 | 266 => 73 | n => n, fun | 9 => 9 | 5 => 5 | 3 => 3 | n => n, fun | n => n⟩
theorem Try.lays137 : Go.Proofs.Lays.n137 Try.prog Try.lays137_ren := {
 mixed := by kernel_rfl
 f137 := Try.func39.trans (congrArg some (by kernel_rfl))
 f217 := Try.func60.trans (congrArg some (by kernel_rfl))
 f266 := Try.func73.trans (congrArg some (by kernel_rfl))
 t3 := Try.underlying3
 a3 := Try.isAgg3
 z3 := Try.sizeOf3
 v3 := Try.zeroValue3
 t5 := Try.underlying5
 a5 := Try.isAgg5
 z5 := Try.sizeOf5
 v5 := Try.zeroValue5
 t9 := Try.underlying9
 a9 := Try.isAgg9
 z9 := Try.sizeOf9
 v9 := Try.zeroValue9 }
open Go.RowKit in
theorem Try.strings_IndexByte (s : ByteArray) (c : Int) (w : World) :
  Calls Try.prog 39 #[.string s, .int .u8 c] w fun e w' => e = .returned (.int .i64 (Lib.indexByte s.data.toList c.toNat.toUInt8)) ∧ w' = w := Any.strings_IndexByte Try.lays137 s c w
def Try.lays190_ren : Go.Shelf.Ren := ⟨fun | 190 => 66 | 125 => 76 | 258 => 75 | 128 => 88 | 129 => 89 | 302 => 79 | 303 => 80 | 304 => 81 | 305 => 82 | 306 => 83 | 307 => 84 | 308 => 85 | 309 => 86 | 310 => 87 | 333 => 91 | 329 => 92 | 330 => 93 | 334 => 94 | 335 => 95 | 336 => 96 | 344 => 97 | n => n, fun | 31 => 24 | 9 => 9 | 3 => 3 | 46 => 97 | 0 => 0 | 51 => 109 | 53 => 111 | 4 => 4 | 183 => 102 | 182 => 101 | 131 => 106 | 5 => 5 | 218 => 113 | 222 => 117 | 228 => 119 | 229 => 120 | n => n, fun | n => n⟩
theorem Try.lays190 : Go.Proofs.Lays.n190 Try.prog Try.lays190_ren := {
 mixed := by kernel_rfl
 f125 := Try.func76.trans (congrArg some (by kernel_rfl))
 f128 := Try.func88.trans (congrArg some (by kernel_rfl))
 f129 := Try.func89.trans (congrArg some (by kernel_rfl))
 f190 := Try.func66.trans (congrArg some (by kernel_rfl))
 f258 := Try.func75.trans (congrArg some (by kernel_rfl))
 f302 := Try.func79.trans (congrArg some (by kernel_rfl))
 f303 := Try.func80.trans (congrArg some (by kernel_rfl))
 f304 := Try.func81.trans (congrArg some (by kernel_rfl))
 f305 := Try.func82.trans (congrArg some (by kernel_rfl))
 f306 := Try.func83.trans (congrArg some (by kernel_rfl))
 f307 := Try.func84.trans (congrArg some (by kernel_rfl))
 f308 := Try.func85.trans (congrArg some (by kernel_rfl))
 f309 := Try.func86.trans (congrArg some (by kernel_rfl))
 f310 := Try.func87.trans (congrArg some (by kernel_rfl))
 f329 := Try.func92.trans (congrArg some (by kernel_rfl))
 f330 := Try.func93.trans (congrArg some (by kernel_rfl))
 f333 := Try.func91.trans (congrArg some (by kernel_rfl))
 f334 := Try.func94.trans (congrArg some (by kernel_rfl))
 f335 := Try.func95.trans (congrArg some (by kernel_rfl))
 f336 := Try.func96.trans (congrArg some (by kernel_rfl))
 f344 := Try.func97.trans (congrArg some (by kernel_rfl))
 t0 := Try.underlying0
 a0 := Try.isAgg0
 z0 := Try.sizeOf0
 v0 := Try.zeroValue0
 t3 := Try.underlying3
 a3 := Try.isAgg3
 z3 := Try.sizeOf3
 v3 := Try.zeroValue3
 t4 := Try.underlying4
 a4 := Try.isAgg4
 z4 := Try.sizeOf4
 v4 := Try.zeroValue4
 t5 := Try.underlying5
 a5 := Try.isAgg5
 z5 := Try.sizeOf5
 v5 := Try.zeroValue5
 t9 := Try.underlying9
 a9 := Try.isAgg9
 z9 := Try.sizeOf9
 v9 := Try.zeroValue9
 t31 := Try.underlying24
 a31 := Try.isAgg24
 z31 := Try.sizeOf24
 v31 := Try.zeroValue24
 t46 := Try.underlying97
 a46 := Try.isAgg97
 z46 := Try.sizeOf97
 v46 := Try.zeroValue97
 t51 := Try.underlying109
 a51 := Try.isAgg109
 z51 := Try.sizeOf109
 v51 := Try.zeroValue109
 t53 := Try.underlying111
 a53 := Try.isAgg111
 z53 := Try.sizeOf111
 v53 := Try.zeroValue111
 t131 := Try.underlying106
 a131 := Try.isAgg106
 z131 := Try.sizeOf106
 v131 := Try.zeroValue106
 t182 := Try.underlying101
 a182 := Try.isAgg101
 z182 := Try.sizeOf101
 v182 := Try.zeroValue101
 t183 := Try.underlying102
 a183 := Try.isAgg102
 z183 := Try.sizeOf102
 v183 := Try.zeroValue102
 t218 := Try.underlying113
 a218 := Try.isAgg113
 z218 := Try.sizeOf113
 v218 := Try.zeroValue113
 t222 := Try.underlying117
 a222 := Try.isAgg117
 z222 := Try.sizeOf117
 v222 := Try.zeroValue117
 t228 := Try.underlying119
 a228 := Try.isAgg119
 z228 := Try.sizeOf119
 v228 := Try.zeroValue119
 t229 := Try.underlying120
 a229 := Try.isAgg120
 z229 := Try.sizeOf120
 v229 := Try.zeroValue120 }
open Go.Sort Go.RowKit in
theorem Try.slices_Sort_string (blk off cap : Nat) (ss : List (List UInt8)) (w : World) (hH : Holds encStr w blk off ss.toArray) (hblk : blk < w.heap.size) (hsz : ss.length < 4611686018427387904) :
  Calls Try.prog 66 #[.slice (some ⟨blk, off, none⟩) ss.length cap] w fun e w' =>
   e = .returned (.tuple #[]) ∧ ∃ n os, w' = grow (putRow encStr (Sort.ahead w n) blk off (ss.mergeSort fun x y => decide (x ≤ y)).toArray) os := Any.slices_Sort_string Try.lays190 blk off cap ss w hH hblk hsz
def Try.lays194_ren : Go.Shelf.Ren := ⟨fun | 194 => 67 | n => n, fun | 31 => 24 | 9 => 9 | 3 => 3 | 4 => 4 | 0 => 0 | n => n, fun | n => n⟩
theorem Try.lays194 : Go.Proofs.Lays.n194 Try.prog Try.lays194_ren := {
 mixed := by kernel_rfl
 f194 := Try.func67.trans (congrArg some (by kernel_rfl))
 t0 := Try.underlying0
 a0 := Try.isAgg0
 z0 := Try.sizeOf0
 v0 := Try.zeroValue0
 t3 := Try.underlying3
 a3 := Try.isAgg3
 z3 := Try.sizeOf3
 v3 := Try.zeroValue3
 t4 := Try.underlying4
 a4 := Try.isAgg4
 z4 := Try.sizeOf4
 v4 := Try.zeroValue4
 t9 := Try.underlying9
 a9 := Try.isAgg9
 z9 := Try.sizeOf9
 v9 := Try.zeroValue9
 t31 := Try.underlying24
 a31 := Try.isAgg24
 z31 := Try.sizeOf24
 v31 := Try.zeroValue24 }
open Go.RowKit Go.Lib Go.Sort in
theorem Try.slices_Compact_string (blk off cap : Nat) (zs : List (List UInt8)) (w : World) (hH : Holds encStr w blk off zs.toArray) (hsz : zs.length ≤ 9223372036854775807) (hcap : zs.length ≤ cap) :
  Calls Try.prog 67 #[.slice (some ⟨blk, off, none⟩) zs.length cap] w fun e w' => e = .returned (.slice (some ⟨blk, off, none⟩) (Lib.compact zs).length cap) ∧ ∃ q, w' = putRow encStr (Sort.ahead w q) blk off (Lib.compact zs ++ yG (zs.length - (Lib.compact zs).length) []).toArray := Any.slices_Compact_string Try.lays194 blk off cap zs w hH hsz hcap
open Go.RowKit Go.Lib Go.Sort in
theorem Try.slices_Compact_string_empty (a : Option Addr) (cap : Nat) (w : World) :
  Calls Try.prog 67 #[.slice a 0 cap] w fun e w' => e = .returned (.slice a 0 cap) ∧ w' = w := Any.slices_Compact_string_empty Try.lays194 a cap w
open Go.RowKit Go.Sort in
theorem Try.slices_Sort_string_none (p : Option Addr) (cap : Nat) (w : World) :
  Calls Try.prog 66 #[.slice p 0 cap] w fun e w' => e = .returned (.tuple #[]) ∧ w' = w := Any.slices_Sort_string_none Try.lays190 p cap w
def Try.lays166_ren : Go.Shelf.Ren := ⟨fun | 156 => 58 | 165 => 71 | 166 => 61 | 169 => 63 | 240 => 74 | 241 => 77 | 276 => 78 | 277 => 90 | n => n, fun | 31 => 24 | 9 => 9 | 3 => 3 | 4 => 4 | 0 => 0 | 20 => 20 | 72 => 82 | 76 => 85 | 70 => 79 | 37 => 80 | 75 => 84 | 127 => 94 | 164 => 98 | 5 => 5 | 80 => 88 | n => n, fun | n => n⟩
theorem Try.lays166 : Go.Proofs.Lays.n166 Try.prog Try.lays166_ren := {
 mixed := by kernel_rfl
 f166 := Try.func61.trans (congrArg some (by kernel_rfl))
 f240 := Try.func74.trans (congrArg some (by kernel_rfl))
 f276 := Try.func78.trans (congrArg some (by kernel_rfl))
 t0 := Try.underlying0
 a0 := Try.isAgg0
 z0 := Try.sizeOf0
 v0 := Try.zeroValue0
 t3 := Try.underlying3
 a3 := Try.isAgg3
 z3 := Try.sizeOf3
 v3 := Try.zeroValue3
 t4 := Try.underlying4
 a4 := Try.isAgg4
 z4 := Try.sizeOf4
 v4 := Try.zeroValue4
 t9 := Try.underlying9
 a9 := Try.isAgg9
 z9 := Try.sizeOf9
 v9 := Try.zeroValue9
 t20 := Try.underlying20
 a20 := Try.isAgg20
 z20 := Try.sizeOf20
 v20 := Try.zeroValue20
 t37 := Try.underlying80
 a37 := Try.isAgg80
 z37 := Try.sizeOf80
 v37 := Try.zeroValue80
 t70 := Try.underlying79
 a70 := Try.isAgg79
 z70 := Try.sizeOf79
 v70 := Try.zeroValue79
 t72 := Try.underlying82
 a72 := Try.isAgg82
 z72 := Try.sizeOf82
 v72 := Try.zeroValue82
 t75 := Try.underlying84
 a75 := Try.isAgg84
 z75 := Try.sizeOf84
 v75 := Try.zeroValue84
 t164 := Try.underlying98
 a164 := Try.isAgg98
 z164 := Try.sizeOf98
 v164 := Try.zeroValue98 }
theorem Try.Builder_Extra_166 : Builder.Extra Try.prog Try.lays166_ren := {
 sizeBuilder := by kernel_rfl
 liesBuilder := by kernel_rfl
 t5 := Try.underlying5
 a5 := Try.isAgg5
 z5 := Try.sizeOf5
 v5 := Try.zeroValue5
 infoByte := by kernel_rfl
 cellsByte := by kernel_rfl
 sizeByte := by kernel_rfl
 neB5 := by decide }
def Try.lays167_ren : Go.Shelf.Ren := ⟨fun | 167 => 62 | 156 => 58 | 165 => 71 | 166 => 61 | 169 => 63 | 240 => 74 | 241 => 77 | 276 => 78 | 277 => 90 | n => n, fun | 31 => 24 | 9 => 9 | 3 => 3 | 4 => 4 | 0 => 0 | 20 => 20 | 72 => 82 | 76 => 85 | 70 => 79 | 37 => 80 | 75 => 84 | 127 => 94 | 164 => 98 | 5 => 5 | 80 => 88 | n => n, fun | n => n⟩
theorem Try.lays167 : Go.Proofs.Lays.n167 Try.prog Try.lays167_ren := {
 t5 := Try.underlying5
 a5 := Try.isAgg5
 z5 := Try.sizeOf5
 v5 := Try.zeroValue5
 mixed := by kernel_rfl
 f167 := Try.func62.trans (congrArg some (by kernel_rfl))
 f240 := Try.func74.trans (congrArg some (by kernel_rfl))
 f276 := Try.func78.trans (congrArg some (by kernel_rfl))
 t0 := Try.underlying0
 a0 := Try.isAgg0
 z0 := Try.sizeOf0
 v0 := Try.zeroValue0
 t4 := Try.underlying4
 a4 := Try.isAgg4
 z4 := Try.sizeOf4
 v4 := Try.zeroValue4
 t9 := Try.underlying9
 a9 := Try.isAgg9
 z9 := Try.sizeOf9
 v9 := Try.zeroValue9
 t20 := Try.underlying20
 a20 := Try.isAgg20
 z20 := Try.sizeOf20
 v20 := Try.zeroValue20
 t37 := Try.underlying80
 a37 := Try.isAgg80
 z37 := Try.sizeOf80
 v37 := Try.zeroValue80
 t70 := Try.underlying79
 a70 := Try.isAgg79
 z70 := Try.sizeOf79
 v70 := Try.zeroValue79
 t72 := Try.underlying82
 a72 := Try.isAgg82
 z72 := Try.sizeOf82
 v72 := Try.zeroValue82
 t75 := Try.underlying84
 a75 := Try.isAgg84
 z75 := Try.sizeOf84
 v75 := Try.zeroValue84
 t164 := Try.underlying98
 a164 := Try.isAgg98
 z164 := Try.sizeOf98
 v164 := Try.zeroValue98 }
theorem Try.Builder_Extra_167 : Builder.Extra Try.prog Try.lays167_ren := {
 sizeBuilder := by kernel_rfl
 liesBuilder := by kernel_rfl
 t5 := Try.underlying5
 a5 := Try.isAgg5
 z5 := Try.sizeOf5
 v5 := Try.zeroValue5
 infoByte := by kernel_rfl
 cellsByte := by kernel_rfl
 sizeByte := by kernel_rfl
 neB5 := by decide }
open Go.RowKit in
theorem Try.Builder_WriteByte (B b : Nat) (bs : List Value) (c : Int) (w : World) (h : Lib.IsBuilder 82 5 B b bs w) (hlen : bs.length + 1 ≤ 140737488355328) (hBw : B ≤ w.heap.size) :
  Calls Try.prog 62 #[.pointer (some ⟨b, 0, none⟩), .int .u8 c] w fun e w' => e = .returned .nilIface ∧ (Lib.BuilderAt 82 5 B b (.pointer (some ⟨b, 0, none⟩)) (bs ++ [.int .u8 c]) w' ∧ Below B w w') := Any.Builder_WriteByte Try.lays167 Try.Builder_Extra_167 B b bs c w h hlen hBw
open Go.RowKit in
theorem Try.Builder_WriteString (B b : Nat) (bs : List Value) (s : ByteArray) (w : World) (h : Lib.IsBuilder 82 5 B b bs w) (hlen : bs.length + s.size ≤ 140737488355328) (hBw : B ≤ w.heap.size) :
  Calls Try.prog 61 #[.pointer (some ⟨b, 0, none⟩), .string s] w fun e w' => e = .returned (.tuple #[.int .i64 s.size, .nilIface]) ∧ (Lib.BuilderAt 82 5 B b (.pointer (some ⟨b, 0, none⟩)) (bs ++ Lib.strCells s) w' ∧ Below B w w') := Any.Builder_WriteString Try.lays166 Try.Builder_Extra_166 B b bs s w h hlen hBw
end Go.Proofs
namespace Go.Fx.W
open Go Go.Proofs Go.RowKit
def escB (b : UInt8) : List UInt8 := if b = 37 then [37, 50, 53] else if b = 38 then [37, 50, 54] else if b = 61 then [37, 51, 100] else [b]
def esc (l : List UInt8) : List UInt8 := l.flatMap escB
theorem esc_len : ∀ l, (esc l).length ≤ 3 * l.length
 | [] => by simp [esc]
 | b :: r => by
  have := esc_len r
  have h : (escB b).length ≤ 3 := by unfold escB; split <;> (try split) <;> (try split) <;> simp
  simp only [esc, List.flatMap_cons, yK, yS] at this ⊢
  omega
theorem esc_app (a b : List UInt8) : esc (a ++ b) = esc a ++ esc b := yZ
set_option maxHeartbeats 4000000 in
set_option maxRecDepth 1000000 in
theorem esc_walk (s : ByteArray) (w : World) (hs : s.size ≤ 1099511627776) :
  Calls Try.prog 43 #[.string s] w fun e w' => e = .returned (.string ⟨(esc s.data.toList).toArray⟩) ∧ Below w.heap.size w w' := by
 go_enter Try.func43, Try.ntmps43
 go_wp2
 go_loopw [7] (fun i wr => ∃ k : Nat, i = .int .i64 k ∧ k ≤ s.size ∧ Lib.IsBuilder 82 5 w.heap.size w.heap.size (Lib.byteCells (esc (s.data.toList.take k))) wr ∧ Below w.heap.size w wr) (fun i _ => s.size - (Go.RowKit.intOf i).toNat)
 case atStart => exact ⟨0, rfl, yI _, Lib.fresh_isBuilder 82 5 w, (Below.refl _ w).alloc (yH _) _⟩
 case round =>
  obtain ⟨k, rfl, hk, hI, hbw⟩ := hrel
  have hsz : w.heap.size ≤ wr.heap.size := hbw.size
  have hlen : (Lib.byteCells (esc (s.data.toList.take k))).length ≤ 3 * k := by
   rw [Lib.byteCells_length]
   refine vW (esc_len _) ?_
   have : (s.data.toList.take k).length ≤ k := by rw [yP]; exact Nat.min_le_left _ _
   omega
  by_cases hp : k < s.size
  ·have hnx : esc (s.data.toList.take (k + 1)) = esc (s.data.toList.take k) ++ escB s[k] := by
    have h1 : s.data.toList.take (k + 1) = s.data.toList.take k ++ [s[k]] := by
     rw [yM, yE (show k < s.data.toList.length from hp)]; rfl
    rw [h1, esc_app]; simp [esc]
   by_cases c1 : s[k].toNat = 37
   ·have hB : escB s[k] = [37, 50, 53] := by unfold escB; rw [if_pos (UInt8.toNat_inj.1 c1)]
    go_wp2_with (go_at_call 61; refine (Try.Builder_WriteString _ _ _ _ _ hI (by show _ + 3 ≤ _; omega) hsz).mono ?_)
    rintro e W1 ⟨rfl, h1, b1⟩
    go_wp2
    go_roundw
    case rel => exact ⟨k + 1, by simp, by omega, .inr (by rw [hnx, hB, Lib.byteCells_append]; exact h1), hbw.trans b1⟩
    case measure => simp only [Go.RowKit.intOf]; omega
   by_cases c2 : s[k].toNat = 38
   ·have hB : escB s[k] = [37, 50, 54] := by unfold escB; rw [if_neg (fun h => c1 (by rw [h]; rfl)), if_pos (UInt8.toNat_inj.1 c2)]
    go_wp2_with (go_at_call 61; refine (Try.Builder_WriteString _ _ _ _ _ hI (by show _ + 3 ≤ _; omega) hsz).mono ?_)
    rintro e W1 ⟨rfl, h1, b1⟩
    go_wp2
    go_roundw
    case rel => exact ⟨k + 1, by simp, by omega, .inr (by rw [hnx, hB, Lib.byteCells_append]; exact h1), hbw.trans b1⟩
    case measure => simp only [Go.RowKit.intOf]; omega
   by_cases c3 : s[k].toNat = 61
   ·have hB : escB s[k] = [37, 51, 100] := by unfold escB; rw [if_neg (fun h => c1 (by rw [h]; rfl)), if_neg (fun h => c2 (by rw [h]; rfl)), if_pos (UInt8.toNat_inj.1 c3)]
    go_wp2_with (go_at_call 61; refine (Try.Builder_WriteString _ _ _ _ _ hI (by show _ + 3 ≤ _; omega) hsz).mono ?_)
    rintro e W1 ⟨rfl, h1, b1⟩
    go_wp2
    go_roundw
    case rel => exact ⟨k + 1, by simp, by omega, .inr (by rw [hnx, hB, Lib.byteCells_append]; exact h1), hbw.trans b1⟩
    case measure => simp only [Go.RowKit.intOf]; omega
   ·have hB : escB s[k] = [s[k]] := by unfold escB; rw [if_neg (fun h => c1 (by rw [h]; rfl)), if_neg (fun h => c2 (by rw [h]; rfl)), if_neg (fun h => c3 (by rw [h]; rfl))]
    go_wp2_with (go_at_call 62; refine (Try.Builder_WriteByte _ _ _ _ _ hI (by omega) hsz).mono ?_)
    rintro e W1 ⟨rfl, h1, b1⟩
    go_wp2
    go_roundw
    case rel => exact ⟨k + 1, by simp, by omega, .inr (by rw [hnx, hB, Lib.byteCells_append]; exact h1), hbw.trans b1⟩
    case measure => simp only [Go.RowKit.intOf]; omega
  ·have hks : s.data.toList.take k = s.data.toList := yD (by show s.size ≤ k; omega)
   rw [hks] at hI
   go_wp2_with (go_at_call 63; refine (Try.Builder_String_any _ _ _ _ hI hsz).mono ?_)
   rintro e W1 ⟨rfl, b1⟩
   go_wp2
   go_ret
   exact ⟨rfl, hbw.trans b1⟩
end Go.Fx.W
namespace Go.Fx.W
open Go Go.Fx Go.Proofs Go.RowKit
theorem cal {f : FuncId} {fn : Func} (h : Try.prog.funcs[f]? = some fn) (h1 : (fn.name == "runtime.NumGoroutine") = false) (h2 : fn.body.isNone = false) : Callable Try.prog f := ⟨fn, h, h1, h2⟩
theorem fr_below {w w' : World} {ρ : Nat → Loc} {X : Nat → Prop} (hr : Rep ρ X w []) (h : Below w.heap.size w w') : Fr ρ w ρ w' := ⟨h.os, h.tape, h.output, h.size, fun b hb ho => ⟨h.block b hb, ho⟩⟩
theorem rep_below {w w' : World} {ρ : Nat → Loc} {X : Nat → Prop} (hr : Rep ρ X w []) (h : Below w.heap.size w w') : Rep ρ X w' [] :=
 ⟨hr.inj, hr.out, fun k b hk => by simp at hk, hr.disj, fun k hk => yX (hr.lt k hk) h.size, fun b hb => yX (hr.xlt b hb) h.size⟩
theorem ok43 (s : S) (hs : s.length ≤ 1099511627776) : Ok 43 [sv s] (Is (sv (esc s))) := by
 refine ⟨cal Try.func43 (by kernel_rfl) (by kernel_rfl), ?_⟩
 intro ρ X w vals hr ha
 match vals, ha with
 | [val], ⟨hv, _⟩ =>
 have : val = .string (sb s) := hv
 subst this
 refine (esc_walk (sb s) w hs).mono ?_
 rintro e w' ⟨rfl, hb⟩
 exact ⟨_, sv (esc s), [], ρ, rfl, ⟨⟨rfl, rfl⟩, yH _⟩, fr_below hr hb, rep_below hr hb, rfl, fun _ _ _ => rfl⟩
theorem ok39 (s : S) (c : Nat) (hc : c ≤ 255) : Ok 39 [sv s, .v (.int .u8 c)] (Is (.i (Lib.indexByte s c.toUInt8))) := by
 refine ⟨cal Try.func39 (by kernel_rfl) (by kernel_rfl), ?_⟩
 intro ρ X w vals hr ha
 match vals, ha with
 | [v1, v2], ⟨hv1, hv2, _⟩ =>
 have : v1 = .string (sb s) := hv1
 subst this
 have : v2 = .int .u8 c := hv2
 subst this
 refine (Try.strings_IndexByte (sb s) c w).mono ?_
 rintro e w' ⟨rfl, rfl⟩
 exact ⟨_, .i (Lib.indexByte s c.toUInt8), [], ρ, rfl, ⟨⟨rfl, rfl⟩, yH _⟩, Fr.refl _ _, hr, rfl, fun _ _ _ => rfl⟩
theorem repEls_s {St : Nat → Prop} {w : World} {b : Nat} : ∀ {l : List S} {off : Nat}, RepEls St w 1 b off (l.map encS) → ∀ j (h : j < l.length), w.cell? ⟨b, off + j, none⟩ = some (.string (sb l[j]))
 | [], _, _, j, h => by simp at h
 | x :: r, off, hr, j, h => by
  obtain ⟨⟨_, ⟨val, h1, h2⟩, _⟩, h3⟩ := hr
  cases j with
  | zero =>
   have : val = .string (sb x) := h2.1
   subst this; exact h1
  | succ j =>
   have := repEls_s h3 j (by simpa using h)
   rw [show off + (j + 1) = off + 1 + j by omega]
   exact this
theorem repEls_os {St : Nat → Prop} {w : World} {b : Nat} : ∀ {l : List S} {off : Nat}, (∀ j (h : j < l.length), w.cell? ⟨b, off + j, none⟩ = some (.string (sb l[j]))) → RepEls St w 1 b off (l.map encS)
 | [], _, _ => trivial
 | x :: r, off, h => ⟨⟨rfl, ⟨_, h 0 (by simp), rfl, rfl⟩, trivial⟩, repEls_os fun j hj => by
   have := h (j + 1) (by simpa using hj)
   rw [show off + 1 + j = off + (j + 1) by omega]
   exact this⟩
def srt (l : List S) : List S := l.mergeSort fun x y => decide (x ≤ y)
theorem srt_len {l : List S} : (srt l).length = l.length := List.length_mergeSort ..
theorem ok66 (l : List S) (hl : l.length < 4611686018427387904) : OkN Try.prog 66 [.sl 0 0 l.length] [.arr 1 (l.map encS)] [] (IsA (.tup []) [.arr 1 ((srt l).map encS)]) := by
 refine ⟨cal Try.func66 (by kernel_rfl) (by kernel_rfl), ?_⟩
 intro ρ X w vals hr ha
 match vals, ha with
 | [val], ⟨hv, _⟩ =>
 obtain ⟨cap, h1, h2, h3⟩ := hv
 rcases h3 with ⟨h4, a, rfl⟩ | ⟨hre, rfl, hroom⟩
 ·have hl0 : l = [] := vI.1 (by omega)
  subst hl0
  refine (Try.slices_Sort_string_none a 0 w).mono ?_
  rintro e w' ⟨rfl, rfl⟩
  exact ⟨_, .tup [], [.arr 1 []], ρ, rfl, ⟨⟨rfl, by simp [srt]⟩, yH _⟩, Fr.refl _ _, hr, ⟨#[], rfl, trivial⟩, fun _ _ _ => rfl⟩
 ·have hb := hr.blk 0 _ rfl
  obtain ⟨⟨hsz, _⟩, hb | ⟨_, c, T, hc, hcs, hlen, hels⟩⟩ := hb
  ·rw [hb.1] at hre; cases hre
  have hoff : (ρ 0).off + 0 * (ρ 0).sz = (ρ 0).off := by omega
  rw [hoff]
  rw [yW] at hlen
  have hg := fun j hj => repEls_s hels j hj
  have hH : Sort.Holds encStr w (ρ 0).blk (ρ 0).off l.toArray := by
   intro j hj
   have hj' : j < l.length := by simpa using hj
   refine ⟨?_, by simp [World.frozen?, hc]⟩
   rw [hg j hj']
   simp [hj']
   rfl
  refine (Try.slices_Sort_string (ρ 0).blk (ρ 0).off cap l w hH (hr.lt 0 hre) hl).mono ?_
  rintro e w' ⟨rfl, n, os, rfl⟩
  have hbl := hr.lt 0 hre
  have hsl : (srt l).length = l.length := srt_len
  have hw1 : (Sort.grow (Sort.putRow encStr (Sort.ahead w n) (ρ 0).blk (ρ 0).off (srt l).toArray) os).heap[(ρ 0).blk]? = some (.cells (Sort.putCells encStr (ρ 0).off (srt l).toArray c) T (0, 0)) := by
   simp only [Sort.grow, Sort.putRow, Sort.mapBlock, Sort.ahead]
   rw [uQ (by simpa using hbl), vX, if_pos rfl, hc]
   rfl
  have hw2 : ∀ b, b < w.heap.size → b ≠ (ρ 0).blk → (Sort.grow (Sort.putRow encStr (Sort.ahead w n) (ρ 0).blk (ρ 0).off (srt l).toArray) os).heap[b]? = w.heap[b]? := by
   intro b hb hne
   simp only [Sort.grow, Sort.putRow, Sort.mapBlock, Sort.ahead]
   rw [uQ (by simpa using hb), vX, if_neg (fun h => hne h.symm)]
  have hsize : w.heap.size ≤ (Sort.grow (Sort.putRow encStr (Sort.ahead w n) (ρ 0).blk (ρ 0).off (srt l).toArray) os).heap.size := by
   simp [Sort.grow, Sort.putRow, Sort.mapBlock, Sort.ahead]
  have hfr : Fr ρ w ρ (Sort.grow (Sort.putRow encStr (Sort.ahead w n) (ρ 0).blk (ρ 0).off (srt l).toArray) os) := ⟨rfl, rfl, rfl, hsize, fun b hb ho => ⟨hw2 b hb fun h => ho ⟨0, hre, h.symm⟩, ho⟩⟩
  have hcell : ∀ j (hj : j < l.length), (Sort.grow (Sort.putRow encStr (Sort.ahead w n) (ρ 0).blk (ρ 0).off (srt l).toArray) os).cell? ⟨(ρ 0).blk, (ρ 0).off + j, none⟩ = some (.string (sb ((srt l)[j]'(by rw [hsl]; exact hj)))) := by
   intro j hj
   have hjc : (ρ 0).off + j < c.size := by rw [hcs]; rw [hsz] at hroom; omega
   simp only [World.cell?, hw1]
   simp [Sort.putCells, hjc, hsl, hj]
   rfl
  refine ⟨_, .tup [], [.arr 1 ((srt l).map encS)], ρ, rfl, ⟨⟨rfl, rfl⟩, yH _⟩, hfr, ⟨hr.inj, hr.out, fun k b hk => ?_, hr.disj, fun k hk => yX (hr.lt k hk) hsize, fun b hb => yX (hr.xlt b hb) hsize⟩, ⟨#[], rfl, trivial⟩, fun _ _ _ => rfl⟩
  cases k with
  | succ k => simp at hk
  | zero =>
   simp only [vU, vT] at hk
   subst hk
   refine ⟨⟨hsz, by omega⟩, .inr ⟨hre, _, T, hw1, by simp [Sort.putCells, hcs], by rw [yW, hsl]; exact hlen, repEls_os fun j hj => ?_⟩⟩
   rw [hsl] at hj
   exact hcell j hj
set_option maxRecDepth 20000
def nameB (b : UInt8) : Bool := decide (97 ≤ b.toNat ∧ b.toNat ≤ 122) || decide (48 ≤ b.toNat ∧ b.toNat ≤ 57) || decide (b.toNat = 45)
def valB (b : UInt8) : Bool := decide (33 ≤ b.toNat ∧ b.toNat ≤ 126)
def wordP (p : UInt8 → Bool) (s : S) : Bool := s.all p && decide (1 ≤ s.length ∧ s.length ≤ 64)
set_option maxRecDepth 20000
def idxI {α : Type} (p : α → Bool) (l : List α) : Int := if l.any p then (l.findIdx p : Nat) else -1
structure NF {α : Type} (p : α → Bool) (l : List α) (k : Nat) : Prop where
 h : ∀ j (h : j < l.length), j < k → p l[j] = false
theorem NF.zero {α : Type} {p : α → Bool} {l : List α} : NF p l 0 := ⟨fun _ _ h => absurd h (vY _)⟩
theorem NF.step {α : Type} {p : α → Bool} {l : List α} {k : Nat} (h : NF p l k) (hk : k < l.length) (hp : p l[k] = false) : NF p l (k + 1) := ⟨fun j hj h2 => by
 by_cases h3 : j = k
 ·subst h3; exact hp
 ·exact h.h j hj (by omega)⟩
theorem NF.at {α : Type} {p : α → Bool} {l : List α} {k : Nat} (h : NF p l k) (hk : k < l.length) (hp : p l[k] = true) : idxI p l = k := by
 have h1 : l.any p = true := by
  rw [yL]; exact ⟨_, yB hk, hp⟩
 have h2 : l.findIdx p = k := by
  rw [List.findIdx_eq hk]
  exact ⟨hp, fun j hj => h.h j (by omega) hj⟩
 simp [idxI, h1, h2]
theorem NF.any {α : Type} {p : α → Bool} {l : List α} {k : Nat} (h : NF p l k) (hk : l.length ≤ k) : l.any p = false := by
 rw [vA]
 intro y hy
 obtain ⟨j, hj, rfl⟩ := yQ hy
 simp [h.h j hj (by omega)]
theorem NF.no {α : Type} {p : α → Bool} {l : List α} {k : Nat} (h : NF p l k) (hk : l.length ≤ k) : idxI p l = -1 := by simp [idxI, h.any hk]
theorem idxI_ge {α : Type} {p : α → Bool} {l : List α} : decide (idxI p l ≥ 0) = l.any p := by
 unfold idxI
 cases h : l.any p <;> simp
theorem idxI_no {α : Type} {p : α → Bool} {l : List α} (h : l.any p = false) : idxI p l = -1 := by simp [idxI, h]
theorem ok64 (l : List S) (s : S) : Ok 64 [ss l, sv s] (Is (.i (idxI (s == ·) l))) := by
 refine ok_of lw64 (by simp) ?_
 unfold c64 ss
 simp -implicitDefEqProofs only [rX,↓rY,ofConst,↓reduceIte,reduceCtorEq,cxN,args0]
 intro hm
 refine loopP_intro (fun k : Nat => ⟨[(8, .i k), (7, .i l.length), (1, sv s), (0, .ro 1 (l.map encS))], [], 0⟩) (fun k => k ≤ l.length ∧ NF (s == ·) l k) (fun k => l.length - k) 0 ⟨by omega, .zero⟩ ?_ ?_
 ·simp -implicitDefEqProofs only [rX,↓reduceIte,Nat.reduceEqDiff,reduceCtorEq,leE,leH,keepP,wfE,wfB,wfV,yF]
 rintro k ⟨hk, hv⟩
 unfold c64l0
 simp -implicitDefEqProofs only [rX,↓rY,ofConst,↓reduceIte,Nat.reduceEqDiff,reduceCtorEq,resP,tupV,leE,leH,keepP,wfE,wfB,wfV,sb_list,encS_0]
 simp only [br, yC, decide_eq_true_eq, decide_eq_false_iff_not]
 refine ⟨fun h => ⟨⟨by omega, h⟩, by omega, fun h2 => ?_, fun h2 => ⟨by simp only [lo, hi, maxLen] at *; omega, k + 1, ⟨⟨by omega, hv.step (by omega) h2⟩, by omega⟩, by simp⟩⟩, fun h => ?_⟩
 ·exact (hv.at (p := (s == ·)) (by omega) h2).symm
 ·exact (hv.no (by omega)).symm
theorem ok46 (l : List S) (s : S) : Ok 46 [ss l, sv s] (Is (.b (l.any (s == ·)))) := by
 refine ok_of lw46 (by simp) ?_
 unfold c46
 simp -implicitDefEqProofs only [rX,ofConst,↓reduceIte,Nat.reduceEqDiff,reduceCtorEq,cxN,args0]
 refine call_is (ok64 l s) ⟨⟨trivial, trivial, trivial⟩, ⟨rfl, rfl⟩, rfl, trivial⟩ rfl trivial ?_
 simp -implicitDefEqProofs only [rX,↓rY,ofConst,↓reduceIte,resP,tupV,wfV]
 exact idxI_ge
theorem ok65 (v : Vary) (s : S) : OkN Try.prog 65 [.agg v.enc, .ptr 0 0 0] [.var [sv s]] [] (IsA (.b (v.h == s)) [.var [sv s]]) := by
 refine okN_of pol [0] lw65 (by simp) ⟨trivial, trivial⟩ (by simp) ?_
 unfold c65
 simp -implicitDefEqProofs only [rX,↓rY,ofConst,cells?,↓reduceIte,Nat.reduceEqDiff,Nat.reduceAdd,reduceCtorEq,freshP,resP,tupV,leH,leB,leV,leVs,keepP,liveP,wfB,wfV,wfL,cxN,sb_list,vr_0,args0,retP_isA]
theorem ok55 (l : List Vary) (s : S) : OkN Try.prog 55 [vs l, .clo 65 [.ptr 0 0 0]] [.var [sv s]] [] (IsA (.i (idxI (fun v => v.h == s) l)) [.var [sv s]]) := by
 refine okN_of pol [0] lw55 (by simp) ⟨trivial, trivial⟩ (by simp) ?_
 unfold c55 vs
 simp -implicitDefEqProofs only [rX,↓rY,ofConst,↓reduceIte,reduceCtorEq,cxN,args0]
 intro hm
 refine loopP_intro (fun k : Nat => ⟨[(8, .i k), (7, .i l.length), (1, .clo 65 [.ptr 0 0 0]), (0, .ro 3 (l.map Vary.enc))], [.var [sv s]], 0⟩) (fun k => k ≤ l.length ∧ NF (fun v => v.h == s) l k) (fun k => l.length - k) 0 ⟨by omega, .zero⟩ ?_ ?_
 ·simp -implicitDefEqProofs only [rX,↓reduceIte,Nat.reduceEqDiff,reduceCtorEq,leE,leH,leB,leV,leVs,keepP,liveP,wfE,wfB,wfV,wfL,yF]
 rintro k ⟨hk, hv⟩
 unfold c55l0
 simp -implicitDefEqProofs only [rX,↓rY,ofConst,↓reduceIte,Nat.reduceEqDiff,reduceCtorEq,vr_len,vr_t]
 simp only [br, yC, decide_eq_true_eq, decide_eq_false_iff_not]
 refine ⟨fun h => ⟨⟨by omega, h⟩, by omega, ?_⟩, fun h => ?_⟩
 ·have hk : k < l.length := by omega
  refine call_isN [0] [.agg l[k].enc, .ptr 0 0 0] (.b (l[k].h == s)) (.b (l[k].h == s)) [.var [sv s]] [.var [sv s]] _ (ok65 l[k] s) ⟨by simp, by simp⟩ rfl ?_ (by simp) rfl rfl ?_ ?_
  ·simp [lendsOk, lendOk, lends, lend, wkL, wk, wkR, pos, Vary.enc, ss]
  ·simp [setAll, keepP, liveP, renB]
  cases hb : l[k].h == s with
  | true =>
   simp -implicitDefEqProofs only [rX,↓rY,↓reduceIte,Nat.reduceEqDiff,resP,tupV,leH,leB,leV,leVs,keepP,liveP,wfB,wfV,wfL,setAll,renB,retP_isA,rens,ren]
   exact (hv.at (p := fun v => v.h == s) hk hb).symm
  | false =>
   simp -implicitDefEqProofs only [rX,↓rY,ofConst,↓reduceIte,Nat.reduceEqDiff,reduceCtorEq,leE,leH,leB,leV,leVs,keepP,liveP,wfE,wfB,wfV,wfL,setAll,renB,rens,ren]
   exact ⟨by simp only [lo, hi, maxLen] at *; omega, k + 1, ⟨⟨by omega, hv.step hk hb⟩, by omega⟩, by simp⟩
 ·simp -implicitDefEqProofs only [rX,↓reduceIte,resP,tupV,leH,leB,leV,leVs,keepP,liveP,wfB,wfV,wfL,retP_isA]
  exact (hv.no (by omega)).symm
theorem ok53 (l : List Vary) (s : S) : Ok 53 [vs l, sv s] (Is (.i (idxI (fun v => v.h == s) l))) := by
 refine ok_of lw53 (by simp) ?_
 unfold c53
 simp -implicitDefEqProofs only [rX,↓rY,ofConst,cells?,↓reduceIte,Nat.reduceEqDiff,reduceCtorEq,freshP,cxN,args0]
 refine call_isN [0] [vs l, .clo 65 [.ptr 0 0 0]] (.i (idxI (fun v : Vary => v.h == s) l)) (.i (idxI (fun v : Vary => v.h == s) l)) [.var [sv s]] [.var [sv s]] _ (ok55 l s) ⟨by simp, by simp⟩ rfl ?_ (by simp) rfl rfl ?_ ?_
 ·simp [lendsOk, lendOk, lends, lend, wkL, wk, wkR, pos, vs]
 ·simp [setAll, keepP, liveP, renB]
 simp -implicitDefEqProofs only [rX,↓reduceIte,resP,tupV,wfV,setAll,renB,rens,ren]
set_option maxRecDepth 20000
structure Vary.Ok (v : Vary) : Prop where
 h : v.h.length ≤ maxLen
 vals : ∀ x ∈ v.vals, x.length ≤ maxLen
 d : v.d.length ≤ maxLen
def valBad (l : List S) (k : Nat) : Bool := !wordP valB (l.getD k []) || (decide (0 < k) && (decide (l.getD k [] < l.getD (k - 1) []) || l.getD k [] == l.getD (k - 1) []))
def valsB (l : List S) : Bool := !(yN l.length).any (valBad l)
def vErr (v : Vary) (e : List Vary) : Int := if wordP nameB v.h = false then 1 else if e.any (fun x => x.h == v.h) then 6 else if (!(v.d == []) && !v.vals.any (v.d == ·)) || !valsB v.vals then 1 else 0
structure VI (l : List S) (k : Nat) : Prop where
 h : ∀ j, j < k → valBad l j = false
theorem VI.all {l : List S} {k : Nat} (h : VI l k) (hk : l.length ≤ k) : valsB l = true := by
 unfold valsB
 have : (yN l.length).any (valBad l) = false := by
  rw [vA]
  intro j hj
  rw [vB] at hj
  simp [h.h j (by omega)]
 rw [this]; rfl
theorem VI.no {l : List S} {k : Nat} (hk : k < l.length) (h : valBad l k = true) : valsB l = false := by
 unfold valsB
 have : (yN l.length).any (valBad l) = true := yL.2 ⟨k, vB.2 hk, h⟩
 rw [this]; rfl
theorem VI.step {l : List S} {k : Nat} (h : VI l k) (hb : valBad l k = false) : VI l (k + 1) := ⟨fun j hj => by
 by_cases h3 : j = k
 ·subst h3; exact hb
 ·exact h.h j (by omega)⟩
theorem vb_of {l : List S} {k : Nat} (hm : l.length ≤ maxLen) (hk : k < l.length) {A B : Prop} (hA : valBad l k = true → A) (hB : valBad l k = false → B) : br (!wordP valB l[k]) A (br (decide ((0 : Int) < (k : Int))) ((lo .i64 ≤ (k : Int) - 1 ∧ (k : Int) - 1 ≤ hi .i64) ∧ (0 ≤ (k : Int) - 1 ∧ (k : Int) - 1 < l.length) ∧ ∃ h : ((k : Int) - 1).toNat < l.length, br (decide (l[k] < l[((k : Int) - 1).toNat]'h) || l[k] == l[((k : Int) - 1).toNat]'h) A B) B) := by
 have g0 : l.getD k [] = l[k] := by rw [yR, yE hk]; rfl
 simp only [br, yY, Bool.not_eq_false', decide_eq_true_eq, decide_eq_false_iff_not]
 refine ⟨fun h1 => hA (by unfold valBad; rw [g0, h1]; rfl), fun h1 => ⟨fun h2 => ⟨by simp only [lo, hi, maxLen] at *; omega, by omega, by omega, ?_⟩, fun h2 => hB ?_⟩⟩
 ·have hk1 : ((k : Int) - 1).toNat = k - 1 := by omega
  have g1 : l.getD (k - 1) [] = l[((k : Int) - 1).toNat]'(by omega) := by
   rw [yR, yE (by omega)]; simp [hk1]
  have hvb : valBad l k = (decide (l[k] < l[((k : Int) - 1).toNat]'(by omega)) || l[k] == l[((k : Int) - 1).toNat]'(by omega)) := by
   unfold valBad
   rw [g0, g1, h1, decide_eq_true (show 0 < k by omega)]
   rfl
  rw [← hvb]
  exact ⟨hA, hB⟩
 ·have : ¬ 0 < k := by omega
  unfold valBad; rw [g0, h1, decide_eq_false this]; rfl
set_option maxRecDepth 20000
def errAt (l : List Vary) (k : Nat) : Int := vErr (l.getD k default) (l.take k)
def firstE (l : List Vary) : Int := (((yN l.length).map (errAt l)).find? (· != 0)).getD 0
def big (l : List Vary) : Bool := decide (8 < l.length) || l.any fun v => decide (16 < v.vals.length)
def chk (l : List Vary) : Int := if big l then 2 else firstE l
structure CI (l : List Vary) (k : Nat) : Prop where
 h : ∀ j, j < k → errAt l j = 0
theorem CI.step {l : List Vary} {k : Nat} (h : CI l k) (hb : errAt l k = 0) : CI l (k + 1) := ⟨fun j hj => by
 by_cases h3 : j = k
 ·subst h3; exact hb
 ·exact h.h j (by omega)⟩
theorem CI.end {l : List Vary} {k : Nat} (h : CI l k) (hk : l.length ≤ k) : firstE l = 0 := by
 have : ((yN l.length).map (errAt l)).find? (· != 0) = none := by
  rw [vC]
  intro x hx
  obtain ⟨j, hj, rfl⟩ := vJ.1 hx
  rw [vB] at hj
  simp [h.h j (by omega)]
 rw [firstE, this]; rfl
theorem find_at {e : Nat → Int} {k : Nat} (hk : e k ≠ 0) : ∀ {n : Nat} (i : Nat), (∀ j, i ≤ j → j < k → e j = 0) → i ≤ k → k < i + n → ((uE i n).map e).find? (· != 0) = some (e k)
 | 0, i, _, h1, h2 => by omega
 | n + 1, i, h, h1, h2 => by
  rw [List.range'_succ, vG, List.find?_cons]
  by_cases hi : i = k
  ·subst hi
   have : (e i != 0) = true := bne_iff_ne.2 hk
   rw [this]
  ·have : (e i != 0) = false := by rw [h i (yH _) (by omega)]; rfl
   rw [this]
   exact find_at hk (i + 1) (fun j h3 h4 => h j (by omega) h4) (by omega) (by omega)
theorem CI.at {l : List Vary} {k : Nat} (h : CI l k) (hk : k < l.length) (he : errAt l k ≠ 0) : firstE l = errAt l k := by
 rw [firstE, uF, find_at (e := errAt l) he 0 (fun j _ hj => h.h j hj) (yI _) (by omega)]; rfl
set_option maxRecDepth 20000
theorem ok33 (s : S) (hm : s.length ≤ maxLen) : Ok 33 [sv s] (Is (.b (wordP nameB s))) := by
 refine ok_of lw33 (by simp) ?_
 unfold c33
 simp -implicitDefEqProofs only [rX,ofConst,cxN,args0]
 refine loopP_intro (fun k : Nat => ⟨[(3, .i k), (0, sv s)], [], 0⟩) (fun k => k ≤ s.length ∧ (s.take k).all nameB = true) (fun k => s.length - k) 0 ⟨by omega, rfl⟩ ?_ ?_
 ·simp -implicitDefEqProofs only [rX,↓reduceIte,reduceCtorEq,leE,leH,keepP,wfE,wfB,wfV,yF]
 rintro k ⟨hk, hv⟩
 unfold c33l0
 simp -implicitDefEqProofs only [rX,↓rY,ofConst,↓reduceIte,Nat.reduceEqDiff,reduceCtorEq,resP,tupV,leE,leH,keepP,wfE,wfB,wfV,sb_size,sb_get]
 simp only [br, yC, decide_eq_true_eq, decide_eq_false_iff_not]
 refine ⟨fun h => ⟨by omega, ?_⟩, fun h => ?_⟩
 ·have hk : k < s.length := by omega
  have htk : s.take (k + 1) = s.take k ++ [s[k]] := by rw [yM, yE hk]; rfl
  rw [yE hk, zQ]
  have hF : nameB s[k] = false → false = wordP nameB s := fun hb => by
   have : s.all nameB = false := by
    rw [List.all_eq_false]
    exact ⟨s[k], yB hk, by simp [hb]⟩
   simp [wordP, this]
  have hT : nameB s[k] = true → (lo IntKind.i64 ≤ (k : Int) + 1 ∧ (k : Int) + 1 ≤ hi IntKind.i64) ∧ ∃ g' : Nat, ((g' ≤ s.length ∧ (s.take g').all nameB = true) ∧ s.length - g' < s.length - k) ∧ (k : Int) + 1 = g' := fun hb =>
   ⟨by simp only [lo, hi, maxLen] at *; omega, k + 1, ⟨⟨by omega, by rw [htk, List.all_append, hv]; simp [hb]⟩, by omega⟩, by simp⟩
  have e45 : (((s[k].toNat : Int) == 45) : Bool) = decide (s[k].toNat = 45) := by rw [vK]; simp; omega
  simp only [e45, yY, Bool.not_eq_false', decide_eq_true_eq, decide_eq_false_iff_not]
  have hF' : ¬((97 ≤ s[k].toNat ∧ s[k].toNat ≤ 122 ∨ 48 ≤ s[k].toNat ∧ s[k].toNat ≤ 57) ∨ s[k].toNat = 45) → false = wordP nameB s := fun h => hF (by rw [Bool.eq_false_iff]; simpa only [nameB, ne_eq, vE, decide_eq_true_eq] using h)
  have hT' := fun h : (97 ≤ s[k].toNat ∧ s[k].toNat ≤ 122 ∨ 48 ≤ s[k].toNat ∧ s[k].toNat ≤ 57) ∨ s[k].toNat = 45 => hT (by simpa only [nameB, vE, decide_eq_true_eq] using h)
  refine ⟨fun a => ⟨fun b => hT' (by omega), fun b => ⟨fun c => ⟨fun d => hT' (by omega), fun d => ⟨fun e => hF' (by omega), fun e => hT' (by omega)⟩⟩, fun c => ⟨fun e => hF' (by omega), fun e => hT' (by omega)⟩⟩⟩, fun a => ⟨fun c => ⟨fun d => hT' (by omega), fun d => ⟨fun e => hF' (by omega), fun e => hT' (by omega)⟩⟩, fun c => ⟨fun e => hF' (by omega), fun e => hT' (by omega)⟩⟩⟩
 ·have hks : s.take k = s := yD (by omega)
  rw [hks] at hv
  simp only [br, decide_eq_true_eq, decide_eq_false_iff_not, wordP, hv, uG]
  refine ⟨fun h1 => ?_, fun h1 => ?_⟩ <;> rw [vK] <;> simp <;> omega
theorem ok35 (s : S) (hm : s.length ≤ maxLen) : Ok 35 [sv s] (Is (.b (wordP valB s))) := by
 refine ok_of lw35 (by simp) ?_
 unfold c35
 simp -implicitDefEqProofs only [rX,ofConst,cxN,args0]
 refine loopP_intro (fun k : Nat => ⟨[(3, .i k), (0, sv s)], [], 0⟩) (fun k => k ≤ s.length ∧ (s.take k).all valB = true) (fun k => s.length - k) 0 ⟨by omega, rfl⟩ ?_ ?_
 ·simp -implicitDefEqProofs only [rX,↓reduceIte,reduceCtorEq,leE,leH,keepP,wfE,wfB,wfV,yF]
 rintro k ⟨hk, hv⟩
 unfold c35l0
 simp -implicitDefEqProofs only [rX,↓rY,ofConst,↓reduceIte,Nat.reduceEqDiff,reduceCtorEq,resP,tupV,leE,leH,keepP,wfE,wfB,wfV,sb_size,sb_get]
 simp only [br, yC, decide_eq_true_eq, decide_eq_false_iff_not]
 refine ⟨fun h => ⟨by omega, ?_⟩, fun h => ?_⟩
 ·have hk : k < s.length := by omega
  have htk : s.take (k + 1) = s.take k ++ [s[k]] := by rw [yM, yE hk]; rfl
  rw [yE hk, zQ]
  have hF : valB s[k] = false → false = wordP valB s := fun hb => by
   have : s.all valB = false := by
    rw [List.all_eq_false]
    exact ⟨s[k], yB hk, by simp [hb]⟩
   simp [wordP, this]
  refine ⟨fun h1 => hF (by simp only [valB, decide_eq_false_iff_not]; omega), fun h1 => ⟨by omega, ?_⟩⟩
  rw [zQ]
  refine ⟨fun h2 => hF (by simp only [valB, decide_eq_false_iff_not]; omega), fun h2 => ?_⟩
  have hb : valB s[k] = true := by simp only [valB, decide_eq_true_eq]; omega
  exact ⟨by simp only [lo, hi, maxLen] at *; omega, k + 1, ⟨⟨by omega, by rw [htk, List.all_append, hv]; simp [hb]⟩, by omega⟩, by simp⟩
 ·have hks : s.take k = s := yD (by omega)
  rw [hks] at hv
  simp only [br, decide_eq_true_eq, decide_eq_false_iff_not, wordP, hv, uG]
  refine ⟨fun h1 => ?_, fun h1 => ?_⟩ <;> rw [vK] <;> simp <;> omega
theorem ok34 (l : List Vary) (s : S) : Ok 34 [vs l, sv s] (Is (.i (idxI (fun v : Vary => v.h == s) l))) := by
 refine ok_of lw34 (by simp) ?_
 unfold c34 vs
 simp -implicitDefEqProofs only [rX,ofConst,cxN,args0]
 refine loopP_intro (fun k : Nat => ⟨[(5, .i k), (1, sv s), (0, vs l)], [], 0⟩) (fun k => k ≤ l.length ∧ NF (fun v => v.h == s) l k) (fun k => l.length - k) 0 ⟨by omega, .zero⟩ ?_ ?_
 ·simp -implicitDefEqProofs only [rX,↓reduceIte,Nat.reduceEqDiff,reduceCtorEq,leE,leH,keepP,wfE,wfB,wfV,yF,vs]
 rintro k ⟨hk, hv⟩
 unfold c34l0 vs
 simp -implicitDefEqProofs only [rX,↓rY,ofConst,↓reduceIte,Nat.reduceEqDiff,reduceCtorEq,resP,tupV,leE,leH,keepP,wfE,wfB,wfV,sb_list,vr_0]
 simp only [br, yC, decide_eq_true_eq, decide_eq_false_iff_not]
 intro hm
 refine ⟨fun h => ⟨⟨by omega, h⟩, by omega, fun h2 => ?_, fun h2 => ⟨by simp only [lo, hi, maxLen] at *; omega, k + 1, ⟨⟨by omega, hv.step (by omega) h2⟩, by omega⟩, by simp⟩⟩, fun h => ?_⟩
 ·exact (hv.at (p := fun v : Vary => v.h == s) (by omega) h2).symm
 ·exact (hv.no (by omega)).symm
theorem ok23 (l : List S) (s : S) : Ok 23 [ss l, sv s] (Is (.b (l.any (s == ·)))) := by
 refine ok_of lw23 (by simp) ?_
 unfold c23 ss
 simp -implicitDefEqProofs only [rX,ofConst,cxN,args0]
 refine loopP_intro (fun k : Nat => ⟨[(5, .i k), (1, sv s), (0, ss l)], [], 0⟩) (fun k => k ≤ l.length ∧ NF (s == ·) l k) (fun k => l.length - k) 0 ⟨by omega, .zero⟩ ?_ ?_
 ·simp -implicitDefEqProofs only [rX,↓reduceIte,Nat.reduceEqDiff,reduceCtorEq,leE,leH,keepP,wfE,wfB,wfV,yF,ss]
 rintro k ⟨hk, hv⟩
 unfold c23l0 ss
 simp -implicitDefEqProofs only [rX,↓rY,ofConst,↓reduceIte,Nat.reduceEqDiff,reduceCtorEq,resP,tupV,leE,leH,keepP,wfE,wfB,wfV,sb_list,encS_0]
 simp only [br, yC, decide_eq_true_eq, decide_eq_false_iff_not]
 intro hm
 refine ⟨fun h => ⟨⟨by omega, h⟩, by omega, fun h2 => ?_, fun h2 => ⟨by simp only [lo, hi, maxLen] at *; omega, k + 1, ⟨⟨by omega, hv.step (by omega) (by rw [Bool.beq_comm]; exact h2)⟩, by omega⟩, by simp⟩⟩, fun h => ?_⟩
 ·exact (yL.2 ⟨l[k]'(by omega), yB _, by rw [Bool.beq_comm]; exact h2⟩).symm
 ·exact (hv.any (by omega)).symm
set_option maxRecDepth 20000
theorem of_lt {l : List Vary} {k : Nat} (hk : k < l.length) : (idxI (fun v : Vary => v.h == l[k].h) l < (k : Int)) ↔ (l.take k).any (fun v => v.h == l[k].h) = true := by
 cases ha : (l.take k).any (fun v => v.h == l[k].h) with
 | false =>
  have hn : NF (fun v : Vary => v.h == l[k].h) l k := ⟨fun j hj h2 => by
   rw [vA] at ha
   have := ha l[j] (uH.2 ⟨j, by omega, rfl⟩)
   simpa using this⟩
  rw [hn.at hk (beq_self_eq_true _)]
  simp
 | true =>
  rw [yL] at ha
  obtain ⟨x, hx, hp⟩ := ha
  obtain ⟨j, hj, rfl⟩ := uH.1 hx
  have hj' : j < k ∧ j < l.length := by omega
  have hany : l.any (fun v => v.h == l[k].h) = true := yL.2 ⟨l[j]'hj'.2, yB _, hp⟩
  have : idxI (fun v : Vary => v.h == l[k].h) l = ((l.findIdx (fun v : Vary => v.h == l[k].h) : Nat) : Int) := by
   rw [idxI, if_pos hany]
  rw [this]
  have h3 : l.findIdx (fun v : Vary => v.h == l[k].h) ≤ j := by
   rcases Nat.lt_or_ge j (l.findIdx (fun v : Vary => v.h == l[k].h)) with h | h
   ·have := uR h
    simp [hp] at this
   ·exact h
  simp; omega
theorem ok11 (l : List Vary) (hl : ∀ v ∈ l, v.Ok) : Ok 11 [vs l] (Is (.i (chk l))) := by
 refine ok_of lw11 (by simp) ?_
 unfold c11 vs
 simp -implicitDefEqProofs only [rX,↓rY,ofConst,↓reduceIte,reduceCtorEq,resP,tupV,wfV,cxN,args0]
 intro hm
 simp only [br, decide_eq_true_eq, decide_eq_false_iff_not]
 refine ⟨fun h1 => ?_, fun h1 => ?_⟩
 ·have : big l = true := by rw [big, decide_eq_true (show 8 < l.length by omega)]; rfl
  rw [chk, if_pos this]
 have h8 : decide (8 < l.length) = false := decide_eq_false (by omega)
 refine loopP_intro (fun k : Nat => ⟨[(3, .i k), (0, vs l)], [], 0⟩) (fun k => k ≤ l.length ∧ NF (fun v : Vary => decide (16 < v.vals.length)) l k) (fun k => l.length - k) 0 ⟨by omega, .zero⟩ ?_ ?_
 ·simp -implicitDefEqProofs only [rX,↓reduceIte,reduceCtorEq,leE,leH,keepP,wfE,wfB,wfV,yF,vs]
 rintro k ⟨hk, hv⟩
 unfold c11l0 vs
 simp -implicitDefEqProofs only [rX,↓rY,ofConst,↓reduceIte,Nat.reduceEqDiff,reduceCtorEq,resP,tupV,leE,leH,keepP,wfE,wfB,wfV,vr_1]
 simp only [br, yC, decide_eq_true_eq, decide_eq_false_iff_not]
 refine fun _ => ⟨fun h => ⟨⟨by omega, h⟩, by omega, fun _ => ⟨fun h2 => ?_, fun h2 => ⟨by simp only [lo, hi, maxLen] at *; omega, k + 1, ⟨⟨by omega, hv.step (by omega) (decide_eq_false (by omega))⟩, by omega⟩, by simp⟩⟩⟩, fun h => ?_⟩
 ·have : big l = true := by
   have ha : l.any (fun v => decide (16 < v.vals.length)) = true := yL.2 ⟨l[k]'(by omega), yB _, decide_eq_true (by omega)⟩
   rw [big, ha, Bool.or_true]
  rw [chk, if_pos this]
 have hbig : big l = false := by rw [big, hv.any (by omega), h8]; rfl
 have hc : chk l = firstE l := by rw [chk, hbig]; rfl
 rw [hc]
 clear hv hk h
 refine loopP_intro (fun k : Nat => ⟨[(4, .i k), (0, vs l)], [], 0⟩) (fun k => k ≤ l.length ∧ CI l k) (fun k => l.length - k) 0 ⟨by omega, ⟨fun j hj => absurd hj (vY _)⟩⟩ ?_ ?_
 ·simp -implicitDefEqProofs only [rX,↓reduceIte,reduceCtorEq,leE,leH,keepP,wfE,wfB,wfV,yF,vs]
 rintro k ⟨hk, hv⟩
 unfold c11l1 vs
 simp -implicitDefEqProofs only [rX,↓rY,ofConst,cells?,splice,↓reduceIte,Nat.reduceEqDiff,Nat.reduceAdd,reduceCtorEq,freshP,resP,tupV,wfV,vr_len,vr_t,vr_0,vr_C,k_nil]
 simp only [br, yC, decide_eq_true_eq, decide_eq_false_iff_not]
 refine fun _ => ⟨fun h => ⟨⟨by omega, h⟩, by omega, ?_⟩, fun h => ?_⟩
 ·have hk : k < l.length := by omega
  have hg : errAt l k = vErr l[k] (l.take k) := by
   rw [errAt, yR, yE hk]; rfl
  have hvo := hl _ (yB hk)
  refine call_is (ok33 l[k].h hvo.h) ⟨⟨trivial, trivial⟩, rfl, trivial⟩ rfl trivial ?_
  simp -implicitDefEqProofs only [rX,↓rY,ofConst,↓reduceIte,Nat.reduceEqDiff,reduceCtorEq,resP,tupV,wfV,vr_0]
  cases hn : wordP nameB l[k].h with
  | false =>
   simp -implicitDefEqProofs only [rX,↓rY]
   have he : errAt l k = 1 := by rw [hg, vErr, if_pos hn]
   rw [hv.at hk (by rw [he]; decide), he]
  | true =>
  simp -implicitDefEqProofs only [rX,↓rY]
  refine call_is (ok34 l l[k].h) ⟨⟨trivial, trivial, trivial⟩, ⟨rfl, rfl⟩, rfl, trivial⟩ rfl trivial ?_
  simp -implicitDefEqProofs only [rX,↓rY,ofConst,↓reduceIte,Nat.reduceEqDiff,resP,tupV,wfV]
  simp only [br, decide_eq_true_eq, decide_eq_false_iff_not, of_lt hk]
  refine ⟨fun ho => ?_, fun ho => ?_⟩
  ·have he : errAt l k = 6 := by rw [hg, vErr, if_neg (by rw [hn]; decide), if_pos ho]
   rw [hv.at hk (by rw [he]; decide), he]
  have ho : (l.take k).any (fun v => v.h == l[k].h) = false := by simpa using ho
  have hg2 : errAt l k = if (!(l[k].d == []) && !l[k].vals.any (l[k].d == ·)) || !valsB l[k].vals then 1 else 0 := by
   rw [hg, vErr, if_neg (by rw [hn]; decide), if_neg (by rw [ho]; decide)]
  generalize hw : l[k] = v at hvo hg2 hn ho
  have e0 : errAt l k ≠ 0 → firstE l = errAt l k := fun he => hv.at hk he
  refine loopP_intro (fun j : Nat => ⟨[(7, .i j), (5, .ptr 0 0 0), (4, .i k), (0, vs l)], [.var v.enc], 0⟩) (fun j => j ≤ v.vals.length ∧ VI v.vals j) (fun j => v.vals.length - j) 0 ⟨by omega, ⟨fun j hj => absurd hj (vY _)⟩⟩ ?_ ?_
  ·simp -implicitDefEqProofs only [rX,↓reduceIte,Nat.reduceEqDiff,reduceCtorEq,leE,leH,leB,keepP,liveP,wfE,wfB,wfV,vr_le,vr_wf,yF,vs]
  rintro j ⟨hj, hvi⟩
  unfold c11l2 vs
  simp -implicitDefEqProofs only [rX,↓rY,ofConst,↓reduceIte,Nat.reduceEqDiff,reduceCtorEq,leE,leH,keepP,wfE,wfB,wfV,sb_size,encS_0,vr_1,vr_2]
  simp only [br, yC, decide_eq_true_eq, decide_eq_false_iff_not]
  refine fun hm2 => ⟨fun h => ⟨⟨by omega, h⟩, by omega, ?_⟩, fun h => ?_⟩
  ·have hj : j < v.vals.length := by omega
   refine call_is (ok35 v.vals[j] (hvo.vals _ (yB hj))) ⟨⟨trivial, trivial⟩, rfl, trivial⟩ rfl trivial ?_
   simp -implicitDefEqProofs only [rX,↓rY,ofConst,↓reduceIte,Nat.reduceEqDiff,reduceCtorEq,resP,tupV,leE,leH,leB,keepP,liveP,wfE,wfB,wfV,sb_list,less,encS_0,vr_1,vr_le,vr_wf]
   have hvb := vb_of hm2 hj (A := (1 : Int) = firstE l) (B := (lo IntKind.i64 ≤ (j : Int) + 1 ∧ (j : Int) + 1 ≤ hi IntKind.i64) ∧ ∃ g' : Nat, ((g' ≤ v.vals.length ∧ VI v.vals g') ∧ v.vals.length - g' < v.vals.length - j) ∧ (j : Int) + 1 = g') (fun hb => ?_) fun hb => ⟨by simp only [lo, hi, maxLen] at *; omega, j + 1, ⟨⟨by omega, hvi.step hb⟩, by omega⟩, by simp⟩
   ·refine ⟨fun a => hvb.1 a, fun a => ⟨fun b => ?_, fun b => (hvb.2 a).2 b⟩⟩
    obtain ⟨q1, q2, q3, q4⟩ := (hvb.2 a).1 b
    exact ⟨⟨by omega, h⟩, by omega, q1, q2, q3, q4⟩
   ·have he : errAt l k = 1 := by rw [hg2, VI.no hj hb, Bool.not_false, Bool.or_true]; rfl
    rw [e0 (by rw [he]; decide), he]
  ·have hva := hvi.all (by omega)
   refine ⟨fun hd => ?_, fun hd => ?_⟩
   ·have hd' : (v.d == []) = false := by
     rw [beq_eq_false_iff_ne]; intro h0; rw [h0] at hd; simp at hd
    refine call_is (ok23 v.vals v.d) ⟨⟨trivial, trivial, trivial⟩, ⟨rfl, rfl⟩, rfl, trivial⟩ rfl trivial ?_
    simp -implicitDefEqProofs only [rX,↓rY,ofConst,↓reduceIte,Nat.reduceEqDiff,reduceCtorEq,resP,tupV,leE,leH,keepP,wfE,wfB,wfV]
    cases ha : v.vals.any (v.d == ·) with
    | false =>
     simp -implicitDefEqProofs only [rX,↓rY]
     have he : errAt l k = 1 := by rw [hg2, hd', ha]; rfl
     rw [e0 (by rw [he]; decide), he]
    | true =>
     simp -implicitDefEqProofs only [rX,↓rY]
     have he : errAt l k = 0 := by rw [hg2, hd', ha, hva]; rfl
     exact ⟨by simp only [lo, hi, maxLen] at *; omega, k + 1, ⟨⟨by omega, hv.step he⟩, by omega⟩, by simp⟩
   ·have hd' : (v.d == []) = true := by
     rw [beq_iff_eq]; exact vI.1 (by omega)
    have he : errAt l k = 0 := by rw [hg2, hd', hva]; rfl
    exact ⟨by simp only [lo, hi, maxLen] at *; omega, k + 1, ⟨⟨by omega, hv.step he⟩, by omega⟩, by simp⟩
 ·exact (hv.end (by omega)).symm
set_option maxRecDepth 20000
abbrev Sane : Prop := Ok 9 [] (Is (.b true))
theorem s9 (hs : Sane) {cx : Cx} {e : Env} {h : List Blk} {b : Nat} {K : V → St → Prop} : cx.C = C0 Try.prog → cx.fx = [] → K (.b true) ⟨e, h, b⟩ → callP cx 9 [] ⟨e, h, b⟩ K := by
 intro hc hf hk
 exact call_is (by rw [hc]; exact hs) (by simp [lendsOk, lends, wkL]) rfl (by rw [hf]; trivial) hk
set_option maxRecDepth 20000
def chs (v : Vary) : List S := if v.d = [] then [] :: v.vals else v.vals
theorem ok41 (v : Vary) (hl : v.vals.length ≤ 16) : Ok 41 [.agg v.enc] (Is (ss (chs v))) := by
 refine ⟨rlF_callable lw41, Fn_give (R := fun q hs => wk (ss (chs v)) (gvV (fun _ => true) hs q)) ?_ fun _ _ h => h⟩
 refine (ok_of lw41 (by simp) ?_).2
 unfold c41
 simp -implicitDefEqProofs only [rX,↓rY,ofConst,cells?,↓reduceIte,Nat.reduceEqDiff,reduceCtorEq,freshP,litsP,killE,killB,kill,St.kill,isD,Nat.reduceLT,cxN,sb_list,vr_1,vr_2,k_nil,args0]
 simp only [br, beq_iff_eq, beq_eq_false_iff_ne, ne_eq]
 refine ⟨fun h => ⟨.inr trivial, by omega, ?_⟩, fun h => ?_⟩
 ·rw [retP_eq]
  simp -implicitDefEqProofs only [rX,↓reduceIte,resP,tupV,keepP,liveP,wfV]
  refine ⟨[.dead, .arr 1 ([sv []] :: v.vals.map encS)], ⟨by simp [leH, leB], by simp [wfV, wfL, liveP], by simp [wfB]⟩, ?_⟩
  have : yA (1 + v.vals.length) ([sv []] :: v.vals.map encS) = [sv []] :: v.vals.map encS := yD (by simp; omega)
  simp [gvV, gvL, wk, wkL, wkR, blk, ss, chs, h, this, encS]
  rw [if_pos (by omega)]
  exact ⟨rfl, rfl⟩
 ·rw [retP_eq]
  simp -implicitDefEqProofs only [rX,↓reduceIte,resP,tupV,keepP,wfV]
  refine ⟨[], ⟨by simp [leH], by simp, by simp [wfB]⟩, ?_⟩
  simp [gvV, gvL, wk, wkL, wkR, blk, ss, chs, h]
end Go.Fx.W
namespace Go.Fx.W
open Go Go.Fx Go.Proofs Go.RowKit
set_option maxRecDepth 20000
theorem ok58A (l : List S) (sep : S) (hl : l.length ≤ 140737488355328) (hj : (Lib.join l sep).length ≤ 140737488355328) : OkN Try.prog 58 [.sl 0 0 l.length, sv sep] [.arr 1 (l.map encS)] [] (IsA (sv (Lib.join l sep)) [.arr 1 (l.map encS)]) := by
 refine ⟨cal Try.func58 (by kernel_rfl) (by kernel_rfl), ?_⟩
 intro ρ X w vals hr ha
 match vals, ha with
 | [val, v2], ⟨hv, hv2, _⟩ =>
 have : v2 = .string (sb sep) := hv2
 subst this
 obtain ⟨cap, h1, h2, h3⟩ := hv
 rcases h3 with ⟨h4, a, rfl⟩ | ⟨hre, rfl, hroom⟩
 ·have hl0 : l = [] := vI.1 (by omega)
  subst hl0
  refine (Try.strings_Join_none a 0 (sb sep) w).mono ?_
  rintro e w' ⟨rfl, rfl⟩
  exact ⟨_, sv [], [.arr 1 []], ρ, rfl, ⟨⟨rfl, rfl⟩, yH _⟩, Fr.refl _ _, hr, rfl, fun _ _ _ => rfl⟩
 ·have hb := hr.blk 0 _ rfl
  obtain ⟨⟨hsz, _⟩, hb | ⟨_, c, T, hc, hcs, hlen, hels⟩⟩ := hb
  ·rw [hb.1] at hre; cases hre
  have hoff : (ρ 0).off + 0 * (ρ 0).sz = (ρ 0).off := by omega
  rw [hoff]
  have hg := fun j hj => repEls_s hels j hj
  have hbl := hr.lt 0 hre
  have hmap : (l.map sb).map (·.data.toList) = l := by rw [List.map_map]; exact List.map_id'' (fun _ => rfl) l
  have hJ := Try.strings_Join (ρ 0).blk (ρ 0).off cap (l.map sb) (sb sep) w (fun j x hx => by
   rw [List.getElem?_map] at hx
   obtain ⟨y, hy, rfl⟩ := Option.map_eq_some_iff.1 hx
   obtain ⟨hlt, rfl⟩ := List.getElem?_eq_some_iff.1 hy
   exact hg j hlt) hbl (by simpa using hl) (by simpa using h1) (by rw [hmap]; exact hj)
  rw [hmap, yW] at hJ
  refine hJ.mono ?_
  rintro e w' ⟨rfl, hB⟩
  refine ⟨_, sv (Lib.join l sep), [.arr 1 (l.map encS)], ρ, rfl, ⟨⟨rfl, rfl⟩, yH _⟩, ⟨hB.os, hB.tape, hB.output, hB.size, fun b hb ho => ⟨hB.block b hb, ho⟩⟩, ⟨hr.inj, hr.out, fun k b hk => ?_, hr.disj, fun k hk => yX (hr.lt k hk) hB.size, fun b hb => yX (hr.xlt b hb) hB.size⟩, rfl, fun _ _ _ => rfl⟩
  cases k with
  | succ k => simp at hk
  | zero =>
   simp only [vU, vT] at hk
   subst hk
   refine ⟨⟨hsz, by omega⟩, .inr ⟨hre, c, T, (hB.block _ hbl).trans hc, hcs, hlen, repEls_os fun j hj => ?_⟩⟩
   rw [hB.cell (p := ⟨(ρ 0).blk, (ρ 0).off + j, none⟩) hbl]
   exact hg j hj
def partS (v : Vary) (x : S) : S := v.h ++ [61] ++ esc x
def partsL (l : List Vary) (xs : List S) : List S := (yN l.length).map fun k => partS (l.getD k default) (xs.getD k [])
def keyL (l : List Vary) (xs : List S) : S := Lib.join (partsL l xs) [38]
structure Small (l : List Vary) (xs : List S) : Prop where
 n : l.length ≤ 8
 e : xs.length = l.length
 h : ∀ v ∈ l, v.h.length ≤ 64
 x : ∀ x ∈ xs, x.length ≤ 64
def fillS (P : List S) (k : Nat) : List S := P.take k ++ yG (P.length - k) []
theorem fillS_len {P : List S} {k : Nat} (hk : k ≤ P.length) : (fillS P k).length = P.length := by simp [fillS]; omega
theorem fillS_0 {P : List S} : fillS P 0 = yG P.length [] := by simp [fillS]
theorem fillS_all {P : List S} : fillS P P.length = P := by simp [fillS]
theorem fillS_set {P : List S} {k : Nat} (hk : k < P.length) : (fillS P k).set k P[k] = fillS P (k + 1) := by
 unfold fillS
 have h1 : (P.take k).length = k := by simp; omega
 rw [List.set_append_right _ _ (by omega), h1, Nat.sub_self, show P.length - k = (P.length - (k + 1)) + 1 by omega, uI, List.set_cons_zero, yM, yE hk]
 simp only [Option.toList_some, vZ, List.singleton_append]
theorem partsL_get {l : List Vary} {xs : List S} {k : Nat} (hk : k < l.length) (hx : k < xs.length) (h : k < (partsL l xs).length) : (partsL l xs)[k] = partS l[k] xs[k] := by
 simp only [partsL, uC, List.getElem_range, yR, yE hk, yE hx, Option.getD_some]
theorem joinTail_len {sep : S} : ∀ {r : List S} {M : Nat}, (∀ x ∈ r, x.length ≤ M) → (Lib.joinTail sep r).length ≤ r.length * (sep.length + M)
 | [], _, _ => by simp [Lib.joinTail]
 | x :: r, M, h => by
  have h1 := h x vD
  have h2 := joinTail_len (sep := sep) (r := r) (M := M) fun y hy => h y (vL _ hy)
  simp only [Lib.joinTail, vG, List.flatten_cons, yK, yS] at h2 ⊢
  rw [uJ]
  omega
theorem join_len {sep : S} {r : List S} {M : Nat} (h : ∀ x ∈ r, x.length ≤ M) : (Lib.join r sep).length ≤ r.length * (sep.length + M) := by
 cases r with
 | nil => simp [Lib.join_nil]
 | cons x r =>
  rw [Lib.join_cons]
  have h1 := h x vD
  have h2 := joinTail_len (sep := sep) (r := r) (M := M) fun y hy => h y (vL _ hy)
  rw [yK, yS, uJ]
  omega
theorem partsL_len {l : List Vary} {xs : List S} : (partsL l xs).length = l.length := by simp [partsL]
theorem ok37 (l : List Vary) (xs : List S) (h : Small l xs) : Ok 37 [vs l, .bro 1 (xs.map encS)] (Is (sv (keyL l xs))) := by
 refine ok_of lw37 (by simp) ?_
 unfold c37 vs
 simp -implicitDefEqProofs only [rX,↓rY,ofConst,↓reduceIte,reduceCtorEq,freshP,cxN,k_nil,k_amp,args0]
 have hn := h.n
 refine fun hm => ⟨⟨by omega, by omega, by omega⟩, fun _ => ?_⟩
 have hP : (partsL l xs).length = l.length := partsL_len
 refine loopP_intro (fun k : Nat => ⟨[(13, .i k), (12, .i l.length), (11, vs l), (5, .sl 0 0 l.length), (0, vs l), (1, .bro 1 (xs.map encS))], [.arr 1 ((fillS (partsL l xs) k).map encS)], 0⟩) (fun k => k ≤ l.length) (fun k => l.length - k) 0 (yI _) ?_ ?_
 ·rw [fillS_0, hP]
  simp -implicitDefEqProofs only [rX,↓reduceIte,Nat.reduceEqDiff,reduceCtorEq,leE,leH,leB,keepP,liveP,wfE,wfB,wfV,yF,vs,List.map_replicate]
  simp [encS]
 rintro k hk
 have hF : (fillS (partsL l xs) k).length = l.length := (fillS_len (by omega)).trans hP
 unfold c37l0 vs
 simp -implicitDefEqProofs only [rX,↓rY,rdK,ofConst,cells?,splice,↓reduceIte,Nat.reduceEqDiff,Nat.reduceAdd,reduceCtorEq,freshP,Nat.reduceLeDiff,sb_size,sb_app,encS_0,vr_len,vr_t,vr_0,vr_C,k_nil,k_eq]
 simp only [br, yC, decide_eq_true_eq, decide_eq_false_iff_not]
 refine ⟨fun hlt => ?_, fun hlt => ?_⟩
 ·have hkl : k < l.length := by omega
  have hkx : k < xs.length := by rw [h.e]; exact hkl
  have hh := h.h _ (yB hkl)
  have hx := h.x _ (yB hkx)
  have hE := esc_len xs[k]
  refine ⟨⟨by omega, hlt⟩, hkl, by omega, ⟨by omega, by omega⟩, hkx, ?_⟩
  refine call_is (ok43 xs[k] (by omega)) ⟨⟨trivial, trivial⟩, rfl, trivial⟩ rfl trivial ?_
  simp -implicitDefEqProofs only [rX,↓rY,ofConst,cells?,splice,↓reduceIte,Nat.reduceEqDiff,arrSz,Nat.reduceAdd,reduceCtorEq,leE,leH,leB,keepP,liveP,wfE,wfB,wfV,isD,isC,sb_size,sb_app,hF]
  have hset : ((fillS (partsL l xs) k).map encS).set k [V.v (Value.string (sb (l[k].h ++ [61] ++ esc xs[k])))] = (fillS (partsL l xs) (k + 1)).map encS := by
   have h1 : k < (partsL l xs).length := by omega
   rw [← fillS_set h1, List.map_set, partsL_get hkl hkx h1]; rfl
  have hd : ∀ x : S, vM 1 (encS x) = [] := fun _ => rfl
  refine ⟨by omega, ⟨by omega, hlt⟩, by omega, ⟨by simp only [lo]; omega, by simp only [hi]; omega⟩, k + 1, ⟨by omega, by omega⟩, by simp, ?_⟩
  rw [hd, hset]
 ·have hkl : k = l.length := by omega
  subst hkl
  have hfa : fillS (partsL l xs) l.length = partsL l xs := by
   have := fillS_all (P := partsL l xs)
   rwa [hP] at this
  rw [hfa]
  have hjl : (Lib.join (partsL l xs) [38]).length ≤ 140737488355328 := by
   have h1 := join_len (sep := [38]) (r := partsL l xs) (M := 300) fun y hy => by
    obtain ⟨j, hj, rfl⟩ := yQ hy
    have hj' : j < l.length := by omega
    have hjx : j < xs.length := by rw [h.e]; exact hj'
    rw [partsL_get hj' hjx hj]
    have g1 := h.h _ (yB hj')
    have g2 := h.x _ (yB hjx)
    have g3 := esc_len xs[j]
    simp only [partS, yK, yS, vV]
    omega
   rw [hP] at h1
   have h2 : l.length * ((([38] : S)).length + 300) ≤ 8 * ((([38] : S)).length + 300) := Nat.mul_le_mul_right _ hn
   simp only [yS, vV] at h2 h1
   omega
  have h58 := ok58A (partsL l xs) [38] (by omega) hjl
  rw [hP] at h58
  refine call_isN [0] [.sl 0 0 l.length, sv [38]] (sv (keyL l xs)) (sv (keyL l xs)) [.arr 1 ((partsL l xs).map encS)] [.arr 1 ((partsL l xs).map encS)] _ h58 ⟨by simp, by simp⟩ rfl ?_ (by simp) rfl rfl ?_ ?_
  ·simp [lendsOk, lendOk, lends, lend, wkL, wk, wkR, pos]
  ·simp [setAll, keepP, liveP, renB]
  simp -implicitDefEqProofs only [rX,↓reduceIte,resP,tupV,wfV,setAll,renB]
def tl : List Vary → List S → S
 | v :: r, x :: xs => 38 :: (partS v x ++ tl r xs)
 | _, _ => []
def tl0 : List Vary → List S → S
 | v :: r, x :: xs => partS v x ++ tl r xs
 | _, _ => []
theorem partsL_cons {v : Vary} {r : List Vary} {x : S} {xs : List S} : partsL (v :: r) (x :: xs) = partS v x :: partsL r xs := by
 simp [partsL, List.range_succ_eq_map, Function.comp_def]
theorem tl_join : ∀ {l : List Vary} {xs : List S}, xs.length = l.length → Lib.joinTail [38] (partsL l xs) = tl l xs
 | [], _, _ => rfl
 | v :: r, x :: xs, h => by
  rw [partsL_cons, tl, ← tl_join (l := r) (xs := xs) (by simpa using h)]
  simp [Lib.joinTail]
theorem keyL_tl {l : List Vary} {xs : List S} (h : xs.length = l.length) : keyL l xs = tl0 l xs := by
 match l, xs with
 | [], _ => simp [keyL, partsL, Lib.join_nil, tl0]
 | v :: r, x :: xs => rw [keyL, partsL_cons, Lib.join_cons, tl_join (by simpa using h)]; rfl
def upTo (s : S) : S := s.takeWhile (· != 38)
def after (s : S) : S := s.dropWhile (· != 38)
def cutP (p s : S) : Option S := if p.isPrefixOf s then some (s.drop p.length) else none
theorem cutP_app {p s : S} : cutP p (p ++ s) = some s := by
 have : p.isPrefixOf (p ++ s) = true := by rw [List.isPrefixOf_iff_prefix]; exact List.prefix_append _ _
 rw [cutP, if_pos this, List.drop_left]
def pick (c : List S) (t : S) : Option S := c.find? fun x => esc x == t
def parseL : Bool → List Vary → S → Option (List S)
 | _, [], s => if s = [] then some [] else none
 | b, v :: r, s => (if b then some s else cutP [38] s).bind fun s1 => (cutP (v.h ++ [61]) s1).bind fun s2 => (pick (chs v) (upTo s2)).bind fun x => (parseL false r (after s2)).map (x :: ·)
theorem escB_ne {b : UInt8} : (38 : UInt8) ∉ escB b := by
 unfold escB
 split
 ·decide
 ·split
  ·decide
  ·split
   ·decide
   ·rename_i h1 h2 h3
    simp only [yT]
    exact fun h => h2 h.symm
theorem esc_ne {s : S} : (38 : UInt8) ∉ esc s := by
 simp only [esc, List.mem_flatMap, not_exists, not_and]
 exact fun _ _ => escB_ne
theorem esc_cons {a : UInt8} {r : S} : esc (a :: r) = escB a ++ esc r := rfl
theorem escB_pos {a : UInt8} : escB a ≠ [] := by
 unfold escB
 split
 ·simp
 ·split
  ·simp
  ·split <;> simp
theorem escB_inj {a b : UInt8} {u v : S} (h : escB a ++ u = escB b ++ v) : a = b ∧ u = v := by
 by_cases a1 : a = 37
 ·subst a1
  have e : escB 37 = [37, 50, 53] := rfl
  rw [e] at h
  unfold escB at h
  split at h
  ·rename_i h1; subst h1; simp at h; exact ⟨rfl, h⟩
  ·split at h
   ·simp at h
   ·split at h
    ·simp at h
    ·rename_i h1 h2 h3
     simp at h
     exact absurd h.1.symm h1
 ·by_cases a2 : a = 38
  ·subst a2
   have e : escB 38 = [37, 50, 54] := rfl
   rw [e] at h
   unfold escB at h
   split at h
   ·simp at h
   ·split at h
    ·rename_i h1; subst h1; simp at h; exact ⟨rfl, h⟩
    ·split at h
     ·simp at h
     ·rename_i h1 h2 h3
      simp at h
      exact absurd h.1.symm h1
  ·by_cases a3 : a = 61
   ·subst a3
    have e : escB 61 = [37, 51, 100] := rfl
    rw [e] at h
    unfold escB at h
    split at h
    ·simp at h
    ·split at h
     ·simp at h
     ·split at h
      ·rename_i h1; subst h1; simp at h; exact ⟨rfl, h⟩
      ·rename_i h1 h2 h3
       simp at h
       exact absurd h.1.symm h1
   ·have e : escB a = [a] := by unfold escB; rw [if_neg a1, if_neg a2, if_neg a3]
    rw [e] at h
    unfold escB at h
    split at h
    ·simp at h; exact absurd h.1 a1
    ·split at h
     ·simp at h; exact absurd h.1 a1
     ·split at h
      ·simp at h; exact absurd h.1 a1
      ·simp at h; exact h
theorem esc_inj : ∀ {a b : S}, esc a = esc b → a = b
 | [], [], _ => rfl
 | [], b :: s, h => by
  rw [esc_cons] at h
  have h : escB b ++ esc s = [] := h.symm
  simp [escB_pos] at h
 | a :: r, [], h => by
  rw [esc_cons] at h
  have h : escB a ++ esc r = [] := h
  simp [escB_pos] at h
 | a :: r, b :: s, h => by
  rw [esc_cons, esc_cons] at h
  obtain ⟨rfl, h2⟩ := escB_inj h
  rw [esc_inj h2]
theorem pick_esc {c : List S} {x : S} (h : x ∈ c) : pick c (esc x) = some x := by
 unfold pick
 cases hf : c.find? fun y => esc y == esc x with
 | none =>
  rw [vC] at hf
  exact absurd (hf x h) (by simp)
 | some y =>
  have h1 := vN hf
  rw [beq_iff_eq] at h1
  rw [esc_inj h1]
def Sg (s : S) : Prop := s = [] ∨ ∃ t, s = 38 :: t
theorem sg_tl {l : List Vary} {xs : List S} : Sg (tl l xs) := by
 match l, xs with
 | v :: r, x :: xs => exact .inr ⟨_, rfl⟩
 | [], _ => exact .inl (by simp [tl])
 | _ :: _, [] => exact .inl (by simp [tl])
theorem upTo_app {u s : S} (hu : (38 : UInt8) ∉ u) (hs : Sg s) : upTo (u ++ s) = u ∧ after (u ++ s) = s := by
 have hall : ∀ x ∈ u, (x != 38) = true := fun x hx => by
  rw [bne_iff_ne]; rintro rfl; exact hu hx
 unfold upTo after
 rw [List.takeWhile_append_of_pos hall, List.dropWhile_append_of_pos hall]
 rcases hs with rfl | ⟨t, rfl⟩
 ·simp
 ·simp
inductive Vals : List Vary → List S → Prop
 | nil : Vals [] []
 | cons {v : Vary} {r : List Vary} {x : S} {xs : List S} : x ∈ chs v → Vals r xs → Vals (v :: r) (x :: xs)
theorem Vals.len {l : List Vary} {xs : List S} (h : Vals l xs) : xs.length = l.length := by
 induction h with
 | nil => rfl
 | cons _ _ ih => simp [ih]
theorem Vals.get {l : List Vary} {xs : List S} (h : Vals l xs) : ∀ {k : Nat} (h1 : k < l.length) (h2 : k < xs.length), xs[k] ∈ chs l[k] := by
 induction h with
 | nil => intro k h1; simp at h1
 | cons hx _ ih =>
  intro k h1 h2
  cases k with
  | zero => exact hx
  | succ k => exact ih (by simpa using h1) (by simpa using h2)
theorem Vals.of {l : List Vary} {xs : List S} (h : xs.length = l.length) (h2 : ∀ k (h1 : k < l.length) (h2 : k < xs.length), xs[k] ∈ chs l[k]) : Vals l xs := by
 induction l generalizing xs with
 | nil =>
  have : xs = [] := by simpa using h
  subst this; exact .nil
 | cons v r ih =>
  match xs, h with
  | x :: xs, h =>
  refine .cons (h2 0 (by simp) (by simp)) (ih (by simpa using h) fun k h3 h4 => ?_)
  have := h2 (k + 1) (by simpa using h3) (by simpa using h4)
  simpa using this
theorem partS_eq {v : Vary} {x t : S} : partS v x ++ t = (v.h ++ [61]) ++ (esc x ++ t) := by simp [partS]
theorem parse_tl {l : List Vary} {xs : List S} (h : Vals l xs) : parseL false l (tl l xs) = some xs := by
 induction h with
 | nil => rfl
 | @cons v r x xs hx hr ih =>
  have h1 : cutP [38] (tl (v :: r) (x :: xs)) = some (partS v x ++ tl r xs) := cutP_app
  have h2 : cutP (v.h ++ [61]) (partS v x ++ tl r xs) = some (esc x ++ tl r xs) := by rw [partS_eq]; exact cutP_app
  obtain ⟨h3, h4⟩ := upTo_app (esc_ne (s := x)) (sg_tl (l := r) (xs := xs))
  simp only [parseL, h1, Bool.false_eq_true, if_false, Option.bind_some, h2, h3, h4, pick_esc hx, ih, vS]
theorem parse_key {l : List Vary} {xs : List S} (h : Vals l xs) : parseL true l (keyL l xs) = some xs := by
 rw [keyL_tl h.len]
 cases h with
 | nil => rfl
 | @cons v r x xs hx hr =>
  have h2 : cutP (v.h ++ [61]) (partS v x ++ tl r xs) = some (esc x ++ tl r xs) := by rw [partS_eq]; exact cutP_app
  obtain ⟨h3, h4⟩ := upTo_app (esc_ne (s := x)) (sg_tl (l := r) (xs := xs))
  simp only [parseL, tl0, if_true, Option.bind_some, h2, h3, h4, pick_esc hx, parse_tl hr, vS]
theorem key_inj {l : List Vary} {xs ys : List S} (h1 : Vals l xs) (h2 : Vals l ys) (h : keyL l xs = keyL l ys) : xs = ys := by
 have := parse_key h1
 rw [h, parse_key h2] at this
 exact (Option.some.inj this).symm
set_option maxRecDepth 20000
def valOf (v : Vary) (h : List Hd) : S := match h.find? (fun x => x.n == v.h) with
 | some x => if v.vals.any (x.v == ·) then x.v else v.d
 | none => v.d
def valsOf (l : List Vary) (h : List Hd) : List S := l.map (valOf · h)
def keyOf (l : List Vary) (h : List Hd) : S := keyL l (valsOf l h)
theorem vr_rens {f : Nat → Option Nat} {v : Vary} : rens f v.enc = v.enc := rfl
theorem find_idx {α : Type} {p : α → Bool} {h : List α} (ha : h.any p = true) : ∃ k : Nat, idxI p h = k ∧ ∃ hk : k < h.length, h.find? p = some h[k] := by
 have h1 : h.findIdx p < h.length := by
  rw [yL] at ha
  obtain ⟨x, hx, hp⟩ := ha
  exact List.findIdx_lt_length_of_exists ⟨x, hx, hp⟩
 refine ⟨h.findIdx p, by simp [idxI, ha], h1, ?_⟩
 rw [uS]
 exact ⟨List.findIdx_getElem, _, h1, rfl, fun j hj => by simpa using uR hj⟩
theorem find_no {α : Type} {p : α → Bool} {h : List α} (ha : h.any p = false) : h.find? p = none := by
 rw [vC]
 intro x hx
 rw [vA] at ha
 exact ha x hx
theorem NF.find {p : Hd → Bool} {h : List Hd} {k : Nat} (hn : NF p h k) (hk : k < h.length) (hp : p h[k] = true) : h.find? p = some h[k] := by
 rw [uS]
 exact ⟨hp, k, hk, rfl, fun j hj => by simp [hn.h j (by omega) hj]⟩
theorem ok45 (x : Hd) (v : Vary) : OkN Try.prog 45 [.agg x.enc, .ptr 0 0 0] [.var v.enc] [] (IsA (.b (x.n == v.h)) [.var v.enc]) := by
 refine okN_of pol [0] lw45 (by simp) ⟨trivial, trivial⟩ (by simp) ?_
 unfold c45
 simp -implicitDefEqProofs only [rX,↓rY,ofConst,cells?,↓reduceIte,Nat.reduceEqDiff,Nat.reduceAdd,reduceCtorEq,freshP,resP,tupV,leH,leB,keepP,liveP,wfB,wfV,cxN,sb_list,vr_0,hd_0,vr_le,vr_wf,args0,retP_isA]
theorem ok44 (h : List Hd) (v : Vary) : OkN Try.prog 44 [hs h, .clo 45 [.ptr 0 0 0]] [.var v.enc] [] (IsA (.i (idxI (fun x => x.n == v.h) h)) [.var v.enc]) := by
 refine okN_of pol [0] lw44 (by simp) ⟨trivial, trivial⟩ (by simp) ?_
 unfold c44 hs
 simp -implicitDefEqProofs only [rX,↓rY,ofConst,↓reduceIte,reduceCtorEq,cxN,args0]
 intro hm
 refine loopP_intro (fun k : Nat => ⟨[(8, .i k), (7, .i h.length), (1, .clo 45 [.ptr 0 0 0]), (0, .ro 2 (h.map Hd.enc))], [.var v.enc], 0⟩) (fun k => k ≤ h.length ∧ NF (fun x => x.n == v.h) h k) (fun k => h.length - k) 0 ⟨by omega, .zero⟩ ?_ ?_
 ·simp -implicitDefEqProofs only [rX,↓reduceIte,Nat.reduceEqDiff,reduceCtorEq,leE,leH,leB,keepP,liveP,wfE,wfB,wfV,wfL,vr_le,vr_wf,yF]
 rintro k ⟨hk, hv⟩
 unfold c44l0
 simp -implicitDefEqProofs only [rX,↓rY,ofConst,↓reduceIte,Nat.reduceEqDiff,reduceCtorEq,hd_len,hd_t]
 simp only [br, yC, decide_eq_true_eq, decide_eq_false_iff_not]
 refine ⟨fun h2 => ⟨⟨by omega, h2⟩, by omega, ?_⟩, fun h2 => ?_⟩
 ·have hk : k < h.length := by omega
  refine call_isN [0] [.agg h[k].enc, .ptr 0 0 0] (.b (h[k].n == v.h)) (.b (h[k].n == v.h)) [.var v.enc] [.var v.enc] _ (ok45 h[k] v) ⟨by simp, by simp⟩ rfl ?_ (by simp) rfl rfl ?_ ?_
  ·simp [lendsOk, lendOk, lends, lend, wkL, wk, wkR, pos, Vary.enc, ss, Hd.enc]
  ·simp [setAll, keepP, liveP, renB]
  cases hb : h[k].n == v.h with
  | true =>
   simp -implicitDefEqProofs only [rX,↓rY,↓reduceIte,Nat.reduceEqDiff,resP,tupV,leH,leB,keepP,liveP,wfB,wfV,vr_le,vr_wf,setAll,renB,retP_isA,vr_rens]
   exact (hv.at (p := fun x => x.n == v.h) hk hb).symm
  | false =>
   simp -implicitDefEqProofs only [rX,↓rY,ofConst,↓reduceIte,Nat.reduceEqDiff,reduceCtorEq,leE,leH,leB,keepP,liveP,wfE,wfB,wfV,wfL,vr_le,vr_wf,setAll,renB,vr_rens]
   exact ⟨by simp only [lo, hi, maxLen] at *; omega, k + 1, ⟨⟨by omega, hv.step hk hb⟩, by omega⟩, by simp⟩
 ·simp -implicitDefEqProofs only [rX,↓reduceIte,resP,tupV,leH,leB,keepP,liveP,wfB,wfV,vr_le,vr_wf,retP_isA]
  exact (hv.no (by omega)).symm
theorem ok18 (v : Vary) (h : List Hd) : Ok 18 [.agg v.enc, hs h] (Is (sv (valOf v h))) := by
 refine ok_of lw18 (by simp) ?_
 unfold c18
 simp -implicitDefEqProofs only [rX,↓rY,ofConst,cells?,↓reduceIte,Nat.reduceEqDiff,reduceCtorEq,freshP,cxN,k_nil,args0]
 refine call_isN [0] [hs h, .clo 45 [.ptr 0 0 0]] (.i (idxI (fun x : Hd => x.n == v.h) h)) (.i (idxI (fun x : Hd => x.n == v.h) h)) [.var v.enc] [.var v.enc] _ (ok44 h v) ⟨by simp, by simp⟩ rfl ?_ (by simp) rfl rfl ?_ ?_
 ·simp [lendsOk, lendOk, lends, lend, wkL, wk, wkR, pos, hs, Vary.enc, ss]
 ·simp [setAll, keepP, liveP, renB]
 simp -implicitDefEqProofs only [rX,↓rY,ofConst,↓reduceIte,Nat.reduceEqDiff,reduceCtorEq,resP,tupV,wfV,vr_1,vr_2,hd_1,setAll,renB,vr_rens,hs]
 cases ha : h.any (fun x => x.n == v.h) with
 | false =>
  have hv0 : valOf v h = v.d := by simp only [valOf, find_no ha]
  rw [idxI_no ha, hv0]
  have h0 : decide ((-1 : Int) ≥ 0) = false := rfl
  simp -implicitDefEqProofs only [↓rY,h0]
 | true =>
  obtain ⟨k, h1, hk, h2⟩ := find_idx ha
  rw [h1]
  have h0 : decide ((k : Int) ≥ 0) = true := decide_eq_true (by omega)
  simp -implicitDefEqProofs only [rX,↓rY,h0]
  refine ⟨⟨by omega, by omega⟩, by simpa using hk, ?_⟩
  refine call_is (ok46 v.vals h[k].v) ⟨⟨trivial, trivial, trivial⟩, ⟨rfl, rfl⟩, rfl, trivial⟩ rfl (by simp [keepP, liveP]) ?_
  have hval : valOf v h = if v.vals.any (h[k].v == ·) then h[k].v else v.d := by simp only [valOf, h2]
  rw [hval]
  cases hb : v.vals.any (h[k].v == ·) with
  | true =>
   simp -implicitDefEqProofs only [rX,↓rY,↓reduceIte,Nat.reduceEqDiff,reduceCtorEq,resP,tupV,wfV,hd_1]
   exact ⟨⟨by omega, by omega⟩, by simpa using hk, by simp⟩
  | false =>
   simp -implicitDefEqProofs only [rX,↓rY,↓reduceIte,Nat.reduceEqDiff,resP,tupV,wfV,vr_2]
set_option maxRecDepth 20000
def keysF (l : List Vary) : Nat → List S → List S
 | 0, xs => [keyL l xs]
 | n + 1, xs => (chs (l.getD xs.length default)).flatMap fun x => keysF l n (xs ++ [x])
structure Fits (l : List Vary) : Prop where
 n : l.length ≤ 8
 h : ∀ v ∈ l, v.h.length ≤ 64
 v : ∀ v ∈ l, v.vals.length ≤ 16
 x : ∀ v ∈ l, ∀ x ∈ chs v, x.length ≤ 64
def hA (l : List Vary) (out : List S) : List Blk := [.var [vs l], .var [.sl 3 0 out.length], .var [.clo 49 [.ptr 0 0 0, .ptr 1 0 0, .ptr 2 0 0]], .arr 1 (out.map encS)]
theorem slc_fullB {h : List Blk} {K : V → Prop} {l : List S} : slcP h 1 (.bro 1 (l.map encS)) none (some (l.length : Int)) (some (l.length : Int)) K = K (.full 1 (l.map encS)) := by
 have h1 : slcP h 1 (.bro 1 (l.map encS)) none (some (l.length : Int)) (some (l.length : Int)) K = (1 = 1 ∧ slcOk (l.map encS).length none (some (l.length : Int)) (some (l.length : Int)) ∧ K (broF 1 (some (l.length : Int)) (some (l.length : Int)) (l.map encS).length (((l.map encS).drop 0).take ((l.length : Int).toNat - 0)))) := rfl
 rw [h1]
 have h2 : broF 1 (some (l.length : Int)) (some (l.length : Int)) (l.map encS).length (((l.map encS).drop 0).take ((l.length : Int).toNat - 0)) = .full 1 (l.map encS) := by
  have : yA l.length (l.map encS) = l.map encS := yD (by simp)
  simp [broF, this]
 rw [h2]
 refine propext ⟨fun h => h.2.2, fun h => ⟨rfl, ?_, h⟩⟩
 simp [slcOk]
theorem aw49 {l : List Vary} (hl : Fits l) : ∀ (n : Nat) (xs out : List S) (m : Nat), m ≤ 4 → xs.length + n = l.length → (∀ x ∈ xs, x.length ≤ 64) → out.length + (keysF l n xs).length ≤ 1000000 → aw (cxN Try.prog [0, 1, 2]) c49 (retP [0, 1, 2] m [] (IsA (.tup []) (hA l (out ++ keysF l n xs)))) (fun _ _ => False) (retP [0, 1, 2] m [] (IsA (.tup []) (hA l (out ++ keysF l n xs)))) ⟨args0 0 [.bro 1 (xs.map encS), .ptr 0 0 0, .ptr 1 0 0, .ptr 2 0 0], hA l out, 0⟩ := by
 intro n
 induction n with
 | zero =>
  intro xs out m hm4 hn hx hb
  unfold c49 hA vs
  simp -implicitDefEqProofs only [rX,↓rY,rdK,↓reduceIte,Nat.reduceEqDiff,Nat.reduceAdd,reduceCtorEq,cxN,vr_len,vr_t,k_nil,args0]
  have hk : keysF l 0 xs = [keyL l xs] := rfl
  have he : ((xs.length : Int) == (l.length : Int)) = true := by rw [beq_iff_eq]; omega
  have hs : Small l xs := ⟨hl.n, by omega, hl.h, hx⟩
  refine fun _ _ => ?_
  rw [he]
  simp -implicitDefEqProofs only [↓rY]
  refine call_is (ok37 l xs hs) ⟨⟨trivial, trivial, trivial⟩, ⟨rfl, rfl⟩, ⟨rfl, rfl⟩, trivial⟩ rfl (by simp [keepP, liveP]) ?_
  simp -implicitDefEqProofs only [rX,↓rY,cells?,splice,↓reduceIte,Nat.reduceEqDiff,reduceCtorEq,freshP,litsP,killE,killB,kill,kills,St.kill,isD,isC,Nat.reduceLT]
  rw [hk] at hb ⊢
  rw [uK] at hb
  refine ⟨by omega, ?_⟩
  have ht : yA out.length (out.map encS) = out.map encS := yD (by simp)
  rw [ht]
  simp -implicitDefEqProofs only [rX,Nat.reduceAdd,resP,tupV,leH,leB,leV,leVs,keepP,liveP,wfB,wfV,wfL,retP_isA]
  simp [leH, leB, encS, hm4]
 | succ n ih =>
  intro xs out m hm4 hn hx hb
  unfold c49 hA vs
  simp -implicitDefEqProofs only [rX,↓rY,rdK,↓reduceIte,Nat.reduceEqDiff,Nat.reduceAdd,reduceCtorEq,cxN,vr_len,vr_t,k_nil,args0]
  have he : ((xs.length : Int) == (l.length : Int)) = false := by rw [beq_eq_false_iff_ne]; omega
  have hxl : xs.length < l.length := by omega
  refine fun _ _ => ?_
  rw [he]
  simp -implicitDefEqProofs only [↓rY]
  refine fun _ => ⟨⟨by omega, by omega⟩, hxl, ?_⟩
  have hvm := yB hxl
  have hK : keysF l (n + 1) xs = (chs l[xs.length]).flatMap fun x => keysF l n (xs ++ [x]) := by
   rw [keysF, yR, yE hxl]; rfl
  rw [hK] at hb ⊢
  have hcx := hl.x _ hvm
  have hvv := hl.v _ hvm
  generalize l[xs.length] = v at hb hcx hvv ⊢
  refine call_is (ok41 v hvv) ⟨⟨⟨trivial, trivial, trivial, trivial⟩, trivial⟩, ⟨rfl, ⟨rfl, rfl⟩, rfl, trivial⟩, trivial⟩ rfl (by simp [keepP, liveP]) ?_
  generalize chs v = c at hb hcx ⊢
  simp -implicitDefEqProofs only [rX,↓rY,ofConst,↓reduceIte,ss]
  intro hcm
  refine loopP_intro (fun j : Nat => ⟨[(25, .i j), (24, .i c.length), (23, ss c), (0, .bro 1 (xs.map encS)), (1, .ptr 0 0 0), (2, .ptr 1 0 0), (3, .ptr 2 0 0)], hA l (out ++ (c.take j).flatMap fun x => keysF l n (xs ++ [x])), 4⟩) (fun j => j ≤ c.length) (fun j => c.length - j) 0 (yI _) ?_ ?_
  ·simp -implicitDefEqProofs only [rX,↓reduceIte,Nat.reduceEqDiff,reduceCtorEq,leE,leH,leB,leV,leVs,keepP,liveP,wfE,wfB,wfV,wfL,yF,ss,hA,vs,List.flatMap_nil]
  rintro j hj
  generalize hO : out ++ (c.take j).flatMap (fun x => keysF l n (xs ++ [x])) = O
  unfold c49l0 hA vs ss
  simp -implicitDefEqProofs only [rX,↓rY,rdK,cells?,↓reduceIte,Nat.reduceEqDiff,Nat.reduceAdd,reduceCtorEq,freshP,litsP,isD,Nat.reduceLT,encS_0,k_nil]
  simp only [br, yC, decide_eq_true_eq, decide_eq_false_iff_not]
  refine ⟨fun hlt => ?_, fun hlt => ?_⟩
  ·have hjc : j < c.length := by omega
   refine ⟨⟨by omega, hlt⟩, hjc, fun _ _ => ?_⟩
   rw [slc_fullB]
   simp -implicitDefEqProofs only [rX,↓rY,↓reduceIte,Nat.reduceEqDiff,freshP]
   have hx2 : ∀ x ∈ xs ++ [c[j]], x.length ≤ 64 := fun x hx' => by
    rcases yO.1 hx' with h | h
    ·exact hx x h
    ·rw [yT] at h; subst h; exact hcx _ (yB hjc)
   have hln := hl.n
   have htk : out ++ (c.take (j + 1)).flatMap (fun x => keysF l n (xs ++ [x])) = O ++ keysF l n (xs ++ [c[j]]) := by
    rw [yM, yE hjc, yZ, ← vZ, hO]; simp
   have hsub : (out ++ (c.take (j + 1)).flatMap (fun x => keysF l n (xs ++ [x]))).length ≤ 1000000 := by
    have h1 : (c.flatMap fun x => keysF l n (xs ++ [x])) = (c.take (j + 1)).flatMap (fun x => keysF l n (xs ++ [x])) ++ (c.drop (j + 1)).flatMap (fun x => keysF l n (xs ++ [x])) := by
     rw [← yZ, uL]
    rw [h1, yK] at hb
    rw [yK]
    omega
   rw [htk, yK] at hsub
   have hih : OkN Try.prog 49 [.bro 1 ((xs ++ [c[j]]).map encS), .ptr 0 0 0, .ptr 1 0 0, .ptr 2 0 0] (hA l O) [3] (IsA (.tup []) (hA l (O ++ keysF l n (xs ++ [c[j]])))) := okN_of pol [0, 1, 2] lw49 (by simp) (by simp [keepP, liveP, hA]) (by simp [hA]; omega) (ih (xs ++ [c[j]]) O 4 (yH _) (by rw [yK, uK]; omega) hx2 hsub)
   refine ⟨by simp, by omega, ?_⟩
   have hrow : yA (xs.length + 1) (xs.map encS ++ [[V.v (Value.string (sb c[j]))]]) = (xs ++ [c[j]]).map encS := by
    rw [yU, yD (by simp)]; rfl
   refine call_isM (G := Unit) (fun _ => True) [0, 1, 2, 3] [3] [3] [.bro 1 ((xs ++ [c[j]]).map encS), .ptr 0 0 0, .ptr 1 0 0, .ptr 2 0 0] (fun _ => .tup []) (hA l O) (fun _ => hA l (O ++ keysF l n (xs ++ [c[j]]))) (okN_post hih fun r h ⟨h1, h2⟩ => ⟨(), trivial, h1, h2⟩) (by simp) (by simp) (by simp [hA, blk, renB, rens, ren, pos, vs]) ?_ fun _ _ => ⟨?_, ?_⟩
   ·refine ⟨⟨?_, trivial, trivial, trivial, trivial⟩, ⟨rfl, hrow⟩, rfl, rfl, rfl, trivial⟩
    show 0 + (xs.length + 1) ≤ (xs.map encS ++ [[V.v (Value.string (sb c[j]))]]).length
    simp
   ·simp [keepP, liveP, hA, setAll, renB, killB]
   ·have hsO := hsub
    simp -implicitDefEqProofs only [rX,↓rY,ofConst,↓reduceIte,Nat.reduceEqDiff,Nat.reduceAdd,reduceCtorEq,leE,leH,leB,leV,leVs,keepP,liveP,wfE,wfB,wfV,wfL,killE,killB,kill,kills,St.kill,hA,vs,killE,kill,kills,killB,setAll,renB,rens,ren,uM]
    refine ⟨by simp only [lo, hi, maxLen] at *; omega, j + 1, ⟨by omega, by omega⟩, by simp, ?_, rfl, by rw [htk]⟩
    have h3 := congrArg List.length htk
    rw [yK, yK] at h3
    rw [h3]; rfl
  ·have hjc : j = c.length := by omega
   subst hjc
   rw [yV] at hO
   rw [← hO]
   simp -implicitDefEqProofs only [rX,Nat.reduceAdd,resP,tupV,leH,leB,leV,leVs,keepP,liveP,wfB,wfV,wfL,retP_isA,hm4]
theorem ok49n {l : List Vary} (hl : Fits l) (hb : (keysF l l.length []).length ≤ 1000000) : OkN Try.prog 49 [.bro 1 [], .ptr 0 0 0, .ptr 1 0 0, .ptr 2 0 0] [.var [vs l], .var [.nil], .var [.clo 49 [.ptr 0 0 0, .ptr 1 0 0, .ptr 2 0 0]]] [] (IsA (.tup []) (hA l (keysF l l.length []))) := by
 refine okN_ofG pol [0, 1, 2] lw49 (by simp) (by simp [keepP, liveP]) (by simp; omega) (s0 := ⟨args0 0 [.bro 1 [], .ptr 0 0 0, .ptr 1 0 0, .ptr 2 0 0], hA l [], 0⟩) ?_ ?_
 ·refine ⟨_, .virt 1 1 (by decide) (.nilB 1 [.nil] [.sl 3 0 0] rfl ?_ (.refl _)), ?_⟩
  ·refine ⟨rfl, fun i x y h1 h2 => ?_⟩
   cases i with
   | zero => simp at h1 h2; subst h1; subst h2; exact .inr ⟨rfl, 3, rfl⟩
   | succ i => simp at h1
  ·unfold hA vs
   simp -implicitDefEqProofs only [rX,↓reduceIte,Nat.reduceEqDiff,Nat.reduceAdd,reduceCtorEq,leE,leH,leB,leV,leVs,keepP,liveP,wfE,wfB,wfV,wfL,args0,uI,uM]
 ·exact aw49 hl l.length [] [] 3 (by omega) (by simp) (by simp) (by simpa using hb)
set_option maxRecDepth 20000
def prods (l : List Vary) : Nat → Nat
 | 0 => 1
 | k + 1 => prods l k * (chs (l.getD k default)).length
def cnt (l : List Vary) : Nat → Nat → Nat
 | 0, _ => 1
 | n + 1, k => (chs (l.getD k default)).length * cnt l n (k + 1)
theorem flat_len {c : List S} {f : S → List S} {m : Nat} (h : ∀ x, (f x).length = m) : (c.flatMap f).length = c.length * m := by
 induction c with
 | nil => simp
 | cons x r ih => rw [List.flatMap_cons, yK, ih, h, yS, uJ, Nat.add_comm]
theorem keysF_cnt {l : List Vary} : ∀ (n : Nat) (xs : List S), (keysF l n xs).length = cnt l n xs.length
 | 0, xs => rfl
 | n + 1, xs => by
  rw [keysF, flat_len (m := cnt l n (xs.length + 1)) fun x => by rw [keysF_cnt n, yK, uK]]
  rfl
theorem prods_cnt {l : List Vary} : ∀ (n k : Nat), prods l k * cnt l n k = prods l (k + n)
 | 0, k => Nat.mul_one _
 | n + 1, k => by
  rw [cnt, ← Nat.mul_assoc, show prods l k * (chs (l.getD k default)).length = prods l (k + 1) from rfl, prods_cnt n (k + 1)]
  congr 1; omega
theorem keysF_len {l : List Vary} : (keysF l l.length []).length = prods l l.length := by
 have h := prods_cnt (l := l) l.length 0
 rw [keysF_cnt, vV]
 simpa [prods] using h
structure Nm (l : List Vary) (k : Nat) : Prop where
 h : ∀ j, j ≤ k → prods l j ≤ 1000
def allBig (l : List Vary) : Bool := (yN l.length).any fun k => decide (1000 < prods l (k + 1))
def allR (l : List Vary) : V := if allBig l then .tup [ss [], .i 2] else .tup [ss (keysF l l.length []), .i 0]
theorem Nm.small {l : List Vary} {k : Nat} (h : Nm l k) (hk : l.length ≤ k) : allBig l = false := by
 unfold allBig
 rw [vA]
 intro j hj
 rw [vB] at hj
 have := h.h (j + 1) (by omega)
 simp; omega
theorem big_of {l : List Vary} {k : Nat} (hk : k < l.length) (h : 1000 < prods l (k + 1)) : allBig l = true := yL.2 ⟨k, vB.2 hk, by simpa using h⟩
theorem chs_len {v : Vary} (h : v.vals.length ≤ 16) : (chs v).length ≤ 17 := by
 unfold chs
 split
 ·rw [yS]; omega
 ·omega
theorem Nm.zero {l : List Vary} : Nm l 0 := ⟨fun j hj => by
 have : j = 0 := by omega
 subst this
 show 1 ≤ 1000
 omega⟩
theorem Nm.step {l : List Vary} {k : Nat} (h : Nm l k) (hk : prods l (k + 1) ≤ 1000) : Nm l (k + 1) := ⟨fun j hj => by
 by_cases h3 : j = k + 1
 ·subst h3; exact hk
 ·exact h.h j (by omega)⟩
theorem ok21 {l : List Vary} (hl : Fits l) : Ok 21 [vs l] (Is (allR l)) := by
 refine ⟨rlF_callable lw21, Fn_give (R := fun q hs => wk (allR l) (gvV (fun _ => true) hs q)) ?_ fun _ _ h => h⟩
 refine (ok_of lw21 (by simp) ?_).2
 unfold c21 vs
 simp -implicitDefEqProofs only [rX,↓rY,ofConst,cells?,↓reduceIte,Nat.reduceEqDiff,freshP,cxN,args0]
 intro hm
 refine loopP_intro (fun k : Nat => ⟨[(11, .i k), (10, .i l.length), (9, vs l), (4, .i (prods l k : Nat)), (3, .i 0), (2, .nil), (1, .ptr 0 0 0), (0, vs l)], [.var [vs l]], 1⟩) (fun k => k ≤ l.length ∧ Nm l k) (fun k => l.length - k) 0 ⟨yI _, .zero⟩ ?_ ?_
 ·simp -implicitDefEqProofs only [rX,↓reduceIte,Nat.reduceEqDiff,reduceCtorEq,leE,leH,leB,leV,leVs,keepP,liveP,wfE,wfB,wfV,wfL,yF,vs,prods]
  rfl
 rintro k ⟨hk, hN⟩
 unfold c21l0 vs
 simp -implicitDefEqProofs only [rX,↓rY,ofConst,cells?,splice,↓reduceIte,Nat.reduceEqDiff,Nat.reduceAdd,freshP,isC,vr_len,vr_t,vr_C,k_nil]
 simp only [br, yC, decide_eq_true_eq, decide_eq_false_iff_not]
 refine ⟨fun h => ⟨⟨by omega, h⟩, by omega, ?_⟩, fun h => ?_⟩
 ·have hkl : k < l.length := by omega
  refine call_is (ok41 l[k] (hl.v _ (yB hkl))) ⟨⟨⟨trivial, trivial, trivial, trivial⟩, trivial⟩, ⟨rfl, ⟨rfl, rfl⟩, rfl, trivial⟩, trivial⟩ rfl trivial ?_
  simp -implicitDefEqProofs only [rX,↓rY,ofConst,↓reduceIte,Nat.reduceEqDiff,Nat.reduceAdd,reduceCtorEq,leE,leH,leB,leV,leVs,keepP,liveP,wfE,wfB,wfV,wfL,ss]
  have hg : prods l (k + 1) = prods l k * (chs l[k]).length := by
   rw [prods, yR, yE hkl]; rfl
  have h1 := hN.h k (yH _)
  have h2 := chs_len (hl.v _ (yB hkl))
  have h3 : prods l (k + 1) ≤ 1000 * 17 := by rw [hg]; exact Nat.mul_le_mul h1 h2
  rw [← Int.natCast_mul, ← hg]
  simp only [br, decide_eq_true_eq, decide_eq_false_iff_not]
  refine fun _ => ⟨⟨by simp only [lo]; omega, by simp only [hi]; omega⟩, fun h4 => ?_, fun h4 => ⟨by simp only [lo, hi, maxLen] at *; omega, k + 1, ⟨⟨by omega, hN.step (by omega)⟩, by omega⟩, by simp, rfl⟩⟩
  have hb := big_of hkl (by omega)
  rw [retP_eq]
  simp -implicitDefEqProofs only [rX,↓reduceIte,Nat.reduceEqDiff,resP,tupV,keepP,wfV,wfL]
  refine ⟨[], ⟨by simp [leH], by simp, by simp [wfB]⟩, ?_⟩
  simp [gvV, gvL, wk, wkL, wkR, allR, hb, ss]
 ·have hsm := hN.small (by omega)
  have hcnt : (keysF l l.length []).length ≤ 1000000 := by
   rw [keysF_len]
   have := hN.h l.length (by omega)
   omega
  refine call_isM (G := Unit) (fun _ => True) [0, 1, 2] [] [] [.bro 1 [], .ptr 0 0 0, .ptr 1 0 0, .ptr 2 0 0] (fun _ => .tup []) [.var [vs l], .var [.nil], .var [.clo 49 [.ptr 0 0 0, .ptr 1 0 0, .ptr 2 0 0]]] (fun _ => hA l (keysF l l.length [])) (okN_post (ok49n hl hcnt) fun r h ⟨h1, h2⟩ => ⟨(), trivial, h1, h2⟩) (by simp) (by simp) (by simp [blk, renB, rens, ren, pos, vs]) (by simp [lendsOk, lendOk, lends, lend, wkL, wk, wkB, pos]) fun _ _ => ⟨trivial, ?_⟩
  simp -implicitDefEqProofs only [rX,↓rY,ofConst,↓reduceIte,Nat.reduceEqDiff,Nat.reduceAdd,killE,killB,kill,kills,St.kill,hA,vs,killE,kill,kills,killB,setAll,renB,rens,ren,uM]
  have b3 : back [0, 1, 2] 3 3 = some 3 := rfl
  rw [retP_eq]
  simp -implicitDefEqProofs only [rX,↓reduceIte,Nat.reduceEqDiff,resP,tupV,keepP,liveP,wfV,wfL,b3]
  refine ⟨[.dead, .dead, .dead, .arr 1 ((keysF l l.length []).map encS)], ⟨by simp [leH, leB], by simp [wfV, wfL, liveP], by simp [wfB]⟩, ?_⟩
  have ht : yA (keysF l l.length []).length ((keysF l l.length []).map encS) = (keysF l l.length []).map encS := yD (by simp)
  simp [gvV, gvL, wk, wkL, wkR, allR, hsm, ss, blk, ht]
structure Fine (l : List Vary) : Prop where
 n : l.length ≤ 8
 w : ∀ v ∈ l, wordP nameB v.h = true
 v : ∀ v ∈ l, v.vals.length ≤ 16
 x : ∀ v ∈ l, ∀ x ∈ v.vals, wordP valB x = true
 d : ∀ v ∈ l, v.d = [] ∨ v.d ∈ v.vals
 asc : ∀ v ∈ l, v.vals.Pairwise (· < ·)
 dis : l.Pairwise fun v u => v.h ≠ u.h
theorem wordP_len {p : UInt8 → Bool} {s : S} (h : wordP p s = true) : 1 ≤ s.length ∧ s.length ≤ 64 := by
 simp only [wordP, uB, decide_eq_true_eq] at h
 exact h.2
theorem lt_or {a b : S} (h1 : ¬ a < b) (h2 : a ≠ b) : b < a := by
 rw [vO] at h1
 rcases Decidable.em (b < a) with h | h
 ·exact h
 ·rw [vO] at h
  exact absurd (List.le_antisymm h h1) h2
theorem s_trans {a b c : S} (h1 : a < b) (h2 : b < c) : a < c := List.lt_trans h1 h2
theorem s_irr {a : S} : ¬ a < a := List.lt_irrefl a
theorem asc_of {l : List S} (h : ∀ k, 0 < k → (hk : k < l.length) → l[k - 1] < l[k]) : l.Pairwise (· < ·) := by
 rw [vP]
 intro i j hi hj hij
 induction j with
 | zero => omega
 | succ j ih =>
  have h1 := h (j + 1) (by omega) hj
  simp only [Nat.add_sub_cancel] at h1
  by_cases he : i = j
  ·subst he; exact h1
  ·exact s_trans (ih (by omega) (by omega)) h1
theorem valsB_of {l : List S} (h : valsB l = true) : (∀ x ∈ l, wordP valB x = true) ∧ l.Pairwise (· < ·) := by
 have h1 : ∀ k, k < l.length → valBad l k = false := fun k hk => by
  simp only [valsB, yY, vA, vB] at h
  simpa using h k hk
 have hg : ∀ k (hk : k < l.length), l.getD k [] = l[k] := fun k hk => by rw [yR, yE hk]; rfl
 refine ⟨fun x hx => ?_, asc_of fun k h0 hk => ?_⟩
 ·obtain ⟨k, hk, rfl⟩ := yQ hx
  have := h1 k hk
  simp only [valBad, uN, hg k hk] at this
  simpa using this.1
 ·have := h1 k hk
  simp only [valBad, uN, hg k hk, hg (k - 1) (by omega), decide_eq_true h0, uG] at this
  obtain ⟨_, h2, h3⟩ := this
  exact lt_or (by simpa using h2) (by simpa using h3)
theorem find_none0 {l : List Int} (h : (l.find? (· != 0)).getD 0 = 0) : ∀ x ∈ l, x = 0 := by
 cases hf : l.find? (· != 0) with
 | none =>
  rw [vC] at hf
  intro x hx
  simpa using hf x hx
 | some y =>
  rw [hf] at h
  have := vN hf
  simp at h this
  exact absurd h this
theorem fine_of {l : List Vary} (h : chk l = 0) : Fine l := by
 unfold chk at h
 split at h
 ·cases h
 rename_i hb
 simp only [big, vE, decide_eq_true_eq, not_or, yL, not_exists, not_and] at hb
 have hE : ∀ k (hk : k < l.length), vErr l[k] (l.take k) = 0 := fun k hk => by
  have := find_none0 h (errAt l k) (vJ.2 ⟨k, vB.2 hk, rfl⟩)
  rwa [errAt, yR, yE hk] at this
 have hE2 : ∀ k (hk : k < l.length), wordP nameB l[k].h = true ∧ (l.take k).any (fun x => x.h == l[k].h) = false ∧ (l[k].d = [] ∨ l[k].d ∈ l[k].vals) ∧ valsB l[k].vals = true := fun k hk => by
  have := hE k hk
  unfold vErr at this
  split at this
  ·cases this
  split at this
  ·cases this
  split at this
  ·cases this
  rename_i g1 g2 g3
  refine ⟨by simpa using g1, by simpa using g2, ?_, ?_⟩
  ·simp only [vE, not_or, uB, not_and, yY, Bool.not_eq_false] at g3
   by_cases hd : l[k].d = []
   ·exact .inl hd
   ·have := g3.1 (by simpa using hd)
    rw [yL] at this
    obtain ⟨x, hx, he⟩ := this
    rw [beq_iff_eq] at he
    exact .inr (he ▸ hx)
  ·simp only [vE, not_or, yY, Bool.not_eq_false] at g3
   exact g3.2
 have hM : ∀ v ∈ l, ∃ k, ∃ hk : k < l.length, l[k] = v := fun v hv => yQ hv
 refine ⟨by omega, fun v hv => ?_, fun v hv => by have := hb.2 v hv; omega, fun v hv => ?_, fun v hv => ?_, fun v hv => ?_, ?_⟩
 ·obtain ⟨k, hk, rfl⟩ := hM v hv
  exact (hE2 k hk).1
 ·obtain ⟨k, hk, rfl⟩ := hM v hv
  exact (valsB_of (hE2 k hk).2.2.2).1
 ·obtain ⟨k, hk, rfl⟩ := hM v hv
  exact (hE2 k hk).2.2.1
 ·obtain ⟨k, hk, rfl⟩ := hM v hv
  exact (valsB_of (hE2 k hk).2.2.2).2
 ·rw [vP]
  intro i j hi hj hij he
  have := (hE2 j hj).2.1
  rw [vA] at this
  exact this l[i] (uH.2 ⟨i, by omega, rfl⟩) (by simp [he])
theorem chs_mem {v : Vary} {x : S} : x ∈ chs v ↔ (v.d = [] ∧ x = []) ∨ x ∈ v.vals := by
 unfold chs
 split
 ·rename_i h; simp [h]
 ·rename_i h; simp [h]
theorem Fine.chs {l : List Vary} (h : Fine l) {v : Vary} (hv : v ∈ l) {x : S} (hx : x ∈ chs v) : x.length ≤ 64 := by
 rcases chs_mem.1 hx with ⟨_, rfl⟩ | hx
 ·simp
 ·exact (wordP_len (h.x v hv x hx)).2
theorem Fine.fits {l : List Vary} (h : Fine l) : Fits l := ⟨h.n, fun v hv => (wordP_len (h.w v hv)).2, h.v, fun v hv _ hx => h.chs hv hx⟩
theorem valOf_mem {v : Vary} (hd : v.d = [] ∨ v.d ∈ v.vals) (h : List Hd) : valOf v h ∈ chs v := by
 have hdm : v.d ∈ Go.Fx.W.chs v := chs_mem.2 (by
  rcases hd with h | h
  ·exact .inl ⟨h, h⟩
  ·exact .inr h)
 unfold valOf
 split
 ·split
  ·rename_i x _ hx
   rw [yL] at hx
   obtain ⟨y, hy, he⟩ := hx
   rw [beq_iff_eq] at he
   exact chs_mem.2 (.inr (he ▸ hy))
  ·exact hdm
 ·exact hdm
theorem Fine.vals {l : List Vary} (hl : Fine l) (h : List Hd) : Vals l (valsOf l h) := .of (by simp [valsOf]) fun k h1 h2 => by
 simp only [valsOf, uC]
 exact valOf_mem (hl.d _ (yB h1)) h
theorem Fine.small {l : List Vary} (hl : Fine l) {xs : List S} (h : Vals l xs) : Small l xs := ⟨hl.n, h.len, hl.fits.h, fun x hx => by
 obtain ⟨k, hk, rfl⟩ := yQ hx
 have hk2 : k < l.length := by rw [← h.len]; exact hk
 exact hl.chs (yB hk2) (h.get hk2 hk)⟩
abbrev Asc (l : List S) : Prop := l.Pairwise (· < ·)
theorem s_le {a b : S} (h : a < b) : a ≤ b := by
 rw [← vO]
 exact fun h2 => s_irr (s_trans h h2)
theorem s_lt {a b : S} (h : a ≤ b) (hn : a ≠ b) : a < b := lt_or (by rw [vO]; exact h) (fun he => hn he.symm)
theorem s_le_trans {a b c : S} (h : a ≤ b) (h2 : b ≤ c) : a ≤ c := List.le_trans h h2
theorem s_antisymm {a b : S} (h : a ≤ b) (h2 : b ≤ a) : a = b := List.le_antisymm h h2
theorem s_not {a b : S} : ¬ a < b ↔ b ≤ a := vO
theorem asc_ext : ∀ {a b : List S}, Asc a → Asc b → (∀ x, x ∈ a ↔ x ∈ b) → a = b
 | [], [], _, _, _ => rfl
 | [], y :: b, _, _, h => absurd ((h y).2 vD) uD
 | x :: a, [], _, _, h => absurd ((h x).1 vD) uD
 | x :: a, y :: b, ha, hb, h => by
  have ha' := List.pairwise_cons.1 ha
  have hb' := List.pairwise_cons.1 hb
  have hxy : x = y := by
   have h1 := (h x).1 vD
   have h2 := (h y).2 vD
   rcases vH.1 h1 with h1 | h1
   ·exact h1
   rcases vH.1 h2 with h2 | h2
   ·exact h2.symm
   exact absurd (s_trans (hb'.1 x h1) (ha'.1 y h2)) s_irr
  subst hxy
  rw [asc_ext ha'.2 hb'.2 fun z => ?_]
  have hz := h z
  constructor
  ·intro hza
   rcases vH.1 (hz.1 (vL _ hza)) with rfl | h3
   ·exact absurd (ha'.1 z hza) s_irr
   ·exact h3
  ·intro hzb
   rcases vH.1 (hz.2 (vL _ hzb)) with rfl | h3
   ·exact absurd (hb'.1 z hzb) s_irr
   ·exact h3
theorem cmp_up {d : Array S} (hs : ∀ i j, i ≤ j → j < d.size → d[i]! ≤ d[j]!) : ∀ m, m ≤ d.size → Asc (Lib.compactUpTo d m) ∧ ∀ x, x ∈ Lib.compactUpTo d m ↔ ∃ j, j < m ∧ d[j]! = x
 | 0, _ => by
  constructor
  ·simp [Lib.compactUpTo, Asc]
  ·intro x; simp [Lib.compactUpTo]
 | m + 1, hm => by
  obtain ⟨h1, h2⟩ := cmp_up hs m (by omega)
  rw [Lib.compactUpTo_succ]
  by_cases hk : Lib.keeps d m = true
  ·rw [if_pos hk]
   constructor
   ·rw [Asc, uT]
    refine ⟨h1, by simp, fun x hx y hy => ?_⟩
    rw [yT] at hy
    subst hy
    obtain ⟨j, hj, rfl⟩ := (h2 x).1 hx
    refine s_lt (hs j m (by omega) (by omega)) fun he => ?_
    simp only [Lib.keeps, decide_eq_true_eq] at hk
    rcases hk with hk | hk
    ·omega
    ·refine hk (s_antisymm ?_ (hs (m - 1) m (by omega) (by omega)))
     rw [← he]
     exact hs j (m - 1) (by omega) (by omega)
   ·intro x
    rw [yO, yT, h2]
    constructor
    ·rintro (⟨j, hj, he⟩ | he)
     ·exact ⟨j, by omega, he⟩
     ·exact ⟨m, by omega, he.symm⟩
    ·rintro ⟨j, hj, he⟩
     by_cases hjm : j = m
     ·subst hjm; exact .inr he.symm
     ·exact .inl ⟨j, by omega, he⟩
  ·rw [if_neg hk, vF]
   refine ⟨h1, fun x => ?_⟩
   rw [h2]
   simp only [Lib.keeps, decide_eq_true_eq, not_or, ne_eq, Decidable.not_not] at hk
   constructor
   ·rintro ⟨j, hj, he⟩
    exact ⟨j, by omega, he⟩
   ·rintro ⟨j, hj, he⟩
    by_cases hjm : j = m
    ·subst hjm
     exact ⟨j - 1, by omega, by rw [← hk.2]; exact he⟩
    ·exact ⟨j, by omega, he⟩
theorem srt_pw {l : List S} : (srt l).Pairwise (· ≤ ·) := by
 have := List.pairwise_mergeSort (le := fun x y : S => decide (x ≤ y)) (fun a b c h1 h2 => by simpa using s_le_trans (by simpa using h1) (by simpa using h2)) (fun a b => by
  simp only [vE, decide_eq_true_eq]
  rcases Decidable.em (a ≤ b) with h | h
  ·exact .inl h
  ·right
   rw [List.not_le] at h
   exact s_le h) l
 exact this.imp fun h => by simpa using h
theorem mem_srt {l : List S} {x : S} : x ∈ srt l ↔ x ∈ l := List.mem_mergeSort
def uni (a b : List S) : List S := Lib.compact (srt (a ++ b))
theorem uni_both {a b : List S} : Asc (uni a b) ∧ ∀ x, x ∈ uni a b ↔ x ∈ a ∨ x ∈ b := by
 have hs : ∀ i j, i ≤ j → j < (srt (a ++ b)).toArray.size → (srt (a ++ b)).toArray[i]! ≤ (srt (a ++ b)).toArray[j]! := fun i j hij hj => by
  have hj' : j < (srt (a ++ b)).length := by simpa using hj
  rw [getElem!_pos (srt (a ++ b)).toArray i (by simp; omega), getElem!_pos (srt (a ++ b)).toArray j (by simpa using hj')]
  simp only [uU]
  by_cases he : i = j
  ·subst he; exact List.le_refl _
  ·exact (vP.1 srt_pw) i j (by omega) hj' (by omega)
 obtain ⟨h1, h2⟩ := cmp_up hs (srt (a ++ b)).length (by simp)
 refine ⟨h1, fun x => ?_⟩
 rw [uni, Lib.compact, h2]
 constructor
 ·rintro ⟨j, hj, he⟩
  rw [getElem!_pos (srt (a ++ b)).toArray j (by simpa using hj)] at he
  simp only [uU] at he
  have : x ∈ srt (a ++ b) := he ▸ yB hj
  rw [mem_srt, yO] at this
  exact this
 ·intro h
  have : x ∈ srt (a ++ b) := by rw [mem_srt, yO]; exact h
  obtain ⟨j, hj, he⟩ := yQ this
  refine ⟨j, hj, ?_⟩
  rw [getElem!_pos (srt (a ++ b)).toArray j (by simpa using hj)]
  simpa using he
theorem cmp_len {l : List S} : (Lib.compact l).length ≤ l.length := by
 have h := uV (Lib.keeps l.toArray) (yN l.length)
 rw [List.length_range] at h
 simpa [Lib.compact, Lib.compactUpTo] using h
theorem uni_len {a b : List S} : (uni a b).length ≤ a.length + b.length := by
 have h1 := cmp_len (l := srt (a ++ b))
 rw [srt_len, yK] at h1
 exact h1
theorem nodup_len : ∀ {a b : List S}, a.Nodup → (∀ x ∈ a, x ∈ b) → a.length ≤ b.length
 | [], _, _, _ => yI _
 | x :: a, b, hn, h => by
  rw [List.nodup_cons] at hn
  have hx := h x vD
  have := nodup_len (a := a) (b := b.erase x) hn.2 fun y hy => by
   rw [List.mem_erase_of_ne]
   ·exact h y (vL _ hy)
   ·rintro rfl; exact hn.1 hy
  rw [List.length_erase_of_mem hx] at this
  have hp : 0 < b.length := List.length_pos_of_mem hx
  simp only [yS]
  omega
theorem asc_nodup {a : List S} (h : Asc a) : a.Nodup := by
 rw [List.nodup_iff_pairwise_ne]
 exact h.imp fun h he => by subst he; exact s_irr h
def smpV (a : List Vary) (v : Vary) : List S := match a.find? (fun u => u.h == v.h) with
 | some u => uni v.vals u.vals
 | none => v.vals
def smp (a : List Vary) (v : Vary) : List (List Hd) := (smpV a v).map (fun x => [⟨v.h, x⟩]) ++ [[]]
def apart (a b : List Vary) (x y : List Hd) : Bool := keyOf a x == keyOf a y && !(keyOf b x == keyOf b y)
structure Pair where
 x : List Hd
 y : List Hd
def prsAt (L : List (List Hd)) (i : Nat) : List Pair := (L.drop (i + 1)).map fun y => ⟨L.getD i [], y⟩
def prs (L : List (List Hd)) : List Pair := (yN L.length).flatMap (prsAt L)
def splitP (a b : List Vary) : Option Pair := (b.flatMap fun v => prs (smp a v)).find? fun p => apart a b p.x p.y
theorem find_hd {a : List Vary} {v u : Vary} (h : a.find? (fun u => u.h == v.h) = some u) : u ∈ a ∧ u.h = v.h := ⟨uO h, by have := vN h; simpa using this⟩
def valH (s : S) (h : List Hd) : Option S := (h.find? fun x => x.n == s).map Hd.v
theorem valOf_valH {v : Vary} {h : List Hd} : valOf v h = match valH v.h h with
 | some x => if v.vals.any (x == ·) then x else v.d
 | none => v.d := by
 unfold valOf valH
 cases h.find? fun x => x.n == v.h <;> rfl
theorem keyOf_iff {l : List Vary} (hl : Fine l) {h i : List Hd} : keyOf l h = keyOf l i ↔ ∀ v ∈ l, valOf v h = valOf v i := by
 constructor
 ·intro he v hv
  have := key_inj (hl.vals h) (hl.vals i) he
  obtain ⟨k, hk, rfl⟩ := yQ hv
  have h2 : (valsOf l h)[k]'(by simp [valsOf]; exact hk) = (valsOf l i)[k]'(by simp [valsOf]; exact hk) := by
   simp only [this]
  simpa [valsOf] using h2
 ·intro he
  have : valsOf l h = valsOf l i := List.map_congr_left he
  rw [keyOf, keyOf, this]
theorem split_some {a b : List Vary} {p : Pair} (h : splitP a b = some p) : keyOf a p.x = keyOf a p.y ∧ keyOf b p.x ≠ keyOf b p.y := by
 have := vN h
 simpa [apart] using this
def jn (b : List Vary) (v : Vary) : Vary := match b.find? (fun u => u.h == v.h) with
 | some u => ⟨v.h, uni v.vals u.vals, if v.d = u.d then v.d else []⟩
 | none => v
def joinL (a b : List Vary) : List Vary := a.map (jn b) ++ b.filter fun v => !a.any fun u => u.h == v.h
structure Covers (w v : Vary) : Prop where
 h : w.h = v.h
 vals : ∀ x ∈ v.vals, x ∈ w.vals
 d : w.d = [] ∨ w.d = v.d
theorem cover_vals {w v : Vary} (hc : Covers w v) (hw : ∀ x ∈ w.vals, x ≠ []) {h i : List Hd} (he : valOf w h = valOf w i) : valOf v h = valOf v i := by
 have hv : ∀ (o : Option S), (match valH w.h h with
  | some x => if w.vals.any (x == ·) then x else w.d
  | none => w.d) = valOf w h := fun _ => valOf_valH.symm
 have key : ∀ (o p : Option S), (match o with
   | some x => if w.vals.any (x == ·) then x else w.d
   | none => w.d) = (match p with
   | some x => if w.vals.any (x == ·) then x else w.d
   | none => w.d) → (match o with
   | some x => if v.vals.any (x == ·) then x else v.d
   | none => v.d) = (match p with
   | some x => if v.vals.any (x == ·) then x else v.d
   | none => v.d) := by
  have hsub : ∀ x, v.vals.any (x == ·) = true → w.vals.any (x == ·) = true := fun x hx => by
   rw [yL] at hx ⊢
   obtain ⟨y, hy, h2⟩ := hx
   exact ⟨y, hc.vals y hy, h2⟩
  have hne : ∀ x, w.vals.any (x == ·) = true → x ≠ [] := fun x hx => by
   rw [yL] at hx
   obtain ⟨y, hy, h2⟩ := hx
   rw [beq_iff_eq] at h2
   subst h2
   exact hw _ hy
  -- the value that counts for v is a function of that for w
  have f : ∀ (o : Option S), (match o with
   | some x => if v.vals.any (x == ·) then x else v.d
   | none => v.d) = (fun y => if y ≠ [] ∧ v.vals.any (y == ·) = true ∧ y ≠ w.d then y else v.d) (match o with
   | some x => if w.vals.any (x == ·) then x else w.d
   | none => w.d) := by
   intro o
   cases o with
   | none => simp
   | some x =>
    simp only
    cases hx : v.vals.any (x == ·) with
    | true =>
     have h1 := hsub x hx
     have h2 := hne x h1
     rw [if_pos rfl, if_pos h1]
     by_cases hd : x = w.d
     ·rw [if_neg (fun h => h.2.2 hd)]
      rcases hc.d with h3 | h3
      ·exact absurd (hd.trans h3) h2
      ·rw [hd, h3]
     ·rw [if_pos ⟨h2, hx, hd⟩]
    | false =>
     cases h1 : w.vals.any (x == ·) with
     | true => rw [if_neg (by simp), if_pos rfl, if_neg (fun h => by rw [hx] at h; exact absurd h.2.1 (by decide))]
     | false => rw [if_neg (by simp), if_neg (by simp)]
  intro o p hop
  rw [f o, f p, hop]
 rw [valOf_valH (v := v), valOf_valH (v := v)]
 rw [valOf_valH (v := w), valOf_valH (v := w), hc.h] at he
 exact key _ _ he
theorem cov_all {l a : List Vary} (hl : Fine l) (ha : Fine a) (hc : ∀ v ∈ a, ∃ w ∈ l, Covers w v) {h i : List Hd} (he : keyOf l h = keyOf l i) : keyOf a h = keyOf a i := by
 rw [keyOf_iff ha]
 intro v hv
 obtain ⟨w, hw, hcv⟩ := hc v hv
 exact cover_vals hcv (fun x hx => by
  have := (wordP_len (hl.x w hw x hx)).1
  rintro rfl
  simp at this) ((keyOf_iff hl).1 he w hw)
theorem cov_a {a b : List Vary} : ∀ v ∈ a, ∃ w ∈ joinL a b, Covers w v := fun v hv => by
 refine ⟨jn b v, uW _ (vJ.2 ⟨v, hv, rfl⟩), ?_⟩
 unfold jn
 split
 ·rename_i u hu
  refine ⟨rfl, fun x hx => (uni_both.2 x).2 (.inl hx), ?_⟩
  simp only
  split
  ·exact .inr rfl
  ·exact .inl rfl
 ·exact ⟨rfl, fun x hx => hx, .inr rfl⟩
theorem find_uniq {b : List Vary} (hd : b.Pairwise fun v u => v.h ≠ u.h) {v : Vary} (hv : v ∈ b) {s : S} (hs : v.h = s) : b.find? (fun u => u.h == s) = some v := by
 cases hf : b.find? (fun u => u.h == s) with
 | none =>
  rw [vC] at hf
  exact absurd (hf v hv) (by simp [hs])
 | some w =>
  have hw := uO hf
  have hws : w.h = s := by have := vN hf; simpa using this
  have : w = v := by
   rcases Classical.em (w = v) with h | h
   ·exact h
   ·exfalso
    obtain ⟨i, hi, rfl⟩ := yQ hw
    obtain ⟨j, hj, rfl⟩ := yQ hv
    have hp := vP.1 hd
    rcases Nat.lt_trichotomy i j with hij | hij | hij
    ·exact hp i j hi hj hij (hws.trans hs.symm)
    ·subst hij; exact h rfl
    ·exact hp j i hj hi hij (hs.trans hws.symm)
  rw [this]
theorem cov_b {a b : List Vary} (hb : Fine b) : ∀ v ∈ b, ∃ w ∈ joinL a b, Covers w v := fun v hv => by
 cases ha : a.any fun u => u.h == v.h with
 | false => exact ⟨v, List.mem_append_right _ (List.mem_filter.2 ⟨hv, by rw [ha]; rfl⟩), rfl, fun x hx => hx, .inr rfl⟩
 | true =>
  rw [yL] at ha
  obtain ⟨u, hu, he⟩ := ha
  rw [beq_iff_eq] at he
  refine ⟨jn b u, uW _ (vJ.2 ⟨u, hu, rfl⟩), ?_⟩
  have hf := find_uniq hb.dis hv (s := u.h) he.symm
  unfold jn
  rw [hf]
  refine ⟨he, fun x hx => (uni_both.2 x).2 (.inr hx), ?_⟩
  simp only
  split
  ·rename_i h; exact .inr h
  ·exact .inl rfl
theorem cov_split {l a : List Vary} (hl : Fine l) (ha : Fine a) (hc : ∀ v ∈ a, ∃ w ∈ l, Covers w v) : splitP l a = none := by
 cases h : splitP l a with
 | none => rfl
 | some p =>
  obtain ⟨h1, h2⟩ := split_some h
  exact absurd (cov_all hl ha hc h1) h2
end Go.Fx.W
namespace Go.Fx.W
open Go Go.Fx Go.Proofs Go.RowKit
set_option maxRecDepth 20000
theorem raw52 (l : List S) (hl : l.length ≤ 1000000) : Ok 52 [ss l] (fun r h => IsA (.sl 0 0 l.length) [.arr 1 (l.map encS)] r h ∨ (l = [] ∧ IsA .nil [] r h)) := by
 refine ok_of lw52 (by simp) ?_
 unfold c52 ss
 simp -implicitDefEqProofs only [rX,↓rY,ofConst,↓reduceIte,Nat.reduceEqDiff,reduceCtorEq,freshP,litsP,killE,killB,kill,St.kill,cxN,k_nil,args0]
 have hA : retP [] 0 [LRes.tmp 2] (fun r h => IsA (.sl 0 0 l.length) [.arr 1 (l.map encS)] r h ∨ (l = [] ∧ IsA .nil [] r h)) ⟨[(2, V.sl 0 0 l.length), (7, V.sl 0 0 l.length), (6, V.ro 1 (yJ encS l)), (5, V.any), (4, V.b false), (3, V.ro 1 (yJ encS l)), (2, V.v (Value.slice none 0 0)), (0, V.ro 1 (yJ encS l))], [Blk.arr 1 (yJ encS l), Blk.dead], 0⟩ := by
  rw [retP_eq]
  simp -implicitDefEqProofs only [rX,↓reduceIte,resP,tupV,keepP,liveP,wfV]
  exact ⟨[.arr 1 (l.map encS)], ⟨by simp [leH, leB], by simp [wfV, wfL, liveP], by simp [wfB]⟩, .inl ⟨rfl, rfl⟩⟩
 refine ⟨fun _ => ⟨.inr trivial, by omega, hA⟩, fun h => ⟨?_, .inr trivial, by omega, hA⟩⟩
 have h0 : l = [] := by simpa using h
 rw [retP_eq]
 simp -implicitDefEqProofs only [rX,↓reduceIte,resP,tupV,keepP,wfV]
 exact ⟨[], ⟨by simp [leH], by simp, by simp [wfB]⟩, .inr ⟨h0, rfl, rfl⟩⟩
theorem ok52A (l : List S) (hl : l.length ≤ 1000000) : Ok 52 [ss l] (IsA (.sl 0 0 l.length) [.arr 1 (l.map encS)]) := by
 refine okN_ghost (raw52 l hl) ?_
 rintro r h (⟨rfl, rfl⟩ | ⟨rfl, rfl, rfl⟩)
 ·exact ⟨_, _, ⟨rfl, rfl⟩, _, .refl _, by simp -implicitDefEqProofs only [rX,↓reduceIte,leE,leH,leB,keepP,liveP,wfE,wfB,wfV]⟩
 ·refine ⟨_, _, ⟨rfl, rfl⟩, _, .virt 1 1 (by decide) (.nilE 0 0 rfl (.refl _)), ?_⟩
  simp -implicitDefEqProofs only [rX,↓reduceIte,leE,leH,leB,keepP,liveP,wfE,wfB,wfV,uI]
theorem ok52 (l : List S) (hl : l.length ≤ 1000000) : Ok 52 [ss l] (Is (ss l)) := by
 refine ⟨rlF_callable lw52, Fn_give (R := fun q hs => wk (ss l) (gvV (fun _ => true) hs q)) ?_ fun _ _ h => h⟩
 refine (okN_post (ok52A l hl) ?_).2
 rintro r h ⟨rfl, rfl⟩
 have ht : yA l.length (l.map encS) = l.map encS := yD (by simp)
 simp [gvV, gvL, wk, wkL, wkR, ss, blk, ht]
theorem ok67 (l : List S) (hl : l.length < 4611686018427387904) : OkN Try.prog 67 [.sl 0 0 l.length] [.arr 1 (l.map encS)] [] (IsA (.sl 0 0 (Lib.compact l).length) [.arr 1 ((Lib.compact l ++ yG (l.length - (Lib.compact l).length) []).map encS)]) := by
 refine ⟨cal Try.func67 (by kernel_rfl) (by kernel_rfl), ?_⟩
 intro ρ X w vals hr ha
 match vals, ha with
 | [val], ⟨hv, _⟩ =>
 obtain ⟨cap, h1, h2, h3⟩ := hv
 rcases h3 with ⟨h4, a, rfl⟩ | ⟨hre, rfl, hroom⟩
 ·have hl0 : l = [] := vI.1 (by omega)
  subst hl0
  refine (Try.slices_Compact_string_empty a 0 w).mono ?_
  rintro e w' ⟨rfl, rfl⟩
  refine ⟨_, .sl 0 0 0, [.arr 1 []], ρ, rfl, ⟨⟨rfl, rfl⟩, yH _⟩, Fr.refl _ _, hr, ?_, fun _ _ _ => rfl⟩
  exact ⟨0, yH _, yI _, .inl ⟨rfl, a, rfl⟩⟩
 ·have hb := hr.blk 0 _ rfl
  obtain ⟨⟨hsz, _⟩, hb | ⟨_, c, T, hc, hcs, hlen, hels⟩⟩ := hb
  ·rw [hb.1] at hre; cases hre
  have hoff : (ρ 0).off + 0 * (ρ 0).sz = (ρ 0).off := by omega
  rw [hoff]
  rw [yW] at hlen
  have hg := fun j hj => repEls_s hels j hj
  have hH : Sort.Holds encStr w (ρ 0).blk (ρ 0).off l.toArray := by
   intro j hj
   have hj' : j < l.length := by simpa using hj
   refine ⟨?_, by simp [World.frozen?, hc]⟩
   rw [hg j hj']
   simp [hj']
   rfl
  refine (Try.slices_Compact_string (ρ 0).blk (ρ 0).off cap l w hH (by omega) (by simpa using h1)).mono ?_
  rintro e w' ⟨rfl, q, rfl⟩
  have hbl := hr.lt 0 hre
  generalize hL : Lib.compact l ++ yG (l.length - (Lib.compact l).length) [] = L
  have hsl : L.length = l.length := by
   rw [← hL, yK, List.length_replicate]
   have := cmp_len (l := l)
   omega
  have hw1 : (Sort.putRow encStr (Sort.ahead w q) (ρ 0).blk (ρ 0).off L.toArray).heap[(ρ 0).blk]? = some (.cells (Sort.putCells encStr (ρ 0).off L.toArray c) T (0, 0)) := by
   simp only [Sort.putRow, Sort.mapBlock, Sort.ahead]
   rw [vX, if_pos rfl, hc]
   rfl
  have hw2 : ∀ b, b < w.heap.size → b ≠ (ρ 0).blk → (Sort.putRow encStr (Sort.ahead w q) (ρ 0).blk (ρ 0).off L.toArray).heap[b]? = w.heap[b]? := by
   intro b hb hne
   simp only [Sort.putRow, Sort.mapBlock, Sort.ahead]
   rw [vX, if_neg (fun h => hne h.symm)]
  have hsize : w.heap.size ≤ (Sort.putRow encStr (Sort.ahead w q) (ρ 0).blk (ρ 0).off L.toArray).heap.size := by
   simp [Sort.putRow, Sort.mapBlock, Sort.ahead]
  have hfr : Fr ρ w ρ (Sort.putRow encStr (Sort.ahead w q) (ρ 0).blk (ρ 0).off L.toArray) := ⟨rfl, rfl, rfl, hsize, fun b hb ho => ⟨hw2 b hb fun h => ho ⟨0, hre, h.symm⟩, ho⟩⟩
  have hcell : ∀ j (hj : j < l.length), (Sort.putRow encStr (Sort.ahead w q) (ρ 0).blk (ρ 0).off L.toArray).cell? ⟨(ρ 0).blk, (ρ 0).off + j, none⟩ = some (.string (sb (L[j]'(by rw [hsl]; exact hj)))) := by
   intro j hj
   have hjc : (ρ 0).off + j < c.size := by rw [hcs]; rw [hsz] at hroom; omega
   simp only [World.cell?, hw1]
   simp [Sort.putCells, hjc, hsl, hj]
   rfl
  refine ⟨_, .sl 0 0 (Lib.compact l).length, [.arr 1 (L.map encS)], ρ, rfl, ⟨⟨rfl, rfl⟩, yH _⟩, hfr, ⟨hr.inj, hr.out, fun k b hk => ?_, hr.disj, fun k hk => yX (hr.lt k hk) hsize, fun b hb => yX (hr.xlt b hb) hsize⟩, ?_, fun _ _ _ => rfl⟩
  ·cases k with
   | succ k => simp at hk
   | zero =>
    simp only [vU, vT] at hk
    subst hk
    refine ⟨⟨hsz, by omega⟩, .inr ⟨hre, _, T, hw1, by simp [Sort.putCells, hcs], by rw [yW, hsl]; exact hlen, repEls_os fun j hj => ?_⟩⟩
    rw [hsl] at hj
    exact hcell j hj
  ·have hcl := cmp_len (l := l)
   exact ⟨cap, by omega, h2, .inr ⟨hre, by simp, hroom⟩⟩
set_option maxRecDepth 20000
theorem ok54 (a b : List S) (ha : a.length ≤ 100000) (hb : b.length ≤ 100000) : Ok 54 [ss a, ss b] (Is (ss (uni a b))) := by
 refine ⟨rlF_callable lw54, Fn_give (R := fun q hs => wk (ss (uni a b)) (gvV (fun _ => true) hs q)) ?_ fun _ _ h => h⟩
 refine (ok_of lw54 (by simp) ?_).2
 unfold c54 ss
 simp -implicitDefEqProofs only [rX,ofConst,↓reduceIte,reduceCtorEq,cxN,args0]
 refine call_isA [ss a] (.sl 0 0 a.length) (.sl 1 0 a.length) [.arr 1 (a.map encS)] [.arr 1 (a.map encS)] (ok52A a (by omega)) ⟨⟨trivial, trivial⟩, ⟨rfl, rfl⟩, trivial⟩ rfl (by simp [renB]) (by simp [keepP, liveP]) ?_
 simp -implicitDefEqProofs only [rX,↓rY,↓reduceIte,Nat.reduceEqDiff,Nat.reduceAdd,reduceCtorEq,killE,killB,kill,St.kill]
 have ht : yA a.length (a.map encS) ++ b.map encS = (a ++ b).map encS := by rw [yD (by simp), yU]
 rw [ht]
 refine ⟨.inr trivial, by omega, ?_⟩
 have hab : (a ++ b).length = a.length + b.length := yK
 have h66 := ok66 (a ++ b) (by omega)
 have h67 : OkN Try.prog 67 [.sl 0 0 (a.length + b.length)] [.arr 1 ((srt (a ++ b)).map encS)] [] (IsA (.sl 0 0 (uni a b).length) [.arr 1 ((uni a b ++ yG (a.length + b.length - (uni a b).length) ([] : S)).map encS)]) := by
  have h := ok67 (srt (a ++ b)) (by rw [srt_len]; omega)
  rw [srt_len, hab] at h
  exact h
 rw [hab] at h66
 refine call_isN [1] [.sl 0 0 (a.length + b.length)] (.tup []) (.tup []) [.arr 1 ((a ++ b).map encS)] [.arr 1 ((srt (a ++ b)).map encS)] _ h66 ⟨by simp, by simp⟩ rfl ?_ (by simp) rfl rfl ?_ ?_
 ·simp [lendsOk, lendOk, lends, lend, wkL, wk, wkR, pos]
 ·simp [setAll, keepP, liveP, renB]
 simp -implicitDefEqProofs only [rX,↓reduceIte,Nat.reduceEqDiff,Nat.reduceAdd,setAll,renB]
 refine call_isN [1] [.sl 0 0 (a.length + b.length)] (.sl 0 0 (uni a b).length) (.sl 1 0 (uni a b).length) [.arr 1 ((srt (a ++ b)).map encS)] [.arr 1 ((uni a b ++ yG (a.length + b.length - (uni a b).length) ([] : S)).map encS)] _ h67 ⟨by simp, by simp⟩ rfl ?_ (by simp) rfl rfl ?_ ?_
 ·simp [lendsOk, lendOk, lends, lend, wkL, wk, wkR, pos]
 ·simp [setAll, keepP, liveP, renB]
 simp -implicitDefEqProofs only [rX,↓reduceIte,Nat.reduceAdd,setAll,renB]
 rw [retP_eq]
 simp -implicitDefEqProofs only [rX,↓reduceIte,resP,tupV,keepP,liveP,wfV]
 refine ⟨[.dead, .arr 1 ((uni a b ++ yG (a.length + b.length - (uni a b).length) ([] : S)).map encS)], ⟨by simp [leH, leB], by simp [wfV, wfL, liveP], by simp [wfB]⟩, ?_⟩
 have ht2 : yA (uni a b).length ((uni a b ++ yG (a.length + b.length - (uni a b).length) ([] : S)).map encS) = (uni a b).map encS := by
  rw [yU, List.take_left' (by simp)]
 simp [gvV, gvL, wk, wkL, wkR, blk, ht2]
def bigr (out : List S) (x : S) : Bool := out.all (· < x)
structure UI (all out : List S) : Prop where
 asc : Asc out
 sub : ∀ x ∈ out, x ∈ all
 big : ∀ x ∈ all, x ∈ out ∨ bigr out x = true
structure UJ (all out : List S) (j : Nat) (best : S) (f : Bool) : Prop where
 hj : j ≤ all.length
 no : f = false → ∀ x ∈ all.take j, bigr out x = false
 yes : f = true → best ∈ all ∧ bigr out best = true ∧ ∀ x ∈ all.take j, bigr out x = true → best ≤ x
theorem bigr_last {out : List S} (h : Asc out) (h0 : 0 < out.length) {x : S} : bigr out x = decide (out[out.length - 1] < x) := by
 rw [vK, bigr, uP, decide_eq_true_eq]
 constructor
 ·intro h2
  simpa using h2 _ (yB (show out.length - 1 < out.length by omega))
 ·intro h2 y hy
  obtain ⟨i, hi, rfl⟩ := yQ hy
  simp only [decide_eq_true_eq]
  by_cases he : i = out.length - 1
  ·subst he; exact h2
  ·exact s_trans ((vP.1 h) i (out.length - 1) hi (by omega) (by omega)) h2
theorem ok51 (a b : List S) (ha : a.length ≤ 100000) (hb : b.length ≤ 100000) : Ok 51 [ss a, ss b] (Is (ss (uni a b))) := by
 refine ⟨rlF_callable lw51, Fn_give (R := fun q hs => wk (ss (uni a b)) (gvV (fun _ => true) hs q)) ?_ fun _ _ h => h⟩
 refine (ok_of lw51 (by simp) ?_).2
 unfold c51 ss
 simp -implicitDefEqProofs only [rX,↓rY,ofConst,↓reduceIte,Nat.reduceEqDiff,Nat.reduceAdd,reduceCtorEq,freshP,litsP,killE,killB,kill,St.kill,cxN,k_nil,args0]
 have ht : yA a.length (a.map encS) ++ b.map encS = (a ++ b).map encS := by rw [yD (by simp), yU]
 rw [ht]
 refine ⟨.inr trivial, by omega, .inr trivial, by omega, ?_⟩
 have hab : (a ++ b).length = a.length + b.length := yK
 have hres : ∀ out, UI (a ++ b) out → (∀ x ∈ a ++ b, bigr out x = false) → out = uni a b := fun out hU hn => by
  obtain ⟨h1, h2⟩ := uni_both (a := a) (b := b)
  refine asc_ext hU.asc h1 fun x => ?_
  rw [h2, ← yO]
  exact ⟨hU.sub x, fun hx => (hU.big x hx).resolve_right (by rw [hn x hx]; decide)⟩
 rw [← hab]
 generalize a ++ b = al at hab hres ⊢
 refine loopP_ghost (.virt 1 1 (by decide) (.nilE 6 3 rfl (.refl _))) (fun out : List S => ⟨[(6, .sl 3 0 out.length), (5, .sl 0 0 al.length)], [.arr 1 (al.map encS), .dead, .dead, .arr 1 (out.map encS)], 0⟩) (fun out => UI al out) (fun out => al.length + 1 - out.length) [] ⟨.nil, by simp, fun x _ => .inr rfl⟩ ?_ ?_
 ·simp -implicitDefEqProofs only [rX,↓reduceIte,Nat.reduceEqDiff,leE,leH,leB,keepP,liveP,wfE,wfB,wfV]
 intro out hU
 have hol : out.length ≤ al.length := nodup_len (asc_nodup hU.asc) hU.sub
 unfold c51l0
 simp -implicitDefEqProofs only [rX,↓rY,ofConst,↓reduceIte,Nat.reduceEqDiff,Nat.reduceAdd,k_nil]
 simp only [br, yC, decide_eq_true_eq, decide_eq_false_iff_not]
 refine fun _ _ => ⟨fun _ => ?_, fun h => absurd (by omega) h⟩
 refine loopP_intro (fun g : Nat × S × Bool => ⟨[(9, .i g.1), (8, .b g.2.2), (7, sv g.2.1), (6, .sl 3 0 out.length), (5, .sl 0 0 al.length)], [.arr 1 (al.map encS), .dead, .dead, .arr 1 (out.map encS)], 0⟩) (fun g => UJ al out g.1 g.2.1 g.2.2) (fun g => al.length - g.1) (0, [], false) ⟨yI _, fun _ x hx => by simp at hx, fun h => by cases h⟩ ?_ ?_
 ·simp -implicitDefEqProofs only [rX,↓reduceIte,Nat.reduceEqDiff,leE,leH,leB,keepP,liveP,wfE,wfB,wfV,yF]
 rintro ⟨j, best, f⟩ hJ
 have hj := hJ.hj
 unfold c51l1
 simp -implicitDefEqProofs only [rX,↓rY,ofConst,cells?,↓reduceIte,Nat.reduceEqDiff,arrSz,Nat.reduceAdd,reduceCtorEq,freshP,litsP,leE,leH,leB,keepP,liveP,wfE,wfB,wfV,killE,killB,kill,St.kill,isD,Nat.reduceLT,sb_list,less,encS_0]
 simp only [br, yC, decide_eq_true_eq, decide_eq_false_iff_not]
 refine fun _ => ⟨fun hlt => fun _ => ?_, fun hge => ?_⟩
 ·have hjl : j < al.length := by omega
  have htk : ∀ x, x ∈ al.take (j + 1) ↔ x ∈ al.take j ∨ x = al[j] := fun x => by
   rw [yM, yE hjl, yO]; exact or_congr Iff.rfl (by simp)
  have hT : bigr out al[j] = true → (f = true → al[j] ≤ best) → (lo IntKind.i64 ≤ (j : Int) + 1 ∧ (j : Int) + 1 ≤ hi IntKind.i64) ∧ ∃ g' : Nat × S × Bool, (UJ al out g'.1 g'.2.1 g'.2.2 ∧ al.length - g'.1 < al.length - j) ∧ (j : Int) + 1 = g'.1 ∧ true = g'.2.2 ∧ Value.string (sb al[j]) = Value.string (sb g'.2.1) := fun hb hf =>
   ⟨by simp only [lo, hi, maxLen] at *; omega, (j + 1, al[j], true), ⟨⟨by simp only; omega, (fun h => by cases h), fun _ => ⟨yB hjl, hb, fun x hx hbx => by
    rcases (htk x).1 hx with hx | rfl
    ·cases f with
     | false => rw [hJ.no rfl x hx] at hbx; cases hbx
     | true => exact s_le_trans (hf rfl) ((hJ.yes rfl).2.2 x hx hbx)
    ·exact List.le_refl _⟩⟩, by simp only; omega⟩, by simp, rfl, rfl⟩
  have hN : (bigr out al[j] = true → f = true ∧ best ≤ al[j]) → (lo IntKind.i64 ≤ (j : Int) + 1 ∧ (j : Int) + 1 ≤ hi IntKind.i64) ∧ ∃ g' : Nat × S × Bool, (UJ al out g'.1 g'.2.1 g'.2.2 ∧ al.length - g'.1 < al.length - j) ∧ (j : Int) + 1 = g'.1 ∧ f = g'.2.2 ∧ Value.string (sb best) = Value.string (sb g'.2.1) := fun hb =>
   ⟨by simp only [lo, hi, maxLen] at *; omega, (j + 1, best, f), ⟨⟨by simp only; omega, fun hf x hx => by
    rcases (htk x).1 hx with hx | rfl
    ·exact hJ.no hf x hx
    ·rw [Bool.eq_false_iff]
     intro h
     have := (hb h).1
     simp only at hf
     exact absurd (hf.symm.trans this) (by decide), fun hf => ⟨(hJ.yes hf).1, (hJ.yes hf).2.1, fun x hx hbx => by
    rcases (htk x).1 hx with hx | rfl
    ·exact (hJ.yes hf).2.2 x hx hbx
    ·exact (hb hbx).2⟩⟩, by simp only; omega⟩, by simp, rfl, rfl⟩
  have hB : bigr out al[j] = true → ((!f) = true → (0 ≤ (j : Int) ∧ (j : Int) < al.length) ∧ ∃ h : j < al.length, (lo IntKind.i64 ≤ (j : Int) + 1 ∧ (j : Int) + 1 ≤ hi IntKind.i64) ∧ ∃ g' : Nat × S × Bool, (UJ al out g'.1 g'.2.1 g'.2.2 ∧ al.length - g'.1 < al.length - j) ∧ (j : Int) + 1 = g'.1 ∧ true = g'.2.2 ∧ Value.string (sb al[j]) = Value.string (sb g'.2.1)) ∧ ((!f) = false → (0 ≤ (j : Int) ∧ (j : Int) < al.length) ∧ ∃ h : j < al.length, (al[j] < best → (0 ≤ (j : Int) ∧ (j : Int) < al.length) ∧ ∃ h : j < al.length, (lo IntKind.i64 ≤ (j : Int) + 1 ∧ (j : Int) + 1 ≤ hi IntKind.i64) ∧ ∃ g' : Nat × S × Bool, (UJ al out g'.1 g'.2.1 g'.2.2 ∧ al.length - g'.1 < al.length - j) ∧ (j : Int) + 1 = g'.1 ∧ true = g'.2.2 ∧ Value.string (sb al[j]) = Value.string (sb g'.2.1)) ∧ (¬ al[j] < best → (lo IntKind.i64 ≤ (j : Int) + 1 ∧ (j : Int) + 1 ≤ hi IntKind.i64) ∧ ∃ g' : Nat × S × Bool, (UJ al out g'.1 g'.2.1 g'.2.2 ∧ al.length - g'.1 < al.length - j) ∧ (j : Int) + 1 = g'.1 ∧ f = g'.2.2 ∧ Value.string (sb best) = Value.string (sb g'.2.1))) := fun hb =>
   ⟨fun hf => ⟨⟨by omega, hlt⟩, hjl, hT hb fun h => by rw [h] at hf; cases hf⟩, fun hf => ⟨⟨by omega, hlt⟩, hjl, fun hl => ⟨⟨by omega, hlt⟩, hjl, hT hb fun _ => s_le hl⟩, fun hl => hN fun _ => ⟨by simpa using hf, s_not.1 hl⟩⟩⟩
  refine ⟨fun h0 => hB ?_, fun h0 => ⟨⟨by omega, hlt⟩, hjl, fun _ => ⟨by simp only [lo, hi, maxLen] at *; omega, by have : out.length ≠ 0 := (by intro h; rw [h] at h0; simp at h0); omega, by have : out.length ≠ 0 := (by intro h; rw [h] at h0; simp at h0); omega, ?_⟩⟩⟩
  ·have : out = [] := vI.1 (by simpa using h0)
   rw [this]; rfl
  ·have hpos : 0 < out.length := by
    rcases Nat.eq_zero_or_pos out.length with h | h
    ·rw [h] at h0; simp at h0
    ·exact h
   have hi1 : ((out.length : Int) - 1).toNat = out.length - 1 := by omega
   have hbl := bigr_last hU.asc hpos (x := al[j])
   have he : (!(decide (al[j] < out[((out.length : Int) - 1).toNat]'(by omega)) || al[j] == out[((out.length : Int) - 1).toNat]'(by omega))) = bigr out al[j] := by
    simp only [hi1]
    rw [hbl, vK]
    simp only [yY, uN, decide_eq_false_iff_not, beq_eq_false_iff_ne, decide_eq_true_eq]
    exact ⟨fun h => lt_or h.1 h.2, fun h => ⟨fun h2 => s_irr (s_trans h h2), fun h2 => s_irr (h2 ▸ h)⟩⟩
   rw [he]
   exact ⟨fun hb => hB hb, fun hb => hN fun h => by rw [hb] at h; cases h⟩
 ·have hjl : j = al.length := by omega
  subst hjl
  have hall : ∀ x ∈ al, x ∈ al.take al.length := fun x hx => by rw [yV]; exact hx
  refine ⟨fun hf => ?_, fun hf => ?_⟩
  ·have hf : f = false := by simpa using hf
   have ho := hres out hU fun x hx => hJ.no hf x (hall x hx)
   rw [retP_eq]
   simp -implicitDefEqProofs only [rX,↓reduceIte,resP,tupV,keepP,liveP,wfV]
   refine ⟨[.dead, .dead, .dead, .arr 1 (out.map encS)], ⟨by simp [leH, leB], by simp [wfV, wfL, liveP], by simp [wfB]⟩, ?_⟩
   have ht2 : yA out.length (out.map encS) = out.map encS := yD (by simp)
   rw [← ho]
   simp [gvV, gvL, wk, wkL, wkR, blk, ht2]
  ·have hf : f = true := by simpa using hf
   obtain ⟨h1, h2, h3⟩ := hJ.yes hf
   simp only at h1 h2 h3
   have h2' : ∀ y ∈ out, y < best := fun y hy => by
    rw [bigr, uP] at h2
    simpa using h2 y hy
   have ht2 : yA out.length (out.map encS) = out.map encS := yD (by simp)
   refine ⟨by omega, out ++ [best], ⟨⟨?_, ?_, ?_⟩, by simp; omega⟩, by simp, by rw [ht2]; simp [encS]⟩
   ·rw [Asc, uT]
    refine ⟨hU.asc, by simp, fun x hx y hy => ?_⟩
    rw [yT] at hy
    subst hy
    exact h2' x hx
   ·intro x hx
    rcases yO.1 hx with h | h
    ·exact hU.sub x h
    ·rw [yT] at h; subst h; exact h1
   ·intro x hx
    rw [yO, yT]
    rcases hU.big x hx with h | h
    ·exact .inl (.inl h)
    ·have hle := h3 x (hall x hx) h
     by_cases he : x = best
     ·exact .inl (.inr he)
     ·right
      rw [bigr, uP]
      intro y hy
      rw [decide_eq_true_eq]
      rcases yO.1 hy with hy | hy
      ·exact s_trans (h2' y hy) (s_lt hle fun h => he h.symm)
      ·rw [yT] at hy
       subst hy
       exact s_lt hle fun h => he h.symm
set_option maxRecDepth 20000
theorem ok14 (l : List Vary) (h : List Hd) (hl : Fine l) : Ok 14 [vs l, hs h] (Is (sv (keyOf l h))) := by
 refine ok_of lw14 (by simp) ?_
 unfold c14 vs hs
 simp -implicitDefEqProofs only [rX,↓rY,ofConst,↓reduceIte,reduceCtorEq,freshP,cxN,k_nil,args0]
 have hn := hl.n
 have hP : (valsOf l h).length = l.length := by simp [valsOf]
 refine fun hm => ⟨⟨by omega, by omega, by omega⟩, fun _ => ?_⟩
 refine loopP_intro (fun k : Nat => ⟨[(13, .i k), (12, .i l.length), (11, vs l), (5, .sl 0 0 l.length), (0, vs l), (1, hs h)], [.arr 1 ((fillS (valsOf l h) k).map encS)], 0⟩) (fun k => k ≤ l.length) (fun k => l.length - k) 0 (yI _) ?_ ?_
 ·rw [fillS_0, hP]
  simp -implicitDefEqProofs only [rX,↓reduceIte,Nat.reduceEqDiff,reduceCtorEq,leE,leH,leB,keepP,liveP,wfE,wfB,wfV,yF,vs,hs,List.map_replicate]
  simp [encS]
 rintro k hk
 have hF : (fillS (valsOf l h) k).length = l.length := (fillS_len (by omega)).trans hP
 unfold c14l0 vs hs
 simp -implicitDefEqProofs only [rX,↓rY,ofConst,cells?,splice,↓reduceIte,Nat.reduceEqDiff,Nat.reduceAdd,reduceCtorEq,freshP,vr_len,vr_t,vr_C,k_nil]
 simp only [br, yC, decide_eq_true_eq, decide_eq_false_iff_not]
 refine ⟨fun hlt => ?_, fun hlt => ?_⟩
 ·have hkl : k < l.length := by omega
  refine ⟨⟨by omega, hlt⟩, hkl, ?_⟩
  refine call_is (ok18 l[k] h) ⟨⟨⟨trivial, trivial, trivial, trivial⟩, trivial, trivial⟩, ⟨rfl, ⟨rfl, rfl⟩, rfl, trivial⟩, ⟨rfl, rfl⟩, trivial⟩ rfl (by simp [keepP, liveP]) ?_
  simp -implicitDefEqProofs only [rX,↓rY,ofConst,cells?,splice,↓reduceIte,Nat.reduceEqDiff,arrSz,Nat.reduceAdd,reduceCtorEq,leE,leH,leB,keepP,liveP,wfE,wfB,wfV,isD,isC,hF]
  have hset : ((fillS (valsOf l h) k).map encS).set k [V.v (Value.string (sb (valOf l[k] h)))] = (fillS (valsOf l h) (k + 1)).map encS := by
   have h1 : k < (valsOf l h).length := by omega
   rw [← fillS_set h1, List.map_set]
   simp [valsOf, encS]
  have hd : ∀ x : S, vM 1 (encS x) = [] := fun _ => rfl
  refine ⟨⟨by omega, hlt⟩, by omega, ⟨by simp only [lo]; omega, by simp only [hi]; omega⟩, k + 1, ⟨by omega, by omega⟩, by simp, ?_⟩
  rw [hd, hset]
 ·have hkl : k = l.length := by omega
  subst hkl
  have hfa : fillS (valsOf l h) l.length = valsOf l h := by
   have := fillS_all (P := valsOf l h)
   rwa [hP] at this
  rw [hfa]
  have hrow : yA (valsOf l h).length ((valsOf l h).map encS) = (valsOf l h).map encS := yD (by simp)
  rw [← hP]
  refine call_is (ok37 l (valsOf l h) (hl.small (hl.vals h))) ⟨⟨trivial, ?_, trivial⟩, ⟨rfl, rfl⟩, ⟨rfl, hrow⟩, trivial⟩ rfl (by simp [keepP, liveP]) ?_
  ·show 0 + (valsOf l h).length ≤ ((valsOf l h).map encS).length
   simp
  simp -implicitDefEqProofs only [rX,↓reduceIte,resP,tupV,wfV]
  rfl
theorem ok15 (l : List Vary) (a b : List Hd) (hl : Fine l) : Ok 15 [vs l, hs a, hs b] (Is (.b (keyOf l a == keyOf l b))) := by
 refine ok_of lw15 (by simp) ?_
 unfold c15 vs hs
 simp -implicitDefEqProofs only [rX,ofConst,↓reduceIte,Nat.reduceEqDiff,Nat.reduceAdd,reduceCtorEq,cxN,args0]
 refine call_is (ok14 l a hl) ⟨⟨trivial, trivial, trivial⟩, ⟨rfl, rfl⟩, ⟨rfl, rfl⟩, trivial⟩ rfl trivial ?_
 simp -implicitDefEqProofs only [rX,↓reduceIte,Nat.reduceEqDiff,reduceCtorEq]
 refine call_is (ok14 l b hl) ⟨⟨trivial, trivial, trivial⟩, ⟨rfl, rfl⟩, ⟨rfl, rfl⟩, trivial⟩ rfl trivial ?_
 simp -implicitDefEqProofs only [rX,↓rY,↓reduceIte,Nat.reduceEqDiff,resP,tupV,wfV,sb_list]
set_option maxRecDepth 20000
theorem chk_len {l : List Vary} (h : chk l = 0) : l.length ≤ 8 := (fine_of h).n
theorem ok12 (l : List Vary) (hl : ∀ v ∈ l, v.Ok) : Ok 12 [vs l] (Is (.b (chk l == 0))) := by
 refine ok_of lw12 (by simp) ?_
 unfold c12 vs
 simp -implicitDefEqProofs only [rX,↓rY,ofConst,↓reduceIte,reduceCtorEq,resP,tupV,wfV,cxN,args0]
 intro hm
 simp only [br, decide_eq_true_eq, decide_eq_false_iff_not]
 refine ⟨fun h => ?_, fun h => ?_⟩
 ·cases hc : chk l == 0 with
  | false => rfl
  | true =>
   have := chk_len (by simpa using hc)
   omega
 ·refine call_is (ok11 l hl) ⟨⟨trivial, trivial⟩, ⟨rfl, rfl⟩, trivial⟩ rfl trivial ?_
  simp -implicitDefEqProofs only [rX,↓rY,ofConst,↓reduceIte,resP,tupV,wfV]
set_option maxRecDepth 20000
set_option maxRecDepth 20000
theorem ok20 (a b : List S) : Ok 20 [ss a, ss b] (Is (.b (a == b))) := by
 refine ok_of lw20 (by simp) ?_
 unfold c20 ss
 simp -implicitDefEqProofs only [rX,↓rY,ofConst,↓reduceIte,Nat.reduceEqDiff,reduceCtorEq,resP,tupV,wfV,cxN,args0]
 simp only [br, bne_iff_ne, ne_eq, bne_eq_false_iff_eq]
 refine fun _ _ => ⟨fun h => ?_, fun h => ?_⟩
 ·symm
  rw [beq_eq_false_iff_ne]
  intro he
  rw [he] at h
  exact h rfl
 have hab : a.length = b.length := by omega
 refine loopP_intro (fun k : Nat => ⟨[(5, .i k), (0, ss a), (1, ss b)], [], 0⟩) (fun k => k ≤ a.length ∧ ∀ j (h1 : j < a.length) (h2 : j < b.length), j < k → a[j] = b[j]) (fun k => a.length - k) 0 ⟨yI _, fun _ _ _ h => absurd h (vY _)⟩ ?_ ?_
 ·simp -implicitDefEqProofs only [rX,↓reduceIte,Nat.reduceEqDiff,reduceCtorEq,leE,leH,keepP,wfE,wfB,wfV,yF,ss]
 rintro k ⟨hk, hv⟩
 unfold c20l0 ss
 simp -implicitDefEqProofs only [rX,↓rY,ofConst,↓reduceIte,Nat.reduceEqDiff,reduceCtorEq,resP,tupV,leE,leH,keepP,wfE,wfB,wfV,sb_list,encS_0]
 simp only [br, yC, decide_eq_true_eq, decide_eq_false_iff_not]
 refine fun _ => ⟨fun h => ⟨⟨by omega, h⟩, by omega, ⟨by omega, by omega⟩, by omega, fun hb => ?_, fun hb => ⟨by simp only [lo, hi, maxLen] at *; omega, k + 1, ⟨⟨by omega, fun j h1 h2 h3 => ?_⟩, by omega⟩, by simp⟩⟩, fun h => ?_⟩
 ·symm
  rw [beq_eq_false_iff_ne]
  rintro rfl
  simp at hb
 ·by_cases hj : j = k
  ·subst hj
   simpa using hb
  ·exact hv j h1 h2 (by omega)
 ·symm
  rw [beq_iff_eq]
  exact List.ext_getElem hab fun j h1 h2 => hv j h1 h2 (by omega)
set_option maxRecDepth 20000
set_option maxRecDepth 20000
theorem bne_i (x : Int) : (x != x) = false := by simp
def frzQ (fx : List Nat) (v : V) (r : List Nat) (s : St) (K : St → Prop) : Prop :=
 match v with
 | .sl k _ _ => frz1 fx k (blk s.h k) s fun s' => frzP fx r s' K
 | _ => frzP fx r s K
theorem frzP_n {fx : List Nat} {s : St} {K : St → Prop} : frzP fx [] s K = K s := rfl
theorem frzP_c {fx : List Nat} {x : Nat} {r : List Nat} {e : Env} {h : List Blk} {b : Nat} {K : St → Prop} : frzP fx (x :: r) ⟨e, h, b⟩ K = frzQ fx (get e x) r ⟨e, h, b⟩ K := rfl
theorem frzQ_s {fx : List Nat} {k i n : Nat} {r : List Nat} {e : Env} {h : List Blk} {b : Nat} {K : St → Prop} : frzQ fx (.sl k i n) r ⟨e, h, b⟩ K = frz1 fx k (blk h k) ⟨e, h, b⟩ fun s' => frzP fx r s' K := rfl
theorem frz1_a {fx : List Nat} {k sz : Nat} {els : List (List V)} {e : Env} {h : List Blk} {b : Nat} {K : St → Prop} : frz1 fx k (.arr sz els) ⟨e, h, b⟩ K = (k ∉ fx ∧ K ⟨frzE k sz els e, (h.map (frzB k sz els)).set k .dead, b⟩) := rfl
@[congr] theorem c_frzQ {fx : List Nat} {v v' : V} {r : List Nat} {s : St} {K : St → Prop} (q : v = v') : frzQ fx v r s K = frzQ fx v' r s K := by rw [q]
@[congr] theorem c_frz1 {fx : List Nat} {k : Nat} {B B' : Blk} {s : St} {K : St → Prop} (q : B = B') : frz1 fx k B s K = frz1 fx k B' s K := by rw [q]
@[congr] theorem c_frzP {fx xs : List Nat} {s s' : St} {K : St → Prop} (q : s = s') : frzP fx xs s K = frzP fx xs s' K := by rw [q]
theorem op_litsf {cx : Cx} {e : Env} {h : List Blk} {b : Nat} {K : V → St → Prop} {xs : List Nat} {j sz n : Nat} {z : List Value} {ps : List (Nat × Operand)} : aOp cx (.litsf xs j sz n z ps) ⟨e, h, b⟩ K =
  frzP (cx.fx ++ cx.bn) xs ⟨e, h, b⟩ fun s => litsP s.e sz (yG n (z.map .v)) ps fun els => freshP s.h (s.b + j) ∧ K (.sl (s.b + j) 0 n) { s with h := s.h.set (s.b + j) (.arr sz els) } := rfl
theorem frzQ_a {fx : List Nat} {l : List V} {r : List Nat} {s : St} {K : St → Prop} : frzQ fx (.agg l) r s K = frzP fx r s K := rfl
set_option maxRecDepth 20000
set_option maxRecDepth 20000
def rowH (h : List Hd) : V := if h = [] then .nil else hs h
def encH (h : List Hd) : List V := [rowH h]
def hls (L : List (List Hd)) : V := .ro 1 (L.map encH)
theorem encH_0 {s : List Hd} : (encH s)[0]? = some (rowH s) := rfl
theorem rowH_lend {h : List Blk} {f : Nat → Option Nat} {xs : List Hd} : lendOk h f (rowH xs) ∧ lend h f (rowH xs) = rowH xs := by
 unfold rowH
 split
 ·exact ⟨trivial, rfl⟩
 ·exact ⟨trivial, rfl⟩
theorem rowH_wk {xs : List Hd} : wk (hs xs) (rowH xs) := by
 unfold rowH hs
 split
 ·rename_i h; subst h; exact rfl
 ·exact ⟨rfl, rfl⟩
theorem idxI_cases {p : Vary → Bool} {l : List Vary} : (idxI p l = -1 ∧ l.find? p = none) ∨ ∃ k : Nat, idxI p l = k ∧ ∃ hk : k < l.length, l.find? p = some l[k] := by
 cases ha : l.any p with
 | false => exact .inl ⟨idxI_no ha, find_no ha⟩
 | true =>
  obtain ⟨j, h1, h2, h3⟩ := find_idx ha
  exact .inr ⟨j, h1, h2, h3⟩
theorem ok50 (a : List Vary) (ha : Fine a) (v : Vary) (hv : v.vals.length ≤ 16) : Ok 50 [vs a, .agg v.enc] (Is (hls (smp a v))) := by
 refine ⟨rlF_callable lw50, Fn_give (R := fun q hs => wk (hls (smp a v)) (gvV (fun _ => true) hs q)) ?_ fun _ _ h => h⟩
 refine (ok_of lw50 (by simp) ?_).2
 unfold c50 vs
 simp -implicitDefEqProofs only [rX,↓rY,ofConst,cells?,↓reduceIte,Nat.reduceEqDiff,reduceCtorEq,freshP,cxN,vr_0,vr_1,args0]
 refine call_is (ok53 a v.h) ⟨⟨trivial, trivial, trivial⟩, ⟨rfl, rfl⟩, rfl, trivial⟩ rfl (by simp [keepP, liveP]) ?_
 have hL : (smpV a v).length ≤ 32 := by
  unfold smpV
  split
  ·rename_i u hu
   have h1 := uni_len (a := v.vals) (b := u.vals)
   have h2 := ha.v u (find_hd hu).1
   omega
  ·omega
 rcases idxI_cases (p := fun u : Vary => u.h == v.h) (l := a) with ⟨h1, h2⟩ | ⟨k, h1, hk, h2⟩
 ·have hsv : smpV a v = v.vals := by simp only [smpV, h2]
  rw [h1]
  have h0 : decide ((-1 : Int) ≥ 0) = false := rfl
  simp -implicitDefEqProofs only [rX,↓rY,ofConst,↓reduceIte,Nat.reduceEqDiff,reduceCtorEq,vr_1,h0]
  rw [← hsv]
  refine fun _ => ?_
  have hsm : smp a v = (smpV a v).map (fun x => [(⟨v.h, x⟩ : Hd)]) ++ [[]] := rfl
  rw [hsm]
  generalize smpV a v = W at hL ⊢
  refine loopP_ghost (.virt 1 1 (by decide) (.nilE 7 1 rfl (.refl _))) (fun k : Nat => ⟨[(27, .i k), (26, .i W.length), (25, .ro 1 (W.map encS)), (7, .sl 1 0 ((W.take k).map fun x => [(⟨v.h, x⟩ : Hd)]).length), (3, .ptr 0 0 0)], [.var v.enc, .arr 1 (((W.take k).map fun x => [(⟨v.h, x⟩ : Hd)]).map encH)], 0⟩) (fun k => k ≤ W.length) (fun k => W.length - k) 0 (yI _) ?_ ?_
  ·simp -implicitDefEqProofs only [rX,↓reduceIte,Nat.reduceEqDiff,leE,leH,leB,keepP,liveP,wfE,wfB,wfV,vr_le,vr_wf,yF]
  rintro k hk
  have hkl : (W.take k).length = k := by rw [yP]; omega
  unfold c50l0
  simp -implicitDefEqProofs only [rX,↓rY,ofConst,cells?,splice,↓reduceIte,Nat.reduceEqDiff,Nat.reduceAdd,reduceCtorEq,freshP,buildP,litsP,killE,killB,kill,St.kill,isD,Nat.reduceLT,Nat.reduceLeDiff,encS_0,vr_0,k_nil,hkl]
  simp only [br, yC, decide_eq_true_eq, decide_eq_false_iff_not]
  refine ⟨fun hlt => ⟨⟨by omega, hlt⟩, by omega, ?_⟩, fun hlt => ?_⟩
  ·have hkW : k < W.length := by omega
   simp -implicitDefEqProofs only [rX,↓rY,ofConst,cells?,↓reduceIte,Nat.reduceEqDiff,Nat.reduceAdd,reduceCtorEq,freshP,litsP,leE,leH,leB,keepP,liveP,wfE,wfB,wfV,killE,killB,kill,kills,St.kill,isD,Nat.reduceLT,vr_wf,↓op_litsf,↓frzP_n,↓frzP_c,↓frzQ_s,↓frz1_a,frzE,frzV,frzL,frzB]
   have htk : W.take (k + 1) = W.take k ++ [W[k]] := by rw [yM, yE hkW]; rfl
   have hto : yA k (((W.take k).map fun x => [(⟨v.h, x⟩ : Hd)]).map encH) = ((W.take k).map fun x => [(⟨v.h, x⟩ : Hd)]).map encH := yD (by simp; omega)
   refine ⟨⟨by omega, by omega⟩, by simp only [lo, hi, maxLen] at *; omega, k + 1, ⟨by omega, by omega⟩, ⟨by simp, by rw [yP, uA (by omega)]⟩, ⟨rfl, rfl, rfl, trivial⟩, ?_⟩
   rw [hto, htk]
   simp only [yU, vG, vR]
   rfl
  ·have hkW : k = W.length := by omega
   subst hkW
   rw [yV, yD (by simp), retP_eq]
   refine ⟨by omega, ?_⟩
   simp -implicitDefEqProofs only [rX,↓reduceIte,resP,tupV,keepP,liveP,wfV]
   have hE : (W.map fun x => [(⟨v.h, x⟩ : Hd)]).map encH ++ [[V.v (Value.slice none 0 0)]] = ((W.map fun x => [(⟨v.h, x⟩ : Hd)]) ++ [[]]).map encH := by rw [yU]; rfl
   rw [hE]
   generalize hG : (W.map fun x => [(⟨v.h, x⟩ : Hd)]) ++ [[]] = G
   have hGl : W.length + 1 = (G.map encH).length := by rw [← hG]; simp
   refine ⟨[.dead, .arr 1 (G.map encH)], ⟨by simp [leH, leB], by simp [wfV, wfL, liveP], by simp [wfB]⟩, ?_⟩
   rw [hGl]
   simp [gvV, gvL, wk, wkL, wkR, blk, hls]
   exact yD (by simp)
 ·have hsv : smpV a v = uni v.vals a[k].vals := by simp only [smpV, h2]
  rw [h1]
  have h0 : decide ((k : Int) ≥ 0) = true := decide_eq_true (by omega)
  simp -implicitDefEqProofs only [rX,↓rY,ofConst,↓reduceIte,Nat.reduceEqDiff,reduceCtorEq,vr_1,h0]
  refine ⟨⟨by omega, by omega⟩, hk, ?_⟩
  refine call_is (ok54 v.vals a[k].vals (by omega) (by have := ha.v _ (yB hk); omega)) ⟨⟨trivial, trivial, trivial⟩, ⟨rfl, rfl⟩, ⟨rfl, rfl⟩, trivial⟩ rfl (by simp [keepP, liveP]) ?_
  rw [← hsv]
  simp -implicitDefEqProofs only [rX,↓rY,ofConst,↓reduceIte,Nat.reduceEqDiff,ss]
  refine fun _ => ?_
  have hsm : smp a v = (smpV a v).map (fun x => [(⟨v.h, x⟩ : Hd)]) ++ [[]] := rfl
  rw [hsm]
  generalize smpV a v = W at hL ⊢
  refine loopP_ghost (.virt 1 1 (by decide) (.nilE 7 1 rfl (.refl _))) (fun k : Nat => ⟨[(27, .i k), (26, .i W.length), (25, .ro 1 (W.map encS)), (7, .sl 1 0 ((W.take k).map fun x => [(⟨v.h, x⟩ : Hd)]).length), (3, .ptr 0 0 0)], [.var v.enc, .arr 1 (((W.take k).map fun x => [(⟨v.h, x⟩ : Hd)]).map encH)], 0⟩) (fun k => k ≤ W.length) (fun k => W.length - k) 0 (yI _) ?_ ?_
  ·simp -implicitDefEqProofs only [rX,↓reduceIte,Nat.reduceEqDiff,leE,leH,leB,keepP,liveP,wfE,wfB,wfV,vr_le,vr_wf,yF]
  rintro k hk
  have hkl : (W.take k).length = k := by rw [yP]; omega
  unfold c50l0
  simp -implicitDefEqProofs only [rX,↓rY,ofConst,cells?,splice,↓reduceIte,Nat.reduceEqDiff,Nat.reduceAdd,reduceCtorEq,freshP,buildP,litsP,killE,killB,kill,St.kill,isD,Nat.reduceLT,Nat.reduceLeDiff,encS_0,vr_0,k_nil,hkl]
  simp only [br, yC, decide_eq_true_eq, decide_eq_false_iff_not]
  refine ⟨fun hlt => ⟨⟨by omega, hlt⟩, by omega, ?_⟩, fun hlt => ?_⟩
  ·have hkW : k < W.length := by omega
   simp -implicitDefEqProofs only [rX,↓rY,ofConst,cells?,↓reduceIte,Nat.reduceEqDiff,Nat.reduceAdd,reduceCtorEq,freshP,litsP,leE,leH,leB,keepP,liveP,wfE,wfB,wfV,killE,killB,kill,kills,St.kill,isD,Nat.reduceLT,vr_wf,↓op_litsf,↓frzP_n,↓frzP_c,↓frzQ_s,↓frz1_a,frzE,frzV,frzL,frzB]
   have htk : W.take (k + 1) = W.take k ++ [W[k]] := by rw [yM, yE hkW]; rfl
   have hto : yA k (((W.take k).map fun x => [(⟨v.h, x⟩ : Hd)]).map encH) = ((W.take k).map fun x => [(⟨v.h, x⟩ : Hd)]).map encH := yD (by simp; omega)
   refine ⟨⟨by omega, by omega⟩, by simp only [lo, hi, maxLen] at *; omega, k + 1, ⟨by omega, by omega⟩, ⟨by simp, by rw [yP, uA (by omega)]⟩, ⟨rfl, rfl, rfl, trivial⟩, ?_⟩
   rw [hto, htk]
   simp only [yU, vG, vR]
   rfl
  ·have hkW : k = W.length := by omega
   subst hkW
   rw [yV, yD (by simp), retP_eq]
   refine ⟨by omega, ?_⟩
   simp -implicitDefEqProofs only [rX,↓reduceIte,resP,tupV,keepP,liveP,wfV]
   have hE : (W.map fun x => [(⟨v.h, x⟩ : Hd)]).map encH ++ [[V.v (Value.slice none 0 0)]] = ((W.map fun x => [(⟨v.h, x⟩ : Hd)]) ++ [[]]).map encH := by rw [yU]; rfl
   rw [hE]
   generalize hG : (W.map fun x => [(⟨v.h, x⟩ : Hd)]) ++ [[]] = G
   have hGl : W.length + 1 = (G.map encH).length := by rw [← hG]; simp
   refine ⟨[.dead, .arr 1 (G.map encH)], ⟨by simp [leH, leB], by simp [wfV, wfL, liveP], by simp [wfB]⟩, ?_⟩
   rw [hGl]
   simp [gvV, gvL, wk, wkL, wkR, blk, hls]
   exact yD (by simp)
set_option maxRecDepth 20000
structure NoP (a b : List Vary) (l : List Pair) : Prop where
 h : ∀ p ∈ l, apart a b p.x p.y = false
theorem NoP.nil {a b : List Vary} : NoP a b [] := ⟨fun p h => by simp at h⟩
theorem NoP.app {a b : List Vary} {l m : List Pair} (h1 : NoP a b l) (h2 : NoP a b m) : NoP a b (l ++ m) := ⟨fun p h => by
 rcases yO.1 h with h | h
 ·exact h1.h p h
 ·exact h2.h p h⟩
theorem NoP.find {a b : List Vary} {l : List Pair} (h : NoP a b l) {p : Pair} (hp : apart a b p.x p.y = true) {post : List Pair} : (l ++ p :: post).find? (fun p => apart a b p.x p.y) = some p := by
 rw [List.find?_append]
 have : l.find? (fun p => apart a b p.x p.y) = none := by
  rw [vC]; intro q hq; simp [h.h q hq]
 rw [this]
 simp [hp]
theorem NoP.no {a b : List Vary} {l : List Pair} (h : NoP a b l) : l.find? (fun p => apart a b p.x p.y) = none := by
 rw [vC]; intro q hq; simp [h.h q hq]
def prsIJ (L : List (List Hd)) (i j : Nat) : List Pair := ((L.drop (i + 1)).take (j - (i + 1))).map fun y => ⟨L.getD i [], y⟩
def befP (a b : List Vary) (n : Nat) : List Pair := (b.take n).flatMap fun v => prs (smp a v)
def befI (L : List (List Hd)) (i : Nat) : List Pair := (yN i).flatMap (prsAt L)
theorem befP_1 {a b : List Vary} {n : Nat} (hn : n < b.length) : befP a b (n + 1) = befP a b n ++ prs (smp a b[n]) := by
 rw [befP, yM, yE hn, yZ]; simp [befP]
theorem befI_1 {L : List (List Hd)} {i : Nat} : befI L (i + 1) = befI L i ++ prsAt L i := by
 rw [befI, List.range_succ, yZ]; simp [befI]
theorem prsIJ_0 {L : List (List Hd)} {i : Nat} : prsIJ L i (i + 1) = [] := by simp [prsIJ]
theorem prsIJ_1 {L : List (List Hd)} {i j : Nat} (hij : i < j) (hj : j < L.length) : prsIJ L i (j + 1) = prsIJ L i j ++ [⟨L[i], L[j]⟩] := by
 rw [prsIJ, show j + 1 - (i + 1) = (j - (i + 1)) + 1 by omega, yM, List.getElem?_drop, show i + 1 + (j - (i + 1)) = j by omega, yE hj]
 simp [prsIJ, yE (show i < L.length by omega)]
theorem prsIJ_all {L : List (List Hd)} {i : Nat} (hi : i < L.length) : prsIJ L i L.length = prsAt L i := by
 rw [prsIJ, yD (by simp)]; rfl
theorem prsAt_pre {L : List (List Hd)} {i j : Nat} (hij : i < j) (hj : j < L.length) : ∃ post, prsAt L i = prsIJ L i j ++ ⟨L[i], L[j]⟩ :: post := by
 refine ⟨((L.drop (i + 1)).drop (j + 1 - (i + 1))).map fun y => ⟨L.getD i [], y⟩, ?_⟩
 have h := prsIJ_1 hij hj
 have h2 : prsAt L i = prsIJ L i (j + 1) ++ ((L.drop (i + 1)).drop (j + 1 - (i + 1))).map fun y => ⟨L.getD i [], y⟩ := by
  rw [prsIJ, ← yU, uL]; rfl
 rw [h2, h]; simp
theorem prs_pre {L : List (List Hd)} {i : Nat} (hi : i < L.length) : ∃ post, prs L = befI L i ++ (prsAt L i ++ post) := by
 refine ⟨(uE (i + 1) (L.length - (i + 1))).flatMap (prsAt L), ?_⟩
 have h : yN L.length = yN (i + 1) ++ uE (i + 1) (L.length - (i + 1)) := by
  rw [uF, uF]
  have := List.range'_append_1 (s := 0) (m := i + 1) (n := L.length - (i + 1))
  rw [vQ] at this
  rw [this]
  congr 1; omega
 rw [prs, h, yZ, ← vZ, ← befI_1]; rfl
theorem befI_all {L : List (List Hd)} : befI L L.length = prs L := rfl
theorem all_pre {a b : List Vary} {n : Nat} (hn : n < b.length) : ∃ post, (b.flatMap fun v => prs (smp a v)) = befP a b n ++ (prs (smp a b[n]) ++ post) := by
 refine ⟨(b.drop (n + 1)).flatMap fun v => prs (smp a v), ?_⟩
 rw [← vZ, ← befP_1 hn, befP, ← yZ, uL]
structure SI1 (a b : List Vary) (n : Nat) : Prop where
 hn : n ≤ b.length
 no : NoP a b (befP a b n)
theorem SI1.none {a b : List Vary} (h : SI1 a b b.length) : splitP a b = none := by
 have := h.no.no
 rwa [befP, yV] at this
theorem split_at {a b : List Vary} {n i j : Nat} {L : List (List Hd)} (hn : n < b.length) (hL : smp a b[n] = L) (h1 : NoP a b (befP a b n)) (h2 : NoP a b (befI L i)) (hij : i < j) (hj : j < L.length) (h3 : NoP a b (prsIJ L i j)) (hp : apart a b (L[i]'(by omega)) L[j] = true) : splitP a b = some ⟨L[i]'(by omega), L[j]⟩ := by
 subst hL
 obtain ⟨p1, e1⟩ := all_pre (a := a) (b := b) hn
 obtain ⟨p2, e2⟩ := prs_pre (L := smp a b[n]) (i := i) (by omega)
 obtain ⟨p3, e3⟩ := prsAt_pre (L := smp a b[n]) hij hj
 have := ((h1.app h2).app h3).find (p := ⟨(smp a b[n])[i]'(by omega), (smp a b[n])[j]⟩) hp (post := p3 ++ (p2 ++ p1))
 rw [splitP, e1, e2, e3]
 simpa using this
def spT (o : Option Pair) : V := match o with
 | some p => .tup [rowH p.x, rowH p.y, .b true]
 | none => .tup [.nil, .nil, .b false]
theorem rowH_wf {H : List Blk} {xs : List Hd} : wfV H (rowH xs) := by
 unfold rowH
 split <;> trivial
theorem apart_of {a b : List Vary} {x y : List Hd} : apart a b x y = (keyOf a x == keyOf a y && !(keyOf b x == keyOf b y)) := rfl
theorem ok24 (a b : List Vary) (ha : Fine a) (hb : Fine b) : Ok 24 [vs a, vs b] (Is (spT (splitP a b))) := by
 refine ok_of lw24 (by simp) ?_
 unfold c24 vs
 simp -implicitDefEqProofs only [rX,↓rY,ofConst,↓reduceIte,Nat.reduceEqDiff,reduceCtorEq,cxN,args0]
 have hnb := hb.n
 intro _
 refine loopP_intro (fun n : Nat => ⟨[(14, .i n), (13, .i b.length), (12, vs b), (0, vs a), (1, vs b)], [], 0⟩) (fun n => SI1 a b n) (fun n => b.length - n) 0 ⟨yI _, .nil⟩ ?_ ?_
 ·simp -implicitDefEqProofs only [rX,↓reduceIte,Nat.reduceEqDiff,reduceCtorEq,leE,leH,keepP,wfE,wfB,wfV,yF,vs]
 intro n hS
 have hn := hS.hn
 unfold c24l0 vs
 simp -implicitDefEqProofs only [rX,↓rY,ofConst,cells?,splice,↓reduceIte,Nat.reduceEqDiff,Nat.reduceAdd,reduceCtorEq,freshP,resP,tupV,wfV,wfL,vr_len,vr_t,vr_C,k_nil]
 simp only [br, yC, decide_eq_true_eq, decide_eq_false_iff_not]
 refine ⟨fun hlt => ?_, fun hlt => ?_⟩
 ·have hnl : n < b.length := by omega
  refine ⟨⟨by omega, hlt⟩, hnl, ?_⟩
  refine call_is (ok50 a ha b[n] (hb.v _ (yB hnl))) ⟨⟨trivial, ⟨trivial, trivial, trivial, trivial⟩, trivial⟩, ⟨rfl, rfl⟩, ⟨rfl, ⟨rfl, rfl⟩, rfl, trivial⟩, trivial⟩ rfl (by simp [keepP, liveP]) ?_
  obtain ⟨L, hL⟩ : ∃ L, smp a b[n] = L := ⟨_, rfl⟩
  have hpr := befP_1 (a := a) hnl
  have hNo := hS.no
  rw [hL] at hpr ⊢
  unfold hls
  simp -implicitDefEqProofs only [rX,↓rY,ofConst,↓reduceIte]
  intro hLm
  refine loopP_intro (fun i : Nat => ⟨[(23, .i i), (22, .i L.length), (9, hls L), (14, .i n), (13, .i b.length), (12, vs b), (0, vs a), (1, vs b)], [], 0⟩) (fun i => i ≤ L.length ∧ NoP a b (befI L i)) (fun i => L.length - i) 0 ⟨yI _, .nil⟩ ?_ ?_
  ·simp -implicitDefEqProofs only [rX,↓reduceIte,Nat.reduceEqDiff,reduceCtorEq,leE,leH,keepP,wfE,wfB,wfV,yF,vs,hls]
  rintro i ⟨hil, hNi⟩
  unfold c24l1 vs hls
  simp -implicitDefEqProofs only [rX,↓rY,ofConst,↓reduceIte,Nat.reduceEqDiff,reduceCtorEq,leE,leH,keepP,wfE,wfB,wfV]
  simp only [br, yC, decide_eq_true_eq, decide_eq_false_iff_not]
  refine ⟨fun hlt2 => ⟨by simp only [lo, hi, maxLen] at *; omega, ?_⟩, fun hlt2 => ?_⟩
  ·have hiL : i < L.length := by omega
   refine loopP_intro (fun j : Nat => ⟨[(11, .i j), (10, .i i), (23, .i i), (22, .i L.length), (9, hls L), (14, .i n), (13, .i b.length), (12, vs b), (0, vs a), (1, vs b)], [], 0⟩) (fun j => (i < j ∧ j ≤ L.length) ∧ NoP a b (prsIJ L i j)) (fun j => L.length - j) (i + 1) ⟨⟨by omega, by omega⟩, by rw [prsIJ_0]; exact .nil⟩ ?_ ?_
   ·simp -implicitDefEqProofs only [rX,↓reduceIte,Nat.reduceEqDiff,reduceCtorEq,leE,leH,keepP,wfE,wfB,wfV,vs,hls]
    simp
   rintro j ⟨⟨hij, hjl⟩, hNj⟩
   unfold c24l2 vs hls
   simp -implicitDefEqProofs only [rX,↓rY,rdK,ofConst,↓reduceIte,Nat.reduceEqDiff,reduceCtorEq,leE,leH,keepP,wfE,wfB,wfV]
   simp only [br, yC, decide_eq_true_eq, decide_eq_false_iff_not]
   refine fun _ => ⟨fun hlt3 => ?_, fun hlt3 => ?_⟩
   ·have hjL : j < L.length := by omega
    have hiL2 : i < L.length := by omega
    have hap := @apart_of a b L[i] L[j]
    have hgo : apart a b L[i] L[j] = false → (lo IntKind.i64 ≤ (j : Int) + 1 ∧ (j : Int) + 1 ≤ hi IntKind.i64) ∧ ∃ g' : Nat, (((i < g' ∧ g' ≤ L.length) ∧ NoP a b (prsIJ L i g')) ∧ L.length - g' < L.length - j) ∧ (j : Int) + 1 = g' := fun h => ⟨by simp only [lo, hi, maxLen] at *; omega, j + 1, ⟨⟨⟨by omega, by omega⟩, by rw [prsIJ_1 hij hjL]; exact hNj.app ⟨fun p hp => by rw [yT] at hp; subst hp; exact h⟩⟩, by omega⟩, by simp⟩
    refine ⟨⟨by omega, hlt2⟩, hiL2, ?_⟩
    simp -implicitDefEqProofs only [↓rY,encH_0]
    refine ⟨⟨by omega, hlt3⟩, hjL, ?_⟩
    refine call_is (ok15 a L[i] L[j] ha) ⟨⟨trivial, rowH_lend.1, rowH_lend.1, trivial⟩, ⟨rfl, rfl⟩, by rw [rowH_lend.2]; exact rowH_wk, by rw [rowH_lend.2]; exact rowH_wk, trivial⟩ rfl trivial ?_
    cases hka : keyOf a L[i] == keyOf a L[j] with
    | false =>
     simp -implicitDefEqProofs only [rX,↓rY,rdK,ofConst,↓reduceIte,Nat.reduceEqDiff,reduceCtorEq,leE,leH,keepP,wfE,wfB,wfV]
     exact hgo (by rw [hap, hka]; rfl)
    | true =>
     simp -implicitDefEqProofs only [rX,↓rY,rdK,↓reduceIte,Nat.reduceEqDiff,reduceCtorEq,encH_0]
     refine ⟨⟨by omega, hlt2⟩, hiL2, ⟨by omega, hlt3⟩, hjL, ?_⟩
     refine call_is (ok15 b L[i] L[j] hb) ⟨⟨trivial, rowH_lend.1, rowH_lend.1, trivial⟩, ⟨rfl, rfl⟩, by rw [rowH_lend.2]; exact rowH_wk, by rw [rowH_lend.2]; exact rowH_wk, trivial⟩ rfl trivial ?_
     cases hkb : keyOf b L[i] == keyOf b L[j] with
     | true =>
      simp -implicitDefEqProofs only [rX,↓rY,ofConst,↓reduceIte,Nat.reduceEqDiff,reduceCtorEq,leE,leH,keepP,wfE,wfB,wfV]
      exact hgo (by rw [hap, hka, hkb]; rfl)
     | false =>
      simp -implicitDefEqProofs only [rX,↓rY,ofConst,↓reduceIte,Nat.reduceEqDiff,resP,tupV,wfV,wfL,encH_0]
      refine ⟨⟨by omega, hlt2⟩, hiL2, ⟨by omega, hlt3⟩, hjL, ?_⟩
      rw [split_at hnl hL hNo hNi hij hjL hNj (by rw [hap, hka, hkb]; rfl)]
      exact ⟨⟨rowH_wf, rowH_wf⟩, rfl⟩
   ·have hjL : j = L.length := by omega
    subst hjL
    rw [prsIJ_all hiL] at hNj
    exact ⟨by simp only [lo, hi, maxLen] at *; omega, i + 1, ⟨⟨by omega, by rw [befI_1]; exact hNi.app hNj⟩, by omega⟩, by simp⟩
  ·have hiL : i = L.length := by omega
   subst hiL
   rw [befI_all] at hNi
   exact ⟨by simp only [lo, hi, maxLen] at *; omega, n + 1, ⟨⟨by omega, by rw [hpr]; exact hNo.app hNi⟩, by omega⟩, by simp⟩
 ·have hnl : n = b.length := by omega
  subst hnl
  rw [hS.none]
  rfl
set_option maxRecDepth 20000
set_option maxRecDepth 20000
set_option maxRecDepth 20000
def rstL (a b : List Vary) : List Vary := b.filter fun v => !a.any fun u => u.h == v.h
theorem rst_take {a b : List Vary} {k : Nat} (hk : k < b.length) : rstL a (b.take (k + 1)) = rstL a (b.take k) ++ if a.any (fun u => u.h == b[k].h) then [] else [b[k]] := by
 have ht1 : b.take (k + 1) = b.take k ++ [b[k]] := by rw [yM, yE hk]; rfl
 rw [ht1, rstL, List.filter_append]
 cases h : a.any (fun u => u.h == b[k].h) <;> simp [rstL, h]
theorem rst_len {a b : List Vary} {k : Nat} : (rstL a (b.take k)).length ≤ b.length := by
 have h1 := uV (fun v => !a.any fun u => u.h == v.h) (b.take k)
 have h2 : (b.take k).length ≤ b.length := by rw [yP]; exact Nat.min_le_right _ _
 exact vW h1 h2
theorem set_1 {v : Vary} {x : List S} : yA 1 v.enc ++ [V.ro 1 (x.map encS)] ++ vM 2 v.enc = (⟨v.h, x, v.d⟩ : Vary).enc := rfl
theorem set_1e {v : Vary} : yA 1 v.enc ++ [V.ro 1 (v.vals.map encS)] ++ vM 2 v.enc = v.enc := rfl
theorem set_2 {v : Vary} {x : S} : yA 2 v.enc ++ [V.v (Value.string (sb x))] ++ vM 3 v.enc = (⟨v.h, v.vals, x⟩ : Vary).enc := rfl
theorem ok28 (a b : List Vary) (ha : Fine a) (hb : Fine b) : Ok 28 [vs a, vs b] (Is (vs (joinL a b))) := by
 refine ⟨rlF_callable lw28, Fn_give (R := fun q hs => wk (vs (joinL a b)) (gvV (fun _ => true) hs q)) ?_ fun _ _ h => h⟩
 refine (ok_of lw28 (by simp) ?_).2
 unfold c28 vs
 simp -implicitDefEqProofs only [rX,↓rY,ofConst,↓reduceIte,reduceCtorEq,cxN,args0]
 have hna := ha.n
 have hnb := hb.n
 intro _
 refine loopP_ghost (.virt 1 3 (by decide) (.nilE 5 0 rfl (.refl _))) (fun k : Nat => ⟨[(13, .i k), (12, .i a.length), (11, vs a), (5, .sl 0 0 ((a.take k).map (jn b)).length), (0, vs a), (1, vs b)], [.arr 3 (((a.take k).map (jn b)).map Vary.enc)], 0⟩) (fun k => k ≤ a.length) (fun k => a.length - k) 0 (yI _) ?_ ?_
 ·simp -implicitDefEqProofs only [rX,↓reduceIte,Nat.reduceEqDiff,reduceCtorEq,leE,leH,leB,keepP,liveP,wfE,wfB,wfV,yF,vs]
 rintro k hk
 have hkl : (a.take k).length = k := by rw [yP]; omega
 unfold c28l0 vs
 simp -implicitDefEqProofs only [rX,↓rY,ofConst,cells?,splice,↓reduceIte,Nat.reduceEqDiff,Nat.reduceAdd,reduceCtorEq,freshP,vr_len,vr_t,vr_1,vr_C,k_nil,hkl]
 simp only [br, yC, decide_eq_true_eq, decide_eq_false_iff_not]
 refine ⟨fun hlt => ⟨⟨by omega, hlt⟩, by omega, ?_⟩, fun hlt => ?_⟩
 ·have hka : k < a.length := by omega
  have hav := ha.v _ (yB hka)
  have htk : a.take (k + 1) = a.take k ++ [a[k]] := by rw [yM, yE hka]; rfl
  have hto : yA k (((a.take k).map (jn b)).map Vary.enc) = ((a.take k).map (jn b)).map Vary.enc := yD (by simp; omega)
  obtain ⟨v, hv⟩ : ∃ v, a[k] = v := ⟨_, rfl⟩
  rw [hv] at hav htk ⊢
  refine call_is (ok52 v.vals (by omega)) ⟨⟨trivial, trivial⟩, ⟨rfl, rfl⟩, trivial⟩ rfl (by simp [keepP, liveP]) ?_
  simp -implicitDefEqProofs only [rX,↓rY,cells?,splice,↓reduceIte,Nat.reduceEqDiff,Nat.reduceAdd,reduceCtorEq,isC,Nat.reduceLeDiff,vr_len,ss]
  rw [set_1e]
  simp -implicitDefEqProofs only [↓rY,vr_0]
  refine call_is (ok53 b v.h) ⟨⟨trivial, trivial, trivial⟩, ⟨rfl, rfl⟩, rfl, trivial⟩ rfl (by simp [keepP, liveP]) ?_
  have hgo : ∀ w : Vary, jn b v = w → w.enc.all isD = true ∧ (k ≤ (yA k a).length ∧ (k + 1) * 56 ≤ 140737488355328) ∧ (lo IntKind.i64 ≤ (k : Int) + 1 ∧ (k : Int) + 1 ≤ hi IntKind.i64) ∧ ∃ g' : Nat, (g' ≤ a.length ∧ a.length - g' < a.length - k) ∧ ((k : Int) + 1 = g' ∧ V.sl 0 0 (k + 1) = V.sl 0 0 (a.take g').length) ∧ Blk.arr 3 (yA k (yJ Vary.enc (yJ (jn b) (yA k a))) ++ [w.enc]) = Blk.arr 3 (yJ Vary.enc (yJ (jn b) (yA g' a))) := fun w hw =>
   ⟨rfl, ⟨by omega, by omega⟩, by simp only [lo, hi, maxLen] at *; omega, k + 1, ⟨by omega, by omega⟩, ⟨by simp, by rw [yP, uA (by omega)]⟩, by rw [hto, htk]; simp [hw]⟩
  rcases idxI_cases (p := fun u : Vary => u.h == v.h) (l := b) with ⟨h1, h2⟩ | ⟨m, h1, hm, h2⟩
  ·rw [h1]
   have h0 : decide ((-1 : Int) ≥ 0) = false := rfl
   simp -implicitDefEqProofs only [rX,↓rY,ofConst,cells?,↓reduceIte,Nat.reduceEqDiff,Nat.reduceAdd,reduceCtorEq,freshP,litsP,leE,leH,leB,keepP,liveP,wfE,wfB,wfV,killE,killB,kill,St.kill,Nat.reduceLT,vr_len,vr_t,vr_1,h0,↓op_litsf,↓frzP_n,↓frzP_c,↓frzQ_a]
   have hw : jn b v = v := by simp only [jn, h2]
   exact hgo _ hw
  ·rw [h1]
   have h0 : decide ((m : Int) ≥ 0) = true := decide_eq_true (by omega)
   simp -implicitDefEqProofs only [rX,↓rY,ofConst,↓reduceIte,Nat.reduceEqDiff,Nat.reduceAdd,reduceCtorEq,vr_len,vr_t,vr_1,h0]
   have hbv := hb.v _ (yB hm)
   obtain ⟨u, hu⟩ : ∃ u, b[m] = u := ⟨_, rfl⟩
   rw [hu] at h2 hbv
   have hw : jn b v = ⟨v.h, uni v.vals u.vals, if v.d = u.d then v.d else []⟩ := by simp only [jn, h2]
   refine ⟨⟨by omega, by omega⟩, hm, ?_⟩
   rw [hu]
   refine call_is (ok54 v.vals u.vals (by omega) (by omega)) ⟨⟨trivial, trivial, trivial⟩, ⟨rfl, rfl⟩, ⟨rfl, rfl⟩, trivial⟩ rfl (by simp [keepP, liveP]) ?_
   simp -implicitDefEqProofs only [rX,↓rY,ofConst,cells?,splice,↓reduceIte,Nat.reduceEqDiff,Nat.reduceAdd,reduceCtorEq,isC,Nat.reduceLeDiff,sb_list,vr_len,vr_2,ss]
   rw [set_1]
   simp -implicitDefEqProofs only [↓rY,sb_list,vr_t,vr_2]
   refine ⟨⟨by omega, by omega⟩, hm, ?_⟩
   rw [hu]
   cases hd : u.d == v.d with
   | true =>
    have hd' : v.d = u.d := (eq_of_beq hd).symm
    rw [if_pos hd'] at hw
    simp -implicitDefEqProofs only [rX,↓rY,ofConst,cells?,↓reduceIte,Nat.reduceEqDiff,Nat.reduceAdd,reduceCtorEq,freshP,litsP,leE,leH,leB,keepP,liveP,wfE,wfB,wfV,killE,killB,kill,St.kill,Nat.reduceLT,vr_len,↓op_litsf,↓frzP_n,↓frzP_c,↓frzQ_a]
    exact ⟨yH _, hgo _ hw⟩
   | false =>
    have hd' : ¬ v.d = u.d := fun h => by rw [h] at hd; simp at hd
    rw [if_neg hd'] at hw
    simp -implicitDefEqProofs only [rX,↓rY,ofConst,cells?,↓reduceIte,Nat.reduceEqDiff,Nat.reduceAdd,reduceCtorEq,freshP,litsP,leE,leH,leB,keepP,liveP,wfE,wfB,wfV,killE,killB,kill,St.kill,Nat.reduceLT,vr_len,vr_t,↓op_litsf,↓frzP_n,↓frzP_c,↓frzQ_a,set_2]
    exact ⟨yH _, yH _, hgo _ hw⟩
 ·have hka : k = a.length := by omega
  subst hka
  rw [yV]
  intro _
  refine loopP_intro (fun k : Nat => ⟨[(52, .i k), (51, .i b.length), (50, vs b), (5, .sl 0 0 (a.map (jn b) ++ rstL a (b.take k)).length), (0, vs a), (1, vs b)], [.arr 3 ((a.map (jn b) ++ rstL a (b.take k)).map Vary.enc)], 0⟩) (fun k => k ≤ b.length) (fun k => b.length - k) 0 (yI _) ?_ ?_
  ·simp -implicitDefEqProofs only [rX,↓reduceIte,Nat.reduceEqDiff,reduceCtorEq,leE,leH,leB,keepP,liveP,wfE,wfB,wfV,yF,rstL,List.filter_nil,vs]
  rintro k hk
  have hrl := rst_len (a := a) (b := b) (k := k)
  unfold c28l1 vs
  simp -implicitDefEqProofs only [rX,↓rY,ofConst,cells?,splice,↓reduceIte,Nat.reduceEqDiff,Nat.reduceAdd,reduceCtorEq,freshP,vr_len,vr_t,vr_0,vr_C,k_nil]
  simp only [br, yC, decide_eq_true_eq, decide_eq_false_iff_not]
  refine ⟨fun hlt => ⟨⟨by omega, hlt⟩, by omega, ?_⟩, fun hlt => ?_⟩
  ·have hkb : k < b.length := by omega
   have hbv := hb.v _ (yB hkb)
   have hrt := rst_take (a := a) hkb
   obtain ⟨v, hv⟩ : ∃ v, b[k] = v := ⟨_, rfl⟩
   rw [hv] at hbv hrt ⊢
   refine call_is (ok53 a v.h) ⟨⟨trivial, trivial, trivial⟩, ⟨rfl, rfl⟩, rfl, trivial⟩ rfl (by simp [keepP, liveP]) ?_
   cases hany : a.any fun u => u.h == v.h with
   | true =>
    obtain ⟨m, h1, hm, h2⟩ := find_idx hany
    rw [hany, if_pos rfl, vF] at hrt
    rw [h1]
    have h0 : decide ((m : Int) < 0) = false := decide_eq_false (by omega)
    simp -implicitDefEqProofs only [rX,↓rY,ofConst,↓reduceIte,Nat.reduceEqDiff,Nat.reduceAdd,reduceCtorEq,leE,leH,leB,keepP,liveP,wfE,wfB,wfV,vr_1,h0]
    exact ⟨by simp only [lo, hi, maxLen] at *; omega, k + 1, ⟨by omega, by omega⟩, ⟨by simp, by rw [hrt]⟩, by rw [hrt]⟩
   | false =>
    rw [hany, if_neg (by decide)] at hrt
    rw [idxI_no hany]
    have h0 : decide ((-1 : Int) < 0) = true := rfl
    simp -implicitDefEqProofs only [rX,↓rY,ofConst,↓reduceIte,Nat.reduceEqDiff,Nat.reduceAdd,reduceCtorEq,leE,leH,leB,keepP,liveP,wfE,wfB,wfV,vr_1,h0]
    refine call_is (ok52 v.vals (by omega)) ⟨⟨trivial, trivial⟩, ⟨rfl, rfl⟩, trivial⟩ rfl (by simp [keepP, liveP]) ?_
    simp -implicitDefEqProofs only [rX,↓rY,cells?,splice,↓reduceIte,Nat.reduceEqDiff,Nat.reduceAdd,isC,Nat.reduceLeDiff,vr_len,ss]
    rw [set_1e]
    simp -implicitDefEqProofs only [rX,↓rY,ofConst,cells?,↓reduceIte,Nat.reduceEqDiff,Nat.reduceAdd,reduceCtorEq,freshP,litsP,leE,leH,leB,keepP,liveP,wfE,wfB,wfV,killE,killB,kill,St.kill,Nat.reduceLT,vr_len,vr_t,↓op_litsf,↓frzP_n,↓frzP_c,↓frzQ_a]
    have hto : yA (a.length + (rstL a (yA k b)).length) (yJ Vary.enc (yJ (jn b) a ++ rstL a (yA k b))) = yJ Vary.enc (yJ (jn b) a ++ rstL a (yA k b)) := yD (by simp)
    rw [hto]
    exact ⟨yH _, rfl, by omega, by simp only [lo, hi, maxLen] at *; omega, k + 1, ⟨by omega, by omega⟩, ⟨by simp, by rw [hrt]; simp; omega⟩, by rw [hrt]; simp⟩
  ·have hkb : k = b.length := by omega
   subst hkb
   rw [yV, show a.map (jn b) ++ rstL a b = joinL a b from rfl, retP_eq]
   simp -implicitDefEqProofs only [rX,↓reduceIte,resP,tupV,keepP,liveP,wfV]
   have hJl : a.length + (rstL a b).length = (joinL a b).length := by rw [joinL, yK, yW]; rfl
   rw [hJl]
   generalize joinL a b = J
   refine ⟨[.arr 3 (J.map Vary.enc)], ⟨by simp [leH, leB], by simp [wfV, wfL, liveP], by simp [wfB]⟩, ?_⟩
   have hto : yA J.length (J.map Vary.enc) = J.map Vary.enc := yD (by simp)
   simp [gvV, gvL, wk, wkL, wkR, blk, hto]
set_option maxRecDepth 20000
theorem ok27 (a b : List Vary) (ha : Fine a) (hb : Fine b) : Ok 27 [vs a, vs b] (Is (vs (joinL a b))) := by
 refine ⟨rlF_callable lw27, Fn_give (R := fun q hs => wk (vs (joinL a b)) (gvV (fun _ => true) hs q)) ?_ fun _ _ h => h⟩
 refine (ok_of lw27 (by simp) ?_).2
 unfold c27 vs
 simp -implicitDefEqProofs only [rX,ofConst,cxN,args0]
 have hna := ha.n
 have hnb := hb.n
 refine loopP_ghost (.virt 1 3 (by decide) (.nilE 5 0 rfl (.refl _))) (fun k : Nat => ⟨[(6, .i k), (5, .sl 0 0 ((a.take k).map (jn b)).length), (0, vs a), (1, vs b)], [.arr 3 (((a.take k).map (jn b)).map Vary.enc)], 0⟩) (fun k => k ≤ a.length) (fun k => a.length - k) 0 (yI _) ?_ ?_
 ·simp -implicitDefEqProofs only [rX,↓reduceIte,Nat.reduceEqDiff,reduceCtorEq,leE,leH,leB,keepP,liveP,wfE,wfB,wfV,yF,vs]
 rintro k hk
 have hkl : (a.take k).length = k := by rw [yP]; omega
 unfold c27l0 vs
 simp -implicitDefEqProofs only [rX,↓rY,ofConst,cells?,splice,↓reduceIte,Nat.reduceEqDiff,Nat.reduceAdd,reduceCtorEq,freshP,vr_len,vr_t,vr_0,vr_C,k_nil,hkl]
 simp only [br, yC, decide_eq_true_eq, decide_eq_false_iff_not]
 refine fun _ => ⟨fun hlt => ⟨⟨by omega, hlt⟩, by omega, ?_⟩, fun hlt => ?_⟩
 ·have hka : k < a.length := by omega
  have hav := ha.v _ (yB hka)
  have htk : a.take (k + 1) = a.take k ++ [a[k]] := by rw [yM, yE hka]; rfl
  have hto : yA k (((a.take k).map (jn b)).map Vary.enc) = ((a.take k).map (jn b)).map Vary.enc := yD (by simp; omega)
  obtain ⟨v, hv⟩ : ∃ v, a[k] = v := ⟨_, rfl⟩
  rw [hv] at hav htk ⊢
  refine call_is (ok34 b v.h) ⟨⟨trivial, trivial, trivial⟩, ⟨rfl, rfl⟩, rfl, trivial⟩ rfl (by simp [keepP, liveP]) ?_
  have hgo : ∀ w : Vary, jn b v = w → w.enc.all isD = true ∧ (k ≤ (yA k a).length ∧ (k + 1) * 56 ≤ 140737488355328) ∧ (lo IntKind.i64 ≤ (k : Int) + 1 ∧ (k : Int) + 1 ≤ hi IntKind.i64) ∧ ∃ g' : Nat, (g' ≤ a.length ∧ a.length - g' < a.length - k) ∧ ((k : Int) + 1 = g' ∧ V.sl 0 0 (k + 1) = V.sl 0 0 (a.take g').length) ∧ Blk.arr 3 (yA k (yJ Vary.enc (yJ (jn b) (yA k a))) ++ [w.enc]) = Blk.arr 3 (yJ Vary.enc (yJ (jn b) (yA g' a))) := fun w hw =>
   ⟨rfl, ⟨by omega, by omega⟩, by simp only [lo, hi, maxLen] at *; omega, k + 1, ⟨by omega, by omega⟩, ⟨by simp, by rw [yP, uA (by omega)]⟩, by rw [hto, htk]; simp [hw]⟩
  rcases idxI_cases (p := fun u : Vary => u.h == v.h) (l := b) with ⟨h1, h2⟩ | ⟨m, h1, hm, h2⟩
  ·rw [h1]
   have h0 : decide ((-1 : Int) ≥ 0) = false := rfl
   simp -implicitDefEqProofs only [rX,↓rY,ofConst,cells?,↓reduceIte,Nat.reduceEqDiff,Nat.reduceAdd,reduceCtorEq,freshP,litsP,leE,leH,leB,keepP,liveP,wfE,wfB,wfV,killE,killB,kill,St.kill,Nat.reduceLT,vr_len,vr_t,vr_1,h0,↓op_litsf,↓frzP_n,↓frzP_c,↓frzQ_a]
   have hw : jn b v = v := by simp only [jn, h2]
   exact hgo _ hw
  ·rw [h1]
   have h0 : decide ((m : Int) ≥ 0) = true := decide_eq_true (by omega)
   simp -implicitDefEqProofs only [rX,↓rY,ofConst,↓reduceIte,Nat.reduceEqDiff,Nat.reduceAdd,reduceCtorEq,vr_len,vr_t,vr_1,h0]
   have hbv := hb.v _ (yB hm)
   obtain ⟨u, hu⟩ : ∃ u, b[m] = u := ⟨_, rfl⟩
   rw [hu] at h2 hbv
   have hw : jn b v = ⟨v.h, uni v.vals u.vals, if v.d = u.d then v.d else []⟩ := by simp only [jn, h2]
   refine ⟨⟨by omega, by omega⟩, hm, ?_⟩
   rw [hu]
   refine call_is (ok51 v.vals u.vals (by omega) (by omega)) ⟨⟨trivial, trivial, trivial⟩, ⟨rfl, rfl⟩, ⟨rfl, rfl⟩, trivial⟩ rfl (by simp [keepP, liveP]) ?_
   simp -implicitDefEqProofs only [rX,↓rY,ofConst,cells?,splice,↓reduceIte,Nat.reduceEqDiff,Nat.reduceAdd,reduceCtorEq,isC,Nat.reduceLeDiff,sb_list,vr_len,vr_2,ss]
   rw [set_1]
   simp -implicitDefEqProofs only [↓rY,sb_list,vr_t,vr_2]
   refine ⟨⟨by omega, by omega⟩, hm, ?_⟩
   rw [hu]
   cases hd : v.d == u.d with
   | true =>
    have hd' : v.d = u.d := eq_of_beq hd
    rw [if_pos hd'] at hw
    simp -implicitDefEqProofs only [rX,↓rY,ofConst,cells?,↓reduceIte,Nat.reduceEqDiff,Nat.reduceAdd,reduceCtorEq,freshP,litsP,leE,leH,leB,keepP,liveP,wfE,wfB,wfV,killE,killB,kill,St.kill,Nat.reduceLT,vr_len,↓op_litsf,↓frzP_n,↓frzP_c,↓frzQ_a]
    exact ⟨yH _, hgo _ hw⟩
   | false =>
    have hd' : ¬ v.d = u.d := fun h => by rw [h] at hd; simp at hd
    rw [if_neg hd'] at hw
    simp -implicitDefEqProofs only [rX,↓rY,ofConst,cells?,↓reduceIte,Nat.reduceEqDiff,Nat.reduceAdd,reduceCtorEq,freshP,litsP,leE,leH,leB,keepP,liveP,wfE,wfB,wfV,killE,killB,kill,St.kill,Nat.reduceLT,vr_len,vr_t,↓op_litsf,↓frzP_n,↓frzP_c,↓frzQ_a,set_2]
    exact ⟨yH _, yH _, hgo _ hw⟩
 ·have hka : k = a.length := by omega
  subst hka
  rw [yV]
  refine loopP_intro (fun k : Nat => ⟨[(9, .i k), (5, .sl 0 0 (a.map (jn b) ++ rstL a (b.take k)).length), (0, vs a), (1, vs b)], [.arr 3 ((a.map (jn b) ++ rstL a (b.take k)).map Vary.enc)], 0⟩) (fun k => k ≤ b.length) (fun k => b.length - k) 0 (yI _) ?_ ?_
  ·simp -implicitDefEqProofs only [rX,↓reduceIte,Nat.reduceEqDiff,reduceCtorEq,leE,leH,leB,keepP,liveP,wfE,wfB,wfV,yF,rstL,List.filter_nil,vs]
  rintro k hk
  have hrl := rst_len (a := a) (b := b) (k := k)
  unfold c27l1 vs
  simp -implicitDefEqProofs only [rX,↓rY,↓reduceIte,Nat.reduceEqDiff,reduceCtorEq,vr_0,k_nil]
  simp only [br, yC, decide_eq_true_eq, decide_eq_false_iff_not]
  refine fun _ => ⟨fun hlt => ⟨⟨by omega, hlt⟩, by omega, ?_⟩, fun hlt => ?_⟩
  ·have hkb : k < b.length := by omega
   have hbv := hb.v _ (yB hkb)
   have hrt := rst_take (a := a) hkb
   obtain ⟨v, hv⟩ : ∃ v, b[k] = v := ⟨_, rfl⟩
   rw [hv] at hbv hrt ⊢
   refine call_is (ok34 a v.h) ⟨⟨trivial, trivial, trivial⟩, ⟨rfl, rfl⟩, rfl, trivial⟩ rfl (by simp [keepP, liveP]) ?_
   cases hany : a.any fun u => u.h == v.h with
   | true =>
    obtain ⟨m, h1, hm, h2⟩ := find_idx hany
    rw [hany, if_pos rfl, vF] at hrt
    rw [h1]
    have h0 : decide ((m : Int) < 0) = false := decide_eq_false (by omega)
    simp -implicitDefEqProofs only [rX,↓rY,ofConst,↓reduceIte,Nat.reduceEqDiff,reduceCtorEq,leE,leH,leB,keepP,liveP,wfE,wfB,wfV,vr_len,vr_t,h0]
    exact ⟨by simp only [lo, hi, maxLen] at *; omega, k + 1, ⟨by omega, by omega⟩, ⟨by simp, by rw [hrt]⟩, by rw [hrt]⟩
   | false =>
    rw [hany, if_neg (by decide)] at hrt
    rw [idxI_no hany]
    have h0 : decide ((-1 : Int) < 0) = true := rfl
    simp -implicitDefEqProofs only [rX,↓rY,ofConst,↓reduceIte,Nat.reduceEqDiff,reduceCtorEq,leE,leH,leB,keepP,liveP,wfE,wfB,wfV,vr_len,vr_t,h0]
    simp -implicitDefEqProofs only [rX,↓rY,ofConst,cells?,↓reduceIte,Nat.reduceEqDiff,Nat.reduceAdd,reduceCtorEq,freshP,litsP,leE,leH,leB,keepP,liveP,wfE,wfB,wfV,killE,killB,kill,St.kill,Nat.reduceLT,vr_len,↓op_litsf,↓frzP_n,↓frzP_c,↓frzQ_a]
    have hto : yA (a.length + (rstL a (yA k b)).length) (yJ Vary.enc (yJ (jn b) a ++ rstL a (yA k b))) = yJ Vary.enc (yJ (jn b) a ++ rstL a (yA k b)) := yD (by simp)
    rw [hto]
    refine ⟨⟨by omega, hlt⟩, hkb, ?_⟩
    rw [hv]
    exact ⟨rfl, by omega, by simp only [lo, hi, maxLen] at *; omega, k + 1, ⟨by omega, by omega⟩, ⟨by simp, by rw [hrt]; simp; omega⟩, by rw [hrt]; simp⟩
  ·have hkb : k = b.length := by omega
   subst hkb
   rw [yV, show a.map (jn b) ++ rstL a b = joinL a b from rfl, retP_eq]
   simp -implicitDefEqProofs only [rX,↓reduceIte,resP,tupV,keepP,liveP,wfV]
   have hJl : a.length + (rstL a b).length = (joinL a b).length := by rw [joinL, yK, yW]; rfl
   rw [hJl]
   generalize joinL a b = J
   refine ⟨[.arr 3 (J.map Vary.enc)], ⟨by simp [leH, leB], by simp [wfV, wfL, liveP], by simp [wfB]⟩, ?_⟩
   have hto : yA J.length (J.map Vary.enc) = J.map Vary.enc := yD (by simp)
   simp [gvV, gvL, wk, wkL, wkR, blk, hto]
set_option maxRecDepth 20000
theorem ok29 (a : List Vary) : Ok 29 [vs a, vs a] (Is (.b true)) := by
 refine ok_of lw29 (by simp) ?_
 unfold c29 vs
 simp -implicitDefEqProofs only [rX,↓rY,ofConst,↓reduceIte,Nat.reduceEqDiff,reduceCtorEq,cxN,args0,bne_i]
 refine fun _ _ => ?_
 refine loopP_intro (fun k : Nat => ⟨[(5, .i k), (0, vs a), (1, vs a)], [], 0⟩) (fun k => k ≤ a.length) (fun k => a.length - k) 0 (yI _) ?_ ?_
 ·simp -implicitDefEqProofs only [rX,↓reduceIte,Nat.reduceEqDiff,reduceCtorEq,leE,leH,keepP,wfE,wfB,wfV,yF,vs]
 rintro k hk
 unfold c29l0 vs
 simp -implicitDefEqProofs only [rX,↓rY,ofConst,↓reduceIte,Nat.reduceEqDiff,reduceCtorEq,resP,tupV,wfV,sb_list,vr_0,vr_1,vr_2]
 simp only [br, yC, decide_eq_true_eq, decide_eq_false_iff_not]
 refine fun _ => ⟨fun h => ⟨⟨by omega, h⟩, by omega, ?_⟩, fun h => trivial⟩
 have hka : k < a.length := by omega
 have hs0 : ∀ s : S, (!(s == s)) = false := fun s => by rw [beq_self_eq_true]; rfl
 simp only [hs0]
 refine ⟨⟨by omega, h⟩, hka, fun h => absurd h (by decide), fun _ => ⟨⟨by omega, h⟩, hka, ⟨by omega, h⟩, hka, fun h => absurd h (by decide), fun _ => ⟨⟨by omega, h⟩, hka, ⟨by omega, h⟩, hka, ?_⟩⟩⟩
 refine call_is (ok20 a[k].vals a[k].vals) ⟨⟨trivial, trivial, trivial⟩, ⟨rfl, rfl⟩, ⟨rfl, rfl⟩, trivial⟩ rfl (by simp [keepP, liveP]) ?_
 rw [beq_self_eq_true]
 simp -implicitDefEqProofs only [rX,↓rY,ofConst,↓reduceIte,Nat.reduceEqDiff,reduceCtorEq,leE,leH,keepP,wfE,wfB,wfV]
 exact ⟨by simp only [lo, hi, maxLen] at *; omega, k + 1, ⟨by omega, by omega⟩, by simp⟩
theorem ok8 (hs' : Sane) (a b : List Vary) (ha' : ∀ v ∈ a, v.Ok) (hb' : ∀ v ∈ b, v.Ok) (h i : List Hd) : Ok 8 [vs a, vs b, hs h, hs i] (Is (.b true)) := by
 refine ok_of lw8 (by simp) ?_
 unfold c8 vs hs
 simp -implicitDefEqProofs only [rX,ofConst,↓reduceIte,Nat.reduceAdd,reduceCtorEq,cxN,args0]
 refine call_is (ok12 a ha') ⟨⟨trivial, trivial⟩, ⟨rfl, rfl⟩, trivial⟩ rfl trivial ?_
 simp -implicitDefEqProofs only [rX,↓reduceIte,Nat.reduceEqDiff,reduceCtorEq]
 refine call_is (ok12 b hb') ⟨⟨trivial, trivial⟩, ⟨rfl, rfl⟩, trivial⟩ rfl trivial ?_
 cases hca : chk a == 0 with
 | false =>
  simp -implicitDefEqProofs only [rX,↓rY,ofConst,↓reduceIte,Nat.reduceEqDiff]
  refine s9 hs' rfl rfl ?_
  simp -implicitDefEqProofs only [rX,↓reduceIte,resP,tupV,wfV]
 | true =>
 cases hcb : chk b == 0 with
 | false =>
  simp -implicitDefEqProofs only [rX,↓rY,ofConst,↓reduceIte,Nat.reduceEqDiff]
  refine s9 hs' rfl rfl ?_
  simp -implicitDefEqProofs only [rX,↓reduceIte,resP,tupV,wfV]
 | true =>
  have ha : Fine a := fine_of (by simpa using hca)
  have hb : Fine b := fine_of (by simpa using hcb)
  simp -implicitDefEqProofs only [rX,↓rY,ofConst,↓reduceIte,Nat.reduceEqDiff,reduceCtorEq]
  simp only [br, decide_eq_true_eq, decide_eq_false_iff_not]
  refine fun _ => ⟨fun _ => s9 hs' rfl rfl ?_, fun h1 _ => ⟨fun _ => s9 hs' rfl rfl ?_, fun h2 => ?_⟩⟩
  ·simp -implicitDefEqProofs only [rX,↓reduceIte,resP,tupV,wfV]
  ·simp -implicitDefEqProofs only [rX,↓reduceIte,resP,tupV,wfV]
  refine call_is (ok27 a b ha hb) ⟨⟨trivial, trivial, trivial⟩, ⟨rfl, rfl⟩, ⟨rfl, rfl⟩, trivial⟩ rfl trivial ?_
  have hok : ∀ v ∈ joinL a b, v.Ok := fun v hv => by
   have h64 : ∀ {l : List Vary}, Fine l → ∀ {u : Vary}, u ∈ l → ∀ x ∈ u.vals, x.length ≤ 64 := fun {l} hl {u} hu x hx => (wordP_len (hl.x u hu x hx)).2
   have hm : (64 : Nat) ≤ maxLen := by simp only [maxLen]; omega
   rcases yO.1 hv with hv | hv
   ·obtain ⟨u, hu, rfl⟩ := vJ.1 hv
    have hu' := ha' u hu
    unfold jn
    split
    ·rename_i w hw
     have hwb := uO hw
     refine ⟨hu'.h, fun x hx => ?_, ?_⟩
     ·rcases (uni_both.2 x).1 hx with h | h
      ·exact vW (h64 ha hu x h) hm
      ·exact vW (h64 hb hwb x h) hm
     ·simp only
      split
      ·exact hu'.d
      ·exact yI _
    ·exact hu'
   ·exact hb' v (List.mem_filter.1 hv).1
  have hcvA := cov_a (a := a) (b := b)
  have hcvB := cov_b (a := a) hb
  simp -implicitDefEqProofs only [rX,↓reduceIte,vs]
  refine call_is (ok11 (joinL a b) hok) ⟨⟨trivial, trivial⟩, ⟨rfl, rfl⟩, trivial⟩ rfl trivial ?_
  cases hcj : chk (joinL a b) == 0 with
  | false =>
   have hcj2 : (chk (joinL a b) != 0) = true := by rw [bne, hcj]; rfl
   simp -implicitDefEqProofs only [rX,↓rY,ofConst,↓reduceIte,Nat.reduceEqDiff,reduceCtorEq,hcj2]
   refine s9 hs' rfl rfl ?_
   simp -implicitDefEqProofs only [rX,↓reduceIte,resP,tupV,wfV]
  | true =>
   have hcj2 : (chk (joinL a b) != 0) = false := by rw [bne, hcj]; rfl
   have hj : Fine (joinL a b) := fine_of (by simpa using hcj)
   simp -implicitDefEqProofs only [rX,↓rY,ofConst,↓reduceIte,Nat.reduceEqDiff,reduceCtorEq,hcj2]
   refine call_is (ok28 a b ha hb) ⟨⟨trivial, trivial, trivial⟩, ⟨rfl, rfl⟩, ⟨rfl, rfl⟩, trivial⟩ rfl trivial ?_
   generalize joinL a b = J at hj hcvA hcvB ⊢
   simp -implicitDefEqProofs only [rX,↓reduceIte,Nat.reduceEqDiff,vs]
   refine call_is (ok29 J) ⟨⟨trivial, trivial, trivial⟩, ⟨rfl, rfl⟩, ⟨rfl, rfl⟩, trivial⟩ rfl trivial ?_
   simp -implicitDefEqProofs only [rX,↓rY,↓reduceIte,Nat.reduceEqDiff,reduceCtorEq]
   have hspA := cov_split hj ha hcvA
   have hspB := cov_split hj hb hcvB
   have hA := fun he => cov_all (h := h) (i := i) hj ha hcvA he
   have hB := fun he => cov_all (h := h) (i := i) hj hb hcvB he
   refine call_is (ok15 J h i hj) ⟨⟨trivial, trivial, trivial, trivial⟩, ⟨rfl, rfl⟩, ⟨rfl, rfl⟩, ⟨rfl, rfl⟩, trivial⟩ rfl (by simp [keepP, liveP]) ?_
   cases hk : keyOf J h == keyOf J i with
   | false =>
    simp -implicitDefEqProofs only [rX,↓rY,ofConst,↓reduceIte,Nat.reduceEqDiff,reduceCtorEq]
    refine call_is (ok24 J a hj ha) ⟨⟨trivial, trivial, trivial⟩, ⟨rfl, rfl⟩, ⟨rfl, rfl⟩, trivial⟩ (by rw [hspA]; rfl) trivial ?_
    rw [hspA]
    unfold spT
    simp -implicitDefEqProofs only [rX,↓rY,↓reduceIte,Nat.reduceEqDiff,reduceCtorEq]
    refine call_is (ok24 J b hj hb) ⟨⟨trivial, trivial, trivial⟩, ⟨rfl, rfl⟩, ⟨rfl, rfl⟩, trivial⟩ (by rw [hspB]; rfl) trivial ?_
    rw [hspB]
    unfold spT
    simp -implicitDefEqProofs only [rX,↓rY,↓reduceIte,Nat.reduceEqDiff]
    refine s9 hs' rfl rfl ?_
    simp -implicitDefEqProofs only [rX,↓rY,↓reduceIte,Nat.reduceEqDiff,resP,tupV,wfV]
   | true =>
    have hk' : keyOf J h = keyOf J i := by simpa using hk
    simp -implicitDefEqProofs only [rX,↓rY,↓reduceIte,Nat.reduceEqDiff,reduceCtorEq]
    refine call_is (ok15 a h i ha) ⟨⟨trivial, trivial, trivial, trivial⟩, ⟨rfl, rfl⟩, ⟨rfl, rfl⟩, ⟨rfl, rfl⟩, trivial⟩ rfl (by simp [keepP, liveP]) ?_
    rw [hA hk', beq_self_eq_true]
    simp -implicitDefEqProofs only [rX,↓rY,↓reduceIte,Nat.reduceEqDiff,reduceCtorEq]
    refine call_is (ok15 b h i hb) ⟨⟨trivial, trivial, trivial, trivial⟩, ⟨rfl, rfl⟩, ⟨rfl, rfl⟩, ⟨rfl, rfl⟩, trivial⟩ rfl (by simp [keepP, liveP]) ?_
    rw [hB hk', beq_self_eq_true]
    simp -implicitDefEqProofs only [rX,↓rY,↓reduceIte,Nat.reduceEqDiff,reduceCtorEq]
    refine call_is (ok24 J a hj ha) ⟨⟨trivial, trivial, trivial⟩, ⟨rfl, rfl⟩, ⟨rfl, rfl⟩, trivial⟩ (by rw [hspA]; rfl) trivial ?_
    rw [hspA]
    unfold spT
    simp -implicitDefEqProofs only [rX,↓rY,↓reduceIte,Nat.reduceEqDiff,reduceCtorEq]
    refine call_is (ok24 J b hj hb) ⟨⟨trivial, trivial, trivial⟩, ⟨rfl, rfl⟩, ⟨rfl, rfl⟩, trivial⟩ (by rw [hspB]; rfl) trivial ?_
    rw [hspB]
    unfold spT
    simp -implicitDefEqProofs only [rX,↓rY,↓reduceIte,Nat.reduceEqDiff]
    refine s9 hs' rfl rfl ?_
    simp -implicitDefEqProofs only [rX,↓rY,↓reduceIte,Nat.reduceEqDiff,resP,tupV,wfV]
end Go.Fx.W
