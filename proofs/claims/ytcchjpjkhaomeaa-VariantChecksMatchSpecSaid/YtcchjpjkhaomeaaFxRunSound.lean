import Derived.Test.YtcchjpjkhaomeaaFxFrz
import Derived.Test.YtcchjpjkhaomeaaFxRun
import Derived.Test.YtcchjpjkhaomeaaWLow
import Derived.Sort.Walk0
import Derived.Shelf.Strings.Builder1
import Derived.Shelf.Strings.OnBuilder
import Derived.Shelf.Small.Strs
import Derived.Shelf.Strings.Search1
import Derived.Shelf.Sort.Plain
import Derived.Shelf.Slices.Turned
import Derived.Ground.Names2Prog
import Derived.Shelf.Slices.CompactS
import Derived.Shelf.Slices.In.SortNone
import Derived.Test.YtcchjpjkhaomeaaProg
import Derived.WalkKit
import Derived.BigCall
set_option linter.unusedVariables false
set_option linter.unusedSimpArgs false
set_option linter.unusedSectionVars false
open Option.some renaming injEq → yA
open Bool renaming and_eq_true → yB, eq_iff_iff → yR, not_eq_true' → yV, true_and → vT, not_eq_false' → vU, or_true → vV
open List renaming getElem_mem → yC, getElem?_eq_getElem → yD, replicate → yH, length_append → yI, mem_map → yJ, mem_singleton_self → yK, getD_eq_getElem?_getD → yM, length_cons → yN, take_of_length_le → yO, range → yP, mem_cons → yQ, take → yS, any_eq_true → yU, length_map → yW, take_add_one → yX, length_nil → vC, mem_range → vD, all_eq_true → vE, getElem?_cons_zero → vH, any_eq_false → vI, getElem?_map → vJ, mem_cons_of_mem → vK, mem_singleton → vL, mem_append_right → vM, map_cons → vO, flatMap_append → vP, length_eq_zero_iff → vQ, all_append → vR, all_eq_false → vS, getElem?_eq_some_iff → vW, length_singleton → vY, set_cons_succ → vZ, getElem?_eq_none → uA, getElem_of_mem → uD, mem_take_iff_getElem → uE, replicate_succ → uF, mem_append_left → uG
open Int renaming toNat_natCast → yE, natCast_zero → yF
open Nat renaming le_refl → yG, zero_le → yT, lt_of_lt_of_le → yY, not_lt_zero → yZ, zero_add → vA, lt_succ_self → vF, succ_mul → vX
open Option renaming map_eq_some_iff → yL, map_some → vG
open Prod.mk renaming injEq → vB
open Array renaming replicate → vN, getElem?_append_left → uB, getElem?_modify → uC
namespace Go.Fx
def rdK (x : V) (bn : List Nat) : List Nat :=
 match x with
 | .ptr k _ _ => k :: bn
 | _ => bn
def cloK (x : V) (K : FuncId → List V → Prop) : Prop :=
 match x with
 | .clo g cs => K g cs
 | _ => False
mutual
theorem kill_nil : ∀ x : V, kill [] x = x
 | .any => rfl
 | .v _ => rfl
 | .ro _ _ => rfl
 | .bro _ _ => rfl
 | .full _ _ => rfl
 | .rp _ _ _ _ => rfl
 | .sl _ _ _ => by simp [kill]
 | .ptr _ _ _ => by simp [kill]
 | .mp _ => by simp [kill]
 | .itr _ => by simp [kill]
 | .agg cs => by simp [kill, kills_nil cs]
 | .tup cs => by simp [kill, kills_nil cs]
 | .clo _ cs => by simp [kill, kills_nil cs]
theorem kills_nil : ∀ xs : List V, kills [] xs = xs
 | [] => rfl
 | x :: r => by simp [kills, kill_nil x, kills_nil r]
end
theorem killE_nil : ∀ e : Env, killE [] e = e
 | [] => rfl
 | (_, x) :: r => by simp [killE, kill_nil x, killE_nil r]
theorem killB_nil (l : List Blk) : l.map (killB []) = l := by
 have : killB [] = id := by
  funext b
  cases b <;> simp [killB, kills_nil, kill_nil, killE_nil, funext kills_nil]
 simp [this]
section
variable {cx : Cx} {e : Env} {h : List Blk} {b : Nat} {K : V → St → Prop} {Ks : St → Prop} {N R : St → Prop} {X : Nat → St → Prop} {d : Option Nat} {op : LOp}
theorem qV {d : Nat} {x : V} : St.put ⟨e, h, b⟩ (some d) x = ⟨(d, x) :: e, h, b⟩ := rfl
theorem qW {x : V} : St.put ⟨e, h, b⟩ none x = ⟨e, h, b⟩ := rfl
theorem qx : aOps cx [] ⟨e, h, b⟩ Ks = Ks ⟨e, h, b⟩ := rfl
theorem qy {r : List LOper} : aOps cx (⟨d, op, none⟩ :: r) ⟨e, h, b⟩ Ks = aOp cx op ⟨e, h, b⟩ fun x s' => aOps cx r (s'.put d x) Ks := rfl
theorem qz {g : Nat} {w : Bool} {r : List LOper} : aOps cx (⟨d, op, some (g, w)⟩ :: r) ⟨e, h, b⟩ Ks = guardP (get e g) w
   (aOp cx op ⟨(g, .b w) :: e, h, b⟩ fun x s' => aOps cx r (s'.put d x) Ks)
   (aOps cx r (St.put ⟨(g, .b !w) :: e, h, b⟩ d (.v (.tuple #[]))) Ks)
   (aOps cx r (St.put ⟨e, h, b⟩ d (.v (.tuple #[]))) Ks) := rfl
theorem qa {x : Operand} {bn : List Nat} : rdB (.mov x) e bn = bn := rfl
theorem qA {x : Operand} : aOp cx (.mov x) ⟨e, h, b⟩ K = K (ev e x) ⟨e, h, b⟩ := rfl
theorem qB {c x y : Operand} : aOp cx (.pick c x y) ⟨e, h, b⟩ K = brV (ev e c) (K (ev e x) ⟨e, h, b⟩) (K (ev e y) ⟨e, h, b⟩) := rfl
theorem qC {j : Nat} {x : Operand} : aOp cx (.box j x) ⟨e, h, b⟩ K = optK (cells? (ev e x)) fun cs => freshP h (b + j) ∧ K (.ptr (b + j) 0 0) ⟨e, h.set (b + j) (.var cs), b⟩ := rfl
theorem qD {j : Nat} {z : Value} : aOp cx (.alloc j z) ⟨e, h, b⟩ K = optK (cells? (ofConst z)) fun cs => freshP h (b + j) ∧ K (.ptr (b + j) 0 0) ⟨e, h.set (b + j) (.var cs), b⟩ := rfl
theorem qE {n : Option Nat} {x : Operand} : aOp cx (.load n x) ⟨e, h, b⟩ K = loadP h n (ev e x) fun y => K y ⟨e, h, b⟩ := rfl
theorem qF {n : Nat} {x y : Operand} : aOp cx (.store n x y) ⟨e, h, b⟩ K = optK (cells? (ev e y)) fun cs => storeP cx.bn h n (ev e x) cs fun h => K (.v (.tuple #[])) ⟨e, h, b⟩ := rfl
theorem qb {n : Nat} {x : Operand} {bn : List Nat} : rdB (.fld n x) e bn = bn := rfl
theorem qG {n : Nat} {x : Operand} : aOp cx (.fld n x) ⟨e, h, b⟩ K = fldP n (ev e x) fun y => K y ⟨e, h, b⟩ := rfl
theorem qc {n : Nat} {x i : Operand} {bn : List Nat} : rdB (.idx n x i) e bn = bn := rfl
theorem qH {n : Nat} {x i : Operand} : aOp cx (.idx n x i) ⟨e, h, b⟩ K = intK (ev e i) fun _ m => idxP h n m (ev e x) fun y => K y ⟨e, h, b⟩ := rfl
theorem qI {o : BinOp} {ex : Bool} {x y : Operand} : aOp cx (.bin o ex x y) ⟨e, h, b⟩ K = intK (ev e x) fun k a => intK (ev e y) fun k' c => k' = k ∧ binInt o ex k a c fun z => K z ⟨e, h, b⟩ := rfl
theorem qd {x : Operand} {bn : List Nat} : rdB (.len x) e bn = bn := rfl
theorem qJ {x : Operand} : aOp cx (.len x) ⟨e, h, b⟩ K = lenP (ev e x) fun y => K y ⟨e, h, b⟩ := rfl
theorem qK {x : Operand} : aOp cx (.lens x) ⟨e, h, b⟩ K = lensP (ev e x) fun y => K y ⟨e, h, b⟩ := rfl
theorem qL {x : Operand} : aOp cx (.not x) ⟨e, h, b⟩ K = boolK (ev e x) fun t => K (.b (!t)) ⟨e, h, b⟩ := rfl
theorem qM {f : FuncId} {cs : List Operand} : aOp cx (.fn f cs) ⟨e, h, b⟩ K = K (.clo f (cs.map (ev e))) ⟨e, h, b⟩ := rfl
theorem qe {z : Nat} {x : Operand} {l u m : Option Operand} {bn : List Nat} : rdB (.slice z x l u m) e bn = bn := rfl
theorem qN {z : Nat} {x : Operand} {l u m : Option Operand} : aOp cx (.slice z x l u m) ⟨e, h, b⟩ K = optI (l.map (ev e)) fun l => optI (u.map (ev e)) fun u => optI (m.map (ev e)) fun m => slcP h z (ev e x) l u m fun y => K y ⟨e, h, b⟩ := rfl
theorem qO {j sz n : Nat} {z : List Value} {ps : List (Nat × Operand)} : aOp cx (.lits j sz n z ps) ⟨e, h, b⟩ K = litsP e sz (yH n (z.map .v)) ps fun els => freshP h (b + j) ∧ K (.sl (b + j) 0 n) ⟨e, h.set (b + j) (.arr sz els), b⟩ := rfl
theorem qP {j sz bytes : Nat} {z : List Value} {l c : Operand} : aOp cx (.mk j sz bytes z l c) ⟨e, h, b⟩ K = intK (ev e l) fun _ a => intK (ev e c) fun _ d => ((0 ≤ a ∧ a ≤ d) ∧ (bytes : Int) * d ≤ 281474976710656 ∧ d ≤ 9223372036854775807) ∧ freshP h (b + j) ∧ K (.sl (b + j) 0 a.toNat) ⟨e, h.set (b + j) (.arr sz (yH a.toNat (z.map .v))), b⟩ := rfl
theorem qQ {j sz bytes : Nat} {x y : Operand} : aOp cx (.append j sz bytes x y) ⟨e, h, b⟩ K = viewK h (ev e y) fun sz' new => (new = [] ∨ sz' = sz) ∧ appP cx.fx cx.bn (b + j) sz bytes ⟨e, h, b⟩ (ev e x) new K := rfl
theorem qR {x i : Operand} : aOp cx (.prim .sidx [x, i]) ⟨e, h, b⟩ K = strK (ev e x) fun t => intK (ev e i) fun _ j => 0 ≤ j ∧ optK t[j.toNat]? fun c => K (.v (.int .u8 c.toNat)) ⟨e, h, b⟩ := rfl
theorem qf {o : BinOp} {x y : Operand} {bn : List Nat} : rdB (.prim (.sbin o) [x, y]) e bn = bn := rfl
theorem qS {o : BinOp} {x y : Operand} : aOp cx (.prim (.sbin o) [x, y]) ⟨e, h, b⟩ K = strK (ev e x) fun t => strK (ev e y) fun u => sbinP o t u fun y => K y ⟨e, h, b⟩ := rfl
theorem qT {f : FuncId} {xs : List Operand} : aOp cx (.call f xs) ⟨e, h, b⟩ K = callP cx f (xs.map (ev e)) ⟨e, h, b⟩ K := rfl
theorem qh {n : Option Nat} {x : Operand} {bn : List Nat} : rdB (.load n x) e bn = rdK (ev e x) bn := by
 show (match ev e x with | .ptr k _ _ => k :: bn | _ => bn) = _
 unfold rdK
 cases ev e x <;> rfl
theorem qU {f : Operand} {xs : List Operand} : aOp cx (.callv f xs) ⟨e, h, b⟩ K = cloK (ev e f) fun g cs => callP cx g (xs.map (ev e) ++ cs) ⟨e, h, b⟩ K := by
 simp only [aOp, cloK]; split <;> simp_all
theorem qn : aw cx .skip N X R ⟨e, h, b⟩ = N ⟨e, h, b⟩ := rfl
theorem qo {n : Nat} {l : List LOper} : aw cx (.reg n l) N X R ⟨e, h, b⟩ = aOps cx l ⟨e, h ++ yH n .dead, h.length⟩ N := rfl
theorem qp {m n : Nat} {l : List LOper} : aw cx (.tail m n l) N X R ⟨e, h, b⟩ = aOps cx l ⟨e, h ++ yH n .dead, h.length⟩ N := rfl
theorem qq {n : Nat} {l : List LOper} : aw cx (.qui n l) N X R ⟨e, h, b⟩ = aOps cx l ⟨e, h ++ yH n .dead, h.length⟩ N := rfl
theorem qi {n : Nat} {p : LPlan} : aw cx (.tree n p) N X R ⟨e, h, b⟩ = awP cx p [] N ⟨e, h ++ yH n .dead, h.length⟩ := rfl
theorem qj {bn : List Nat} : awP cx .done bn Ks ⟨e, h, b⟩ = Ks ⟨e, h, b⟩ := rfl
theorem qk {bn : List Nat} : awP cx .none bn Ks ⟨e, h, b⟩ = True := rfl
theorem ql {i : Nat} {D bn : List Nat} {p : LPlan} : awP cx (.take i D ⟨d, op, none⟩ p) bn Ks ⟨e, h, b⟩ = aOp cx op ⟨e, h, b⟩ fun x s' => awP cx p (rdB op e bn) Ks (s'.put d x) := rfl
theorem qm {i : Nat} {r : Bool} {bn : List Nat} {p q : LPlan} : awP cx (.alt i ⟨d, op, none⟩ r p q) bn Ks ⟨e, h, b⟩ =
   ((aOp ⟨cx.C, cx.fx, if r then bn else [], cx.it, cx.y, cx.rk⟩ op ⟨e, h, b⟩ fun x s' => awP cx p (if r then bn else []) Ks (s'.put d x)) ∧ awP cx q bn Ks ⟨e, h, b⟩) := rfl
theorem qr {x y : LCode} : aw cx (.seq x y) N X R ⟨e, h, b⟩ = aw cx x (fun s' => aw cx y N X R s') X R ⟨e, h, b⟩ := rfl
theorem qs {c : Operand} {x y : LCode} : aw cx (.cond c x y) N X R ⟨e, h, b⟩ = brV (ev e c) (aw cx x N X R ⟨e, h, b⟩) (aw cx y N X R ⟨e, h, b⟩) := rfl
theorem qt {i : Nat} {x : LCode} : aw cx (.block i x) N X R ⟨e, h, b⟩ = aw cx x N (fun j s' => if j = i then N s' else X j s') R ⟨e, h, b⟩ := rfl
theorem qu {x : LCode} : aw cx (.loop x) N X R ⟨e, h, b⟩ = loopP cx.fx (fun N => aw cx x N X R) ⟨e, h, b⟩ := rfl
theorem qv {i : Nat} : aw cx (.exit i) N X R ⟨e, h, b⟩ = X i ⟨e, h, b⟩ := rfl
theorem qw : aw cx .ret N X R ⟨e, h, b⟩ = R ⟨e, h, b⟩ := rfl
theorem zf {A B : Prop} : br true A B = A := by simp [br]
theorem zg {A B : Prop} : br false A B = B := by simp [br]
theorem ze {t : Bool} {A B : Prop} : brV (.v (.bool t)) A B = br t A B := rfl
theorem zh {t : Bool} {w : Bool} {A B C : Prop} : guardP (.v (.bool t)) w A B C = if w then br t A B else br t B A := rfl
theorem zi {w : Bool} {A B C : Prop} : guardP (.v (.tuple #[])) w A B C = C := rfl
theorem zc {k : IntKind} {a : Int} {K : IntKind → Int → Prop} : intK (.v (.int k a)) K = K k a := rfl
theorem zd {a : Bool} {K : Bool → Prop} : boolK (.v (.bool a)) K = K a := rfl
theorem retP_eq {fx : List Nat} {n : Nat} {rs : List LRes} {R : V → List Blk → Prop} : retP fx n rs R ⟨e, h, b⟩ = resP h e rs [] fun xs => ∃ p, (leH h p ∧ keepP fx p ∧ n ≤ p.length ∧ wfV p (tupV xs) ∧ wfB p p) ∧ R (tupV xs) p := rfl
theorem zk {fx : List Nat} {p : Env} {q : List Blk} {b' : Nat} : leS fx ⟨e, h, b⟩ ⟨p, q, b'⟩ = (leE e p ∧ leH h q ∧ keepP fx q ∧ wfE q p ∧ wfB q q) := rfl
end
section
variable {cx : Cx} {h : List Blk} {e : Env} {s : St} {fx bn : List Nat}
def Is (x : V) : V → List Blk → Prop := fun r h => r = x ∧ h = []
theorem zj {e : Env} {h : List Blk} {b : Nat} {rs : List LRes} {x : V} : retP [] 0 rs (Is x) ⟨e, h, b⟩ = resP h e rs [] fun xs => wfV [] (tupV xs) ∧ tupV xs = x := by
 unfold retP Is
 simp only
 congr 1
 funext xs
 apply propext
 constructor
 ·rintro ⟨p, ⟨_, _, _, h4, _⟩, h5, rfl⟩
  exact ⟨h4, h5⟩
 ·rintro ⟨h4, h5⟩
  exact ⟨[], ⟨by unfold leH; trivial, trivial, yG _, h4, trivial⟩, h5, rfl⟩
theorem qX {t : Nat} : ev e (.tmp t) = get e t := rfl
theorem qY {c : Value} : ev e (.const c) = ofConst c := rfl
theorem qZ {f : FuncId} : ev e (.func f) = .clo f [] := rfl
theorem za {j i : Nat} {x : V} {r : Env} : get ((j, x) :: r) i = if i = j then x else get r i := rfl
theorem zb {k : Nat} : blk h k = h.getD k .dead := rfl
@[congr] theorem c_optK {α : Type} {o o' : Option α} {K : α → Prop} (q : o = o') : optK o K = optK o' K := by rw [q]
@[congr] theorem c_intK {x x' : V} {K : IntKind → Int → Prop} (q : x = x') : intK x K = intK x' K := by rw [q]
@[congr] theorem c_boolK {x x' : V} {K : Bool → Prop} (q : x = x') : boolK x K = boolK x' K := by rw [q]
@[congr] theorem c_brV {x x' : V} {A B : Prop} (q : x = x') : brV x A B = brV x' A B := by rw [q]
@[congr] theorem c_guardP {x x' : V} {w : Bool} {A B C : Prop} (q : x = x') : guardP x w A B C = guardP x' w A B C := by rw [q]
@[congr] theorem c_loadP {n : Option Nat} {p p' : V} {K : V → Prop} (q : p = p') : loadP h n p K = loadP h n p' K := by rw [q]
@[congr] theorem c_loadB {n : Option Nat} {i f : Nat} {b b' : Blk} {K : V → Prop} (q : b = b') : loadB n i f b K = loadB n i f b' K := by rw [q]
@[congr] theorem c_loadCs {n : Option Nat} {f : Nat} {cs cs' : List V} {K : V → Prop} (q : cs = cs') : loadCs n f cs K = loadCs n f cs' K := by rw [q]
@[congr] theorem c_storeP {n : Nat} {p p' : V} {cs cs' : List V} {K : List Blk → Prop} (q : p = p') (q2 : cs = cs') : storeP bn h n p cs K = storeP bn h n p' cs' K := by rw [q, q2]
@[congr] theorem c_storeB {n i f : Nat} {cs : List V} {b b' : Blk} {K : Blk → Prop} (q : b = b') : storeB n i f cs b K = storeB n i f cs b' K := by rw [q]
@[congr] theorem c_fldP {n : Nat} {x x' : V} {K : V → Prop} (q : x = x') : fldP n x K = fldP n x' K := by rw [q]
@[congr] theorem c_idxP {z : Nat} {n n' : Int} {x x' : V} {K : V → Prop} (q : x = x') (q2 : n = n') : idxP h z n x K = idxP h z n' x' K := by rw [q, q2]
@[congr] theorem c_lenP {x x' : V} {K : V → Prop} (q : x = x') : lenP x K = lenP x' K := by rw [q]
@[congr] theorem c_lensP {x x' : V} {K : V → Prop} (q : x = x') : lensP x K = lensP x' K := by rw [q]
@[congr] theorem c_viewK {x x' : V} {K : Nat → List (List V) → Prop} (q : x = x') : viewK h x K = viewK h x' K := by rw [q]
@[congr] theorem c_optI {x x' : Option V} {K : Option Int → Prop} (q : x = x') : optI x K = optI x' K := by rw [q]
@[congr] theorem c_slcP {z : Nat} {x x' : V} {l u m : Option Int} {K : V → Prop} (q : x = x') : slcP h z x l u m K = slcP h z x' l u m K := by rw [q]
@[congr] theorem c_buildP {acc acc' : List V} {ps : List (Nat × Nat × Operand)} {K : V → Prop} (q : acc = acc') : buildP e acc ps K = buildP e acc' ps K := by rw [q]
@[congr] theorem c_litsP {sz : Nat} {acc acc' : List (List V)} {ps : List (Nat × Operand)} {K : List (List V) → Prop} (q : acc = acc') : litsP e sz acc ps K = litsP e sz acc' ps K := by rw [q]
@[congr] theorem c_eqnP {x x' : V} {K : Bool → Prop} (q : x = x') : eqnP x K = eqnP x' K := by rw [q]
@[congr] theorem c_appP {id sz bytes : Nat} {x x' : V} {new new' : List (List V)} {K : V → St → Prop} (q : x = x') (q2 : new = new') : appP fx bn id sz bytes s x new K = appP fx bn id sz bytes s x' new' K := by rw [q, q2]
@[congr] theorem c_appB {k i n sz bytes : Nat} {new : List (List V)} {b b' : Blk} {K : V → St → Prop} (q : b = b') : appB fx bn k i n sz bytes s new b K = appB fx bn k i n sz bytes s new b' K := by rw [q]
@[congr] theorem c_appNew {id sz bytes : Nat} {old old' new : List (List V)} {K : V → St → Prop} (q : old = old') : appNew id sz bytes s old new K = appNew id sz bytes s old' new K := by rw [q]
@[congr] theorem c_copyP {sz : Nat} {x x' : V} {new : List (List V)} {K : V → St → Prop} (q : x = x') : copyP bn sz s x new K = copyP bn sz s x' new K := by rw [q]
@[congr] theorem c_cloK {x x' : V} {K : FuncId → List V → Prop} (q : x = x') : cloK x K = cloK x' K := by rw [q]
@[congr] theorem c_aggK {x x' : V} {K : List V → Prop} (q : x = x') : aggK x K = aggK x' K := by rw [q]
@[congr] theorem c_callP {f : FuncId} {xs xs' : List V} {s s' : St} {K : V → St → Prop} (q : xs = xs') (q2 : s = s') : callP cx f xs s K = callP cx f xs' s' K := by rw [q, q2]
@[congr] theorem c_binInt {op : BinOp} {ex : Bool} {k : IntKind} {a a' b b' : Int} {K : V → Prop} (q : a = a') (q2 : b = b') : binInt op ex k a b K = binInt op ex k a' b' K := by rw [q, q2]
@[congr] theorem c_eqFs {xs xs' ys ys' : List V} {ks : List (Nat × TypeDesc)} {K : Bool → Prop} (q : xs = xs') (q2 : ys = ys') : eqFs xs ys ks K = eqFs xs' ys' ks K := by rw [q, q2]
@[congr] theorem c_eqC {kd : TypeDesc} {x x' y y' : Option V} {K : Bool → Prop} (q : x = x') (q2 : y = y') : eqC kd x y K = eqC kd x' y' K := by rw [q, q2]
@[congr] theorem c_resP {ls : List LRes} {acc acc' : List V} {K : List V → Prop} (q : acc = acc') : resP h e ls acc K = resP h e ls acc' K := by rw [q]
@[congr] theorem c_awP {p : LPlan} {s s' : St} {Ks : St → Prop} (q : s = s') : awP cx p bn Ks s = awP cx p bn Ks s' := by rw [q]
@[congr] theorem c_aOps {l : List LOper} {s s' : St} {Ks : St → Prop} (q : s = s') : aOps cx l s Ks = aOps cx l s' Ks := by rw [q]
@[congr] theorem c_aw {c : LCode} {s s' : St} {N R : St → Prop} {X : Nat → St → Prop} (q : s = s') : aw cx c N X R s = aw cx c N X R s' := by rw [q]
@[congr] theorem c_aOp {o : LOp} {s s' : St} {K : V → St → Prop} (q : s = s') : aOp cx o s K = aOp cx o s' K := by rw [q]
end
theorem loopP_intro {fx : List Nat} {f : (St → Prop) → St → Prop} {s : St} {G : Type} (pat : G → St) (I : G → Prop) (μ : G → Nat) (g : G) (h0 : I g) (h1 : leS fx s (pat g))
  (h : ∀ g, I g → f (fun s' => ∃ g', (I g' ∧ μ g' < μ g) ∧ leS fx s' (pat g')) (pat g)) : loopP fx f s :=
 ⟨G, pat, I, μ, leS fx, fun a _ h => ⟨a, .refl a, h⟩, ⟨g, h0, _, .refl s, h1⟩, h⟩
theorem callP_pure {cx : Cx} {f : FuncId} {args : List V} {e : Env} {h : List Blk} {b : Nat} {K : V → St → Prop} (zas : List V) (R : V → List Blk → Prop) (h1 : lendsOk h (fun _ => none) args ∧ wkL zas (lends h (fun _ => none) args)) (h2 : cx.C f zas [] [] R)
  (h3 : ∀ r h', R r h' → keepP cx.fx (h ++ h'.map (renB (fun j => some (h.length + j)))) ∧ K (ren (fun j => some (h.length + j)) r) ⟨e, h ++ h'.map (renB (fun j => some (h.length + j))), b⟩) : callP cx f args ⟨e, h, b⟩ K := by
 have hp : pos [] = fun _ => none := rfl
 have hb : back [] h.length = fun j => some (h.length + j) := by funext j; simp [back]
 have hk : ∀ l : List Blk, l.map (killB []) = l := killB_nil
 refine ⟨[], zas, [], R, ⟨⟨List.nodup_nil, by simp⟩, by simp⟩, ?_, ?_, by simpa using h2, ?_⟩
 ·rw [hp]; exact h1.1
 ·rw [hp]; exact h1.2
 ·intro r h' hR _
  have := h3 r h' hR
  simp only [hb, setAll, List.filterMap_nil, hk, killE_nil]
  exact this
section
variable {h : List Blk} {e : Env} {s : St} {fx bn : List Nat} {b : Nat}
def viewB (b : Blk) (i n : Nat) (K : Nat → List (List V) → Prop) : Prop :=
 match b with
 | .arr sz els => i + n ≤ els.length ∧ K sz ((els.drop i).take n)
 | .var cs => (i + n ≤ cs.length ∧ ((cs.drop i).take n).all isD = true) ∧ K 1 (((cs.drop i).take n).map fun c => [c])
 | _ => False
theorem zy {α : Type} {x : α} {K : α → Prop} : optK (some x) K = K x := rfl
theorem zz {n : Option Nat} {k i f : Nat} {K : V → Prop} : loadP h n (.ptr k i f) K = loadB n i f (blk h k) K := rfl
theorem zA {n : Option Nat} {z i f : Nat} {els : List (List V)} {K : V → Prop} : loadP h n (.rp z els i f) K = ∃ hi : i < els.length, loadCs n f (els[i]'hi) K := rfl
theorem zB {n : Option Nat} {f : Nat} {cs : List V} {K : V → Prop} : loadB n 0 f (.var cs) K = loadCs n f cs K := by
 show loadCs n (0 + f) cs K = _
 rw [vA]
theorem zC {n : Option Nat} {i : Nat} {cs : List V} {K : V → Prop} : loadB n i 0 (.var cs) K = loadCs n i cs K := rfl
theorem zD {f : Nat} {cs : List V} {K : V → Prop} : loadCs none f cs K = optK cs[f]? K := rfl
theorem zE {m f : Nat} {cs : List V} {K : V → Prop} : loadCs (some m) f cs K = (f + m ≤ cs.length ∧ K (.agg ((cs.drop f).take m))) := rfl
theorem zF {n k i f : Nat} {cs : List V} {K : List Blk → Prop} : storeP bn h n (.ptr k i f) cs K = ((cs.length = n ∧ k ∉ bn) ∧ cs.all isC = true ∧ storeB n i f cs (blk h k) fun b => K (h.set k b)) := rfl
theorem zG {n i : Nat} {cs old : List V} {K : Blk → Prop} : storeB n i 0 cs (.var old) K = ((i + n ≤ old.length) ∧ K (.var (splice old i cs))) := rfl
theorem zH {n i f z : Nat} {cs : List V} {els : List (List V)} {K : Blk → Prop} : storeB n i f cs (.arr z els) K = ((f + n ≤ z ∧ cs.all isD = true) ∧ ∃ hi : i < els.length, K (.arr z (els.set i (splice (els[i]'hi) f cs)))) := rfl
theorem zI {o k i f : Nat} {K : V → Prop} : fldP o (.ptr k i f) K = K (.ptr k i (f + o)) := rfl
theorem zJ {o z i f : Nat} {els : List (List V)} {K : V → Prop} : fldP o (.rp z els i f) K = K (.rp z els i (f + o)) := rfl
theorem zK {z k i m : Nat} {n : Int} {K : V → Prop} : idxP h z n (.sl k i m) K = (arrSz z (blk h k) ∧ (0 ≤ n ∧ n < m) ∧ K (.ptr k (i + n.toNat) 0)) := rfl
theorem zL {z y : Nat} {els : List (List V)} {n : Int} {K : V → Prop} : idxP h z n (.ro y els) K = (y = z ∧ (0 ≤ n ∧ n < els.length) ∧ K (.rp y els n.toNat 0)) := rfl
theorem zM {z y : Nat} {els : List (List V)} {n : Int} {K : V → Prop} : idxP h z n (.bro y els) K = (y = z ∧ (0 ≤ n ∧ n < els.length) ∧ K (.rp y els n.toNat 0)) := rfl
theorem zN {y : Nat} {els : List (List V)} {K : V → Prop} : lenP (.ro y els) K = (els.length ≤ maxLen → K (.i els.length)) := rfl
theorem zO {y : Nat} {els : List (List V)} {K : V → Prop} : lenP (.bro y els) K = (els.length ≤ maxLen → K (.i els.length)) := rfl
theorem zP {t : ByteArray} {K : V → Prop} : lensP (.v (.string t)) K = K (.i t.size) := rfl
theorem zQ {f : FuncId} {cs : List V} {K : FuncId → List V → Prop} : cloK (.clo f cs) K = K f cs := rfl
theorem zR {k i n : Nat} {K : Nat → List (List V) → Prop} : viewK h (.sl k i n) K = viewB (blk h k) i n K := rfl
theorem zS {i n z : Nat} {els : List (List V)} {K : Nat → List (List V) → Prop} : viewB (.arr z els) i n K = (i + n ≤ els.length ∧ K z ((els.drop i).take n)) := rfl
theorem zT {z : Nat} {els : List (List V)} {K : Nat → List (List V) → Prop} : viewK h (.ro z els) K = K z els := rfl
theorem zU {K : Option Int → Prop} : optI none K = K none := rfl
theorem zV {k : IntKind} {n : Int} {K : Option Int → Prop} : optI (some (.v (.int k n))) K = K (some n) := rfl
theorem zW {z y : Nat} {els : List (List V)} {l u : Option Int} {K : V → Prop} : slcP h z (.ro y els) l u none K = (y = z ∧ slcOk els.length l u none ∧ K (.ro y ((els.drop (l.getD 0).toNat).take ((u.getD els.length).toNat - (l.getD 0).toNat)))) := rfl
theorem zX {id sz bytes : Nat} {old new : List (List V)} {K : V → St → Prop} : appNew id sz bytes ⟨e, h, b⟩ old new K = ((old.length + new.length) * bytes ≤ 140737488355328 ∧ freshP h id ∧ K (.sl id 0 (old.length + new.length)) ⟨e, h.set id (.arr sz (old ++ new)), b⟩) := rfl
theorem zY {k i n sz bytes z : Nat} {new els : List (List V)} {K : V → St → Prop} : appB fx bn k i n sz bytes ⟨e, h, b⟩ new (.arr z els) K = ((z = sz ∧ i + n ≤ els.length ∧ (n + new.length) * bytes ≤ 140737488355328) ∧ (k ∉ fx ∧ k ∉ bn) ∧ K (.sl k 0 (n + new.length)) ⟨killE [k] e, (h.map (killB [k])).set k (.arr sz ((els.drop i).take n ++ new)), b⟩) := rfl
theorem zZ {k i n id sz bytes : Nat} {new : List (List V)} {K : V → St → Prop} : appP fx bn id sz bytes ⟨e, h, b⟩ (.sl k i n) new K = appB fx bn k i n sz bytes ⟨e, h, b⟩ new (blk h k) K := rfl
theorem ka {id sz bytes z : Nat} {els new : List (List V)} {K : V → St → Prop} : appP fx bn id sz bytes s (.full z els) new K = ((z = sz ∧ new ≠ []) ∧ appNew id sz bytes s els new K) := rfl
theorem kc {t : ByteArray} {K : ByteArray → Prop} : strK (.v (.string t)) K = K t := rfl
theorem ke {t u : ByteArray} {K : V → Prop} : sbinP .add t u K = (t.size + u.size ≤ 9223372036854775807 ∧ K (.v (.string (t ++ u)))) := rfl
theorem kf {t u : ByteArray} {K : V → Prop} : sbinP .eql t u K = K (.b (t.toList == u.toList)) := rfl
theorem kg {t u : ByteArray} {K : V → Prop} : sbinP .neq t u K = K (.b (!(t.toList == u.toList))) := rfl
theorem kh {t u : ByteArray} {K : V → Prop} : sbinP .leq t u K = K (.b (Op.bytesLess t.toList u.toList || t.toList == u.toList)) := rfl
section
variable {k : IntKind} {a c : Int} {K : V → Prop}
theorem ki : binInt .add true k a c K = ((lo k ≤ a + c ∧ a + c ≤ hi k) ∧ K (.v (.int k (a + c)))) := rfl
theorem kj : binInt .sub true k a c K = ((lo k ≤ a - c ∧ a - c ≤ hi k) ∧ K (.v (.int k (a - c)))) := rfl
theorem kk : binInt .mul true k a c K = ((lo k ≤ a * c ∧ a * c ≤ hi k) ∧ K (.v (.int k (a * c)))) := rfl
theorem kn {x : Bool} : binInt .eql x k a c K = K (.b (a == c)) := rfl
theorem ko {x : Bool} : binInt .neq x k a c K = K (.b (a != c)) := rfl
theorem kp {x : Bool} : binInt .lss x k a c K = K (.b (decide (a < c))) := rfl
theorem kq {x : Bool} : binInt .leq x k a c K = K (.b (decide (a ≤ c))) := rfl
theorem kr {x : Bool} : binInt .gtr x k a c K = K (.b (decide (c < a))) := rfl
theorem kv {x : Bool} : binInt .geq x k a c K = K (.b (decide (c ≤ a))) := rfl
end
@[congr] theorem c_slcAP {n : Nat} {x x' : V} {l u m : Option Int} {K : V → Prop} (q : x = x') : slcAP h n x l u m K = slcAP h n x' l u m K := by rw [q]
@[congr] theorem c_slcAB {n k i i' : Nat} {b b' : Blk} {l u m : Option Int} {K : V → Prop} (q : b = b') (q2 : i = i') : slcAB n k i b l u m K = slcAB n k i' b' l u m K := by rw [q, q2]
@[congr] theorem c_peqP {x x' y y' : V} {K : Bool → Prop} (q : x = x') (q2 : y = y') : peqP x y K = peqP x' y' K := by rw [q, q2]
@[congr] theorem c_strK {x x' : V} {K : ByteArray → Prop} (q : x = x') : strK x K = strK x' K := by rw [q]
@[congr] theorem c_sslcP {t t' : ByteArray} {l u : Option Int} {K : V → Prop} (q : t = t') : sslcP t l u K = sslcP t' l u K := by rw [q]
@[congr] theorem c_sbinP {o : BinOp} {t t' u u' : ByteArray} {K : V → Prop} (q : t = t') (q2 : u = u') : sbinP o t u K = sbinP o t' u' K := by rw [q, q2]
@[congr] theorem c_mmP {mx : Bool} {x x' : V} {r r' : List V} {K : V → Prop} (q : x = x') (q2 : r = r') : mmP mx x r K = mmP mx x' r' K := by rw [q, q2]
@[congr] theorem c_clrP {sz : Nat} {z : List Value} {x x' : V} {K : V → St → Prop} (q : x = x') : clrP bn sz z x s K = clrP bn sz z x' s K := by rw [q]
@[congr] theorem c_clrB {k i n sz : Nat} {z : List Value} {b b' : Blk} {K : V → St → Prop} (q : b = b') : clrB bn k i n sz z s b K = clrB bn k i n sz z s b' K := by rw [q]
@[congr] theorem c_keyA {ks : List (Nat × TypeDesc)} {x x' : V} {K : List Value → Prop} (q : x = x') : keyA ks x K = keyA ks x' K := by rw [q]
@[congr] theorem c_lookMA {ks : List (Nat × TypeDesc)} {us : List Value} {z : Value} {ok : Bool} {m m' : V} {K : V → Prop} (q : m = m') : lookMA h ks us z ok m K = lookMA h ks us z ok m' K := by rw [q]
@[congr] theorem c_copyB {k i n sz : Nat} {new : List (List V)} {b b' : Blk} {K : V → St → Prop} (q : b = b') : copyB bn k i n sz s new b K = copyB bn k i n sz s new b' K := by rw [q]
@[congr] theorem c_keyK {kd : TypeDesc} {x x' : V} {K : Value → Prop} (q : x = x') : keyK kd x K = keyK kd x' K := by rw [q]
@[congr] theorem c_mapK {x x' : V} {K : Nat → List (Value × V × Nat) → Nat → Prop} (q : x = x') : mapK h x K = mapK h x' K := by rw [q]
@[congr] theorem c_mapB {x x' : Blk} {K : List (Value × V × Nat) → Nat → Prop} (q : x = x') : mapB x K = mapB x' K := by rw [q]
@[congr] theorem c_lookK {r r' : Option (Option (Nat × V))} {z : Value} {ok : Bool} {K : V → Prop} (q : r = r') : lookK r z ok K = lookK r' z ok K := by rw [q]
@[congr] theorem c_msetK {r r' : Option (Option (Nat × V))} {key key' : Value} {x x' : V} {es es' : List (Value × V × Nat)} {c c' : Nat} {K : Blk → Prop} (q : r = r') (q1 : key = key') (q2 : x = x') (q3 : es = es') (q4 : c = c') : msetK r key x es c K = msetK r' key' x' es' c' K := by rw [q, q1, q2, q3, q4]
@[congr] theorem c_nextK {es es' : List (Value × V × Nat)} {si si' la la' : Nat} {se se' : List Nat} {D : Prop} {K : Value → V → Nat → Prop} (q : es = es') (q1 : si = si') (q2 : se = se') (q3 : la = la') : nextK es si se la D K = nextK es' si' se' la' D K := by rw [q, q1, q2, q3]
@[congr] theorem c_entK {r r' : Option (Value × V × Nat)} {K : V → Prop} (q : r = r') : entK r K = entK r' K := by rw [q]
@[congr] theorem c_itK {x x' : V} {K : Nat → V → Nat → List Nat → Nat → Prop} (q : x = x') : itK h x K = itK h x' K := by rw [q]
@[congr] theorem c_itB {x x' : Blk} {K : V → Nat → List Nat → Nat → Prop} (q : x = x') : itB x K = itB x' K := by rw [q]
@[congr] theorem c_viewB {i n : Nat} {x x' : Blk} {K : Nat → List (List V) → Prop} (q : x = x') : viewB x i n K = viewB x' i n K := by rw [q]
end
section
variable {α : Type} {a : α} {l : List α} {x : α} {y : Nat}
theorem lg0 : (a :: l)[1]? = l[0]? := rfl
theorem zl : (a :: l).set 1 x = a :: l.set 0 x := rfl
theorem zm : (a :: l).drop 1 = l.drop 0 := rfl
theorem zn : (a :: l).take 1 = a :: l.take 0 := rfl
theorem zo : yH 1 x = x :: yH 0 x := rfl
theorem lg1 : (a :: l)[2]? = l[1]? := rfl
theorem zp : (a :: l).set 2 x = a :: l.set 1 x := rfl
theorem zq : (a :: l).drop 2 = l.drop 1 := rfl
theorem zr : yH 2 x = x :: yH 1 x := rfl
theorem lg2 : (a :: l)[3]? = l[2]? := rfl
theorem zt : (a :: l).set 3 x = a :: l.set 2 x := rfl
theorem zu : (a :: l).drop 3 = l.drop 2 := rfl
theorem lg3 : (a :: l)[4]? = l[3]? := rfl
theorem zv : (a :: l).set 4 x = a :: l.set 3 x := rfl
theorem lg4 : (a :: l)[5]? = l[4]? := rfl
theorem zw : (a :: l).set 5 x = a :: l.set 4 x := rfl
theorem zx : yH 0 x = [] := rfl
end
end Go.Fx
namespace Go.Fx
open Go.RowKit
theorem rep_none {ρ : Nat → Loc} {X : Nat → Prop} {w : World} {h : List Blk} (hr : Rep ρ X w h) : Rep (gvLoc ρ fun _ => true) X w [] :=
 ⟨fun j k _ h1 => by simp [gvLoc] at h1, fun k _ => by simp [gvLoc], fun k b hb => by simp at hb, fun b ho => hr.disj b (gv_own ho), fun k h1 => by simp [gvLoc] at h1, hr.xlt⟩
theorem Fn_give {P : Program} {f : FuncId} {args : List V} {mv : List Nat} {R : V → List Blk → Prop} {y : V} (h : Fn P f args [] mv R) (hy : ∀ r hs, R r hs → wk y (gvV (fun _ => true) hs r)) : Fn P f args [] mv (Is y) := by
 intro ρ X w vals h1 h2
 refine Calls.mono (h ρ X w vals h1 h2) ?_
 rintro e w' ⟨val, r, h', ρ', q1, q2, q3, q4, q5, q6⟩
 exact ⟨val, y, [], _, q1, ⟨⟨rfl, rfl⟩, yG _⟩, q3.trans gv_fr, rep_none q4, wk_rep _ _ _ (hy r h' q2.1) (gv_rep q4 _ _ q5), fun k hk => by simp at hk⟩
end Go.Fx
namespace Go.Fx
open Go.RowKit
section
variable (P : Program)
def C0 : Ctr := fun f xs h0 mv R => Callable P f ∧ Fn P f xs h0 mv R
def I0 : Itr := fun f zas fx k Y h K => Callable P f ∧ Iter P f zas fx k Y h K
def Y0 : Nat → Yt := fun _ _ _ _ => False
def cxN (fx : List Nat) : Cx := ⟨C0 P, fx, [], I0 P, Y0, none⟩
theorem cxN_ok (fx : List Nat) : (cxN P fx).ok P := ⟨fun _ _ _ _ _ h => h, fun _ _ _ _ _ _ _ h => h⟩
def OkN (f : FuncId) (xs : List V) (h0 : List Blk) (mv : List Nat) (R : V → List Blk → Prop) : Prop := C0 P f xs h0 mv R
variable {P}
theorem okN_of (hP : P.follows .mixedOrders = true) {f : FuncId} {l0 l : LCode} {rs : List LRes} {nt : Nat} (fx : List Nat) (hl : rlF P f l0 = some (l, rs, nt)) {args : List V} {h0 : List Blk} {mv : List Nat} {R : V → List Blk → Prop} (hlen : args.length ≤ nt) (hb : keepP fx h0)
  (hfx : ∀ k, k < h0.length → k ∉ mv → k ∈ fx) (h : aw (cxN P fx) l (retP fx h0.length rs R) (fun _ _ => False) (retP fx h0.length rs R) ⟨args0 0 args, h0, 0⟩) : OkN P f args h0 mv R :=
 ⟨rlF_callable hl, Fn_rl hP (cxN_ok P fx) hl hlen hb hfx h⟩
theorem okN_post {f : FuncId} {xs : List V} {h0 : List Blk} {mv : List Nat} {R R' : V → List Blk → Prop} (h : OkN P f xs h0 mv R) (hR : ∀ r h', R r h' → R' r h') : OkN P f xs h0 mv R' := by
 refine ⟨h.1, ?_⟩
 intro ρ X w vals h1 h2
 refine Calls.mono (h.2 ρ X w vals h1 h2) ?_
 rintro e w' ⟨val, r, h', ρ', q1, q2, q3, q4, q5, q6⟩
 exact ⟨val, r, h', ρ', q1, ⟨hR r h' q2.1, q2.2⟩, q3, q4, q5, q6⟩
end
def IsA (x : V) (h0 : List Blk) : V → List Blk → Prop := fun r h => r = x ∧ h = h0
theorem retP_isA {fx : List Nat} {n : Nat} {e : Env} {h : List Blk} {b : Nat} {rs : List LRes} {x : V} {h0 : List Blk} : retP fx n rs (IsA x h0) ⟨e, h, b⟩ = resP h e rs [] fun xs => (leH h h0 ∧ keepP fx h0 ∧ n ≤ h0.length ∧ wfV h0 (tupV xs) ∧ wfB h0 h0) ∧ tupV xs = x := by
 rw [retP_eq]
 congr 1
 funext xs
 apply propext
 constructor
 ·rintro ⟨p, h1, h2, rfl⟩
  exact ⟨h1, h2⟩
 ·rintro ⟨h1, h2⟩
  exact ⟨h0, h1, h2, rfl⟩
def IsQ {G : Type} (Q : G → Prop) (x : G → V) (h0 : G → List Blk) : V → List Blk → Prop := fun r h => ∃ g, Q g ∧ r = x g ∧ h = h0 g
section
variable {cx : Cx} {f : FuncId} {args : List V} {e : Env} {h : List Blk} {b : Nat} {K : V → St → Prop}
theorem call_is {xs : List V} {x : V} (hC : cx.C f xs [] [] (Is x)) (h1 : lendsOk h (fun _ => none) args ∧ wkL xs (lends h (fun _ => none) args)) (hx : ren (fun j => some (h.length + j)) x = x) (keep : keepP cx.fx h) (h3 : K x ⟨e, h, b⟩) : callP cx f args ⟨e, h, b⟩ K := by
 refine callP_pure xs (Is x) h1 hC ?_
 rintro r h' ⟨rfl, rfl⟩
 simp only [List.map_nil, List.append_nil]
 exact ⟨keep, by rw [hx]; exact h3⟩
theorem call_isN (ι : List Nat) (xs : List V) (x x' : V) (h0 h1 h' : List Blk) (hC : cx.C f xs h0 [] (IsA x h1))
  (hι : ι.Nodup ∧ ∀ k ∈ ι, k < h.length ∧ k ∉ cx.bn) (r0 : ι.map (fun k => renB (pos ι) (blk h k)) = h0) (ha : lendsOk h (pos ι) args ∧ wkL xs (lends h (pos ι) args)) (hlen : ι.length ≤ h1.length)
  (hh : setAll ι (h1.map (renB (back ι h.length))) h = h') (hx : ren (back ι h.length) x = x') (keep : keepP cx.fx h') (h3 : K x' ⟨e, h', b⟩) : callP cx f args ⟨e, h, b⟩ K := by
 have hkb : ∀ l : List Blk, l.map (killB []) = l := killB_nil
 refine ⟨ι, xs, [], IsA x h1, ⟨hι, by simp⟩, ha.1, ha.2, by rw [r0]; exact hC, ?_⟩
 rintro r h2 ⟨rfl, rfl⟩ _
 simp only [List.filterMap_nil, hkb, killE_nil, hh, hx]
 exact ⟨keep, h3⟩
theorem call_isM {G : Type} (Q : G → Prop) (ι mv M : List Nat) (xs : List V) (x : G → V) (h0 : List Blk) (h1 : G → List Blk) (hC : cx.C f xs h0 mv (IsQ Q x h1))
  (hι : ι.Nodup ∧ ∀ k ∈ ι, k < h.length ∧ k ∉ cx.bn) (hM : mv.filterMap (ι[·]?) = M ∧ ∀ j ∈ mv, ∀ k, ι[j]? = some k → k ∉ cx.fx) (r0 : ι.map (fun k => renB (pos ι) (blk h k)) = h0) (ha : lendsOk h (pos ι) args ∧ wkL xs (lends h (pos ι) args))
  (h3 : ∀ g, Q g → keepP cx.fx (setAll ι ((h1 g).map (renB (back ι h.length))) (h.map (killB M))) ∧ K (ren (back ι h.length) (x g)) ⟨killE M e, setAll ι ((h1 g).map (renB (back ι h.length))) (h.map (killB M)), b⟩) : callP cx f args ⟨e, h, b⟩ K := by
 refine ⟨ι, xs, mv, IsQ Q x h1, ⟨hι, hM.2⟩, ha.1, ha.2, by rw [r0]; exact hC, ?_⟩
 rintro r h2 ⟨g, hq, rfl, rfl⟩ _
 rw [hM.1]
 exact h3 g hq
end
end Go.Fx
namespace Go.Fx
open Go.RowKit
theorem okN_ofG {P : Program} (hP : P.follows .mixedOrders = true) {f : FuncId} {l0 l : LCode} {rs : List LRes} {nt : Nat} (fx : List Nat) (hl : rlF P f l0 = some (l, rs, nt)) {args : List V} {h0 : List Blk} {mv : List Nat} {R : V → List Blk → Prop} (hlen : args.length ≤ nt) (hb : keepP fx h0)
  (hfx : ∀ k, k < h0.length → k ∉ mv → k ∈ fx) {s0 : St} (hg : leG fx ⟨args0 0 args, h0, 0⟩ s0) (h : aw (cxN P fx) l (retP fx h0.length rs R) (fun _ _ => False) (retP fx h0.length rs R) s0) : OkN P f args h0 mv R := by
 refine ⟨rlF_callable hl, ?_⟩
 unfold rlF at hl
 split at hl
 ·rename_i fn hf
  split at hl
  ·rename_i c rs' hb' hr ht
   simp only [yB, yV, decide_eq_true_eq] at ht
   cases hm : rlC P fn.ntmps c l0 with
   | none => simp [hm] at hl
   | some l1 =>
    simp only [hm, vG, yA, vB] at hl
    obtain ⟨rfl, rfl, rfl⟩ := hl
    intro ρ X w vals hr0 ha
    have hvl := RepL_len ha
    refine (callsIn_wide (n := 0)).1 (callsIn_of_wp_marks hf hb' trivial ?_)
    have hgd : Good ρ X w fx fn.ntmps ⟨args0 0 args, h0, 0⟩ { tmps := vals.toArray ++ vN (fn.ntmps - vals.toArray.size) undef, defers := [] } w :=
     ⟨ρ, ⟨⟨Fr.refl _ _, fun _ _ => rfl⟩, hb⟩, ⟨hr0, args0_rep ha _⟩, by simp; omega, Marks.nil⟩
    have hend : ∀ s, retP fx h0.length rs' R s → ∀ a w', Good ρ X w fx fn.ntmps s a w' → ∃ v, (results fn a.tmps).run P w' = .ok v w' ∧ ∃ val r h' ρ', Ending.returned v = .returned val ∧ (R r h' ∧ h0.length ≤ h'.length) ∧ Fr ρ w ρ' w' ∧ Rep ρ' X w' h' ∧ RepV ρ' X w' r val ∧
      ∀ k, k < h0.length → k ∉ mv → ρ' k = ρ k := by
     intro s hret a w' hgood
     obtain ⟨ρ', ⟨⟨hf1, hfx1⟩, hk1⟩, ⟨hr1, he1⟩, hN1, hd1⟩ := hgood
     obtain ⟨xs, vs, h5, h6, h7⟩ := resP_run hr1 he1 fn.results.toList rs' [] [] hr trivial hret
     obtain ⟨p, ⟨h8, h9, h10, h11, h12⟩, h13⟩ := h5
     refine ⟨tupU vs, results_run ht.1 h7, _, _, p, dropLoc ρ' p, rfl, ⟨h13, h10⟩, hf1.trans drop_fr, dropRep hr1 h8 h12, ?_, fun k hk hkm => ?_⟩
     ·exact drop_rep _ _ h11 (tup_rep (by simpa using h6))
     ·have hkf := hfx k hk hkm
      rw [live_loc (keepP_get h9 k hkf)]
      exact hfx1 k hkf
    refine aw_sound (P := P) (X := X) (N := fn.ntmps) hP c l0 l1 hm none (cxN P fx) ρ w (cxN_ok P fx) (.inl rfl) trivial (fun k => YOk_none) _ (retP fx h0.length rs' R) (fun _ _ => False) (retP fx h0.length rs' R) ?_ ?_ (fun _ _ _ _ hx _ => hx.elim) ?_ _ _ _ h (hgd.leG hg)
    ·rintro ⟨a, w', val, _, _, _, hq, _⟩
     cases hq
    ·intro s a w' hret hgood
     exact leaves_of (hend s hret) a.defers a w' rfl hgood
    ·intro s a w' hret hgood
     exact leaves_of (hend s hret) a.defers a w' rfl hgood
  ·cases hl
 ·cases hl
end Go.Fx
namespace Go.Fx
open Go.RowKit
end Go.Fx
namespace Go.Fx
open Go.RowKit
section
variable {cx : Cx} {e : Env} {h : List Blk} {b : Nat} {K : V → St → Prop} {Ks : St → Prop} {N R : St → Prop} {X : Nat → St → Prop} {d : Option Nat} {op : LOp}
@[congr] theorem c_aOpsY {l : List LOper} {s s' : St} {Ks : St → Prop} (q : s = s') : aOpsY cx l s Ks = aOpsY cx l s' Ks := by rw [q]
@[congr] theorem c_begRd {k : Nat} {s s' : St} (q : s = s') : begRd k Ks s = begRd k Ks s' := by rw [q]
@[congr] theorem c_endRd {k kE bI : Nat} {t : RS} {y : Bool} {s s' : St} (q : s = s') : endRd k kE bI K y t s = endRd k kE bI K y t s' := by rw [q]
@[congr] theorem c_endLp {k : Nat} {h h' : List Blk} (q : h = h') : endLp k N X R h = endLp k N X R h' := by rw [q]
end
end Go.Fx
namespace Go.Fx.W
open Go Go.Fx Go.Proofs
abbrev S := List UInt8
def sb (l : S) : ByteArray := ⟨l.toArray⟩
abbrev sv (l : S) : V := .v (.string (sb l))
theorem sb_size {l : S} : (sb l).size = l.length := rfl
theorem sb_list {l : S} : (sb l).toList = l := (ByteArray.toList_eq _).trans rfl
theorem sb_get {l : S} {j : Nat} : (sb l)[j]? = l[j]? := by
 by_cases h : j < l.length
 ·rw [yD h]
  exact getElem?_pos (sb l) j h
 ·rw [uA (by omega)]
  exact getElem?_neg (sb l) j h
theorem sb_ex {b : ByteArray} : ∃ l, b = sb l := ⟨b.data.toList, by cases b; simp [sb]⟩
theorem sb_of {b : ByteArray} {l : S} (h : b.data.toList = l) : b = sb l := by subst h; cases b; simp [sb]
theorem sb_app {a b : S} : sb a ++ sb b = sb (a ++ b) := sb_of (by rw [ByteArray.data_append]; simp [sb])
theorem less {a b : S} : Op.bytesLess a b = decide (a < b) := bytesLess_eq a b
structure Vary where
 h : S
 vals : List S
 d : S
 deriving Inhabited
def encS (s : S) : List V := [sv s]
def ss (l : List S) : V := .ro 1 (l.map encS)
def Vary.enc (v : Vary) : List V := [sv v.h, ss v.vals, sv v.d]
structure Hd where
 n : S
 v : S
 deriving Inhabited, DecidableEq
def Hd.enc (x : Hd) : List V := [sv x.n, sv x.v]
def vs (l : List Vary) : V := .ro 3 (l.map Vary.enc)
def hs (l : List Hd) : V := .ro 2 (l.map Hd.enc)
abbrev Ok (f : FuncId) (xs : List V) (R : V → List Blk → Prop) : Prop := OkN Try.prog f xs [] [] R
theorem ok_of {f : FuncId} {l0 l : LCode} {rs : List LRes} {nt : Nat} (hl : rlF Try.prog f l0 = some (l, rs, nt)) {args : List V} {R : V → List Blk → Prop} (hlen : args.length ≤ nt)
  (h : aw (cxN Try.prog []) l (retP [] 0 rs R) (fun _ _ => False) (retP [] 0 rs R) ⟨args0 0 args, [], 0⟩) : Ok f args R :=
 okN_of pol [] hl hlen trivial (fun k hk => by simp at hk) h
theorem encS_0 {s : S} : (encS s)[0]? = some (sv s) := rfl
theorem vr_len {v : Vary} : v.enc.length = 3 := rfl
theorem vr_t {v : Vary} : yS 3 v.enc = v.enc := rfl
theorem vr_0 {v : Vary} : v.enc[0]? = some (sv v.h) := rfl
theorem vr_1 {v : Vary} : v.enc[1]? = some (.ro 1 (v.vals.map encS)) := rfl
theorem vr_2 {v : Vary} : v.enc[2]? = some (sv v.d) := rfl
theorem vr_C {v : Vary} : v.enc.all isC = true := rfl
theorem k_nil : Value.string ⟨#[]⟩ = .string (sb []) := rfl
theorem k_amp : Value.string ⟨#[38]⟩ = .string (sb [38]) := rfl
theorem k_eq : Value.string ⟨#[61]⟩ = .string (sb [61]) := rfl
theorem vr_le {v : Vary} : leVs v.enc v.enc = True := eq_true ⟨rfl, rfl, rfl, trivial⟩
theorem vr_wf {H : List Blk} {v : Vary} : wfL H v.enc = True := eq_true ⟨trivial, trivial, trivial, trivial⟩
open And renaming intro → aI
set_option linter.defProp false
def rX := aI (aI (aI (aI (aI (aI (@Bool.and_self) (aI (@Bool.and_true) (@Bool.false_eq_true))) (aI (aI (@Bool.not_false) (@Bool.not_true)) (aI (@yE) (@List.all_cons.{0})))) (aI (aI (aI (@List.all_nil.{0}) (@List.append_nil.{0})) (aI (@List.cons_append.{0}) (@List.drop_nil.{0}))) (aI (aI (@List.drop_zero.{0}) (@yM.{0})) (aI (@vH.{0}) (@List.getElem_map.{0,0}))))) (aI (aI (aI (@yI.{0}) (aI (@yN.{0}) (@yW.{0,0}))) (aI (aI (@vC.{0}) (@vO.{0,0})) (aI (@List.map_nil.{0,0}) (@yQ.{0})))) (aI (aI (aI (@List.nil_append.{0}) (@List.not_mem_nil.{0})) (aI (@List.reverse_cons.{0}) (@List.reverse_nil.{0}))) (aI (aI (@List.set_cons_zero.{0}) (@List.take_nil.{0})) (aI (@List.take_zero.{0}) (@Nat.add_zero)))))) (aI (aI (aI (aI (@yG) (aI (@vA) (@Option.getD_none.{0}))) (aI (aI (@Option.getD_some.{0}) (@Option.map_none.{0,0})) (aI (@vG.{0,0}) (@V.v.injEq)))) (aI (aI (aI (@Value.bool.injEq) (@Value.int.injEq)) (aI (@qx) (@qy))) (aI (aI (@qz) (@and_self)) (aI (@and_true) (@qm))))) (aI (aI (aI (aI (@qj) (@qk)) (aI (@ql) (@qt))) (aI (aI (@qs) (@qv)) (aI (@qu) (@qq)))) (aI (aI (aI (@qo) (@qw)) (aI (@qr) (@qn))) (aI (aI (@qp) (@qi)) (aI (@zb) (@zd))))))) (aI (aI (aI (aI (aI (@ze) (aI (@qY) (@qZ))) (aI (aI (@qX) (@false_or)) (aI (@za) (@zh)))) (aI (aI (aI (@zi) (@zc)) (aI (@zm) (@zq))) (aI (aI (@zu) (@zk)) (aI (@lg0) (@lg1))))) (aI (aI (aI (@lg2) (aI (@lg3) (@lg4))) (aI (aI (@zo) (@zr)) (aI (@zx) (@zl)))) (aI (aI (aI (@zp) (@zt)) (aI (@zv) (@zw))) (aI (aI (@zn) (@not_false_eq_true)) (aI (@qD) (@qQ)))))) (aI (aI (aI (aI (@qI) (aI (@qC) (@qT))) (aI (aI (@qU) (@qG)) (aI (@qM) (@qH)))) (aI (aI (aI (@qJ) (@qK)) (aI (@qO) (@qE))) (aI (aI (@qP) (@qA)) (aI (@qL) (@qB))))) (aI (aI (aI (aI (@qS) (@qR)) (aI (@qN) (@qF))) (aI (aI (@or_false) (@qW)) (aI (@qV) (@qb)))) (aI (aI (aI (@qc) (@qd)) (aI (@qh) (@qa))) (aI (aI (@qf) (@qe)) (aI (@zj) (@true_and)))))))
def rY := aI (aI (aI (aI (aI (@zY) (@zX)) (aI (@ka) (aI (@zZ) (@ki)))) (aI (aI (@kn) (aI (@kv) (@kr))) (aI (@kq) (aI (@kp) (@kk))))) (aI (aI (aI (@ko) (@kj)) (aI (@zg) (aI (@zf) (@zQ)))) (aI (aI (@zI) (aI (@zJ) (@zM))) (aI (@zL) (aI (@zK) (@zO)))))) (aI (aI (aI (aI (@zN) (@zP)) (aI (@zB) (aI (@zC) (@zD)))) (aI (aI (@zE) (aI (@zz) (@zA))) (aI (@zU) (aI (@zV) (@zy))))) (aI (aI (aI (@ke) (aI (@kf) (@kh))) (aI (@kg) (aI (@zW) (@zH)))) (aI (aI (@zG) (aI (@zF) (@kc))) (aI (@zS) (aI (@zT) (@zR))))))
end Go.Fx.W
namespace Go.Proofs
open Go.Shelf
def Try.lays169_ren : Go.Shelf.Ren := ⟨fun | 169 => 63 | n => n, fun | 70 => 79 | 9 => 9 | 0 => 0 | 72 => 82 | 37 => 80 | 127 => 94 | 3 => 3 | 5 => 5 | n => n, fun | n => n⟩
theorem Try.lays169 : Go.Proofs.Lays.n169 Try.prog Try.lays169_ren := {
 mixed := by kernel_rfl
 f169 := Try.func63.trans (congrArg some (by kernel_rfl))
 t0 := Try.underlying0
 a0 := Try.isAgg0
 z0 := Try.sizeOf0
 v0 := Try.zeroValue0
 t3 := Try.underlying3
 a3 := Try.isAgg3
 z3 := Try.sizeOf3
 v3 := Try.zeroValue3
 t9 := Try.underlying9
 a9 := Try.isAgg9
 z9 := Try.sizeOf9
 v9 := Try.zeroValue9
 t37 := Try.underlying80
 a37 := Try.isAgg80
 z37 := Try.sizeOf80
 v37 := Try.zeroValue80
 t70 := Try.underlying79
 a70 := Try.isAgg79
 z70 := Try.sizeOf79
 v70 := Try.zeroValue79
 t72 := Try.underlying82
 a72 := Try.isAgg82
 z72 := Try.sizeOf82
 v72 := Try.zeroValue82
 t127 := Try.underlying94
 a127 := Try.isAgg94
 z127 := Try.sizeOf94
 v127 := Try.zeroValue94 }
theorem Try.Builder_Extra_169 : Builder.Extra Try.prog Try.lays169_ren := {
 sizeBuilder := by kernel_rfl
 liesBuilder := by kernel_rfl
 t5 := Try.underlying5
 a5 := Try.isAgg5
 z5 := Try.sizeOf5
 v5 := Try.zeroValue5
 infoByte := by kernel_rfl
 cellsByte := by kernel_rfl
 sizeByte := by kernel_rfl
 neB5 := by decide }
open Go.RowKit in
theorem Try.Builder_String_any (B b : Nat) (l : List UInt8) (w : World) (h : Lib.IsBuilder 82 5 B b (Lib.byteCells l) w) (hBw : B ≤ w.heap.size) :
  Calls Try.prog 63 #[.pointer (some ⟨b, 0, none⟩)] w fun e w' => e = .returned (.string ⟨l.toArray⟩) ∧ Below B w w' := Any.Builder_String_any Try.lays169 Try.Builder_Extra_169 B b l w h hBw
def Try.lays156_ren : Go.Shelf.Ren := ⟨fun | 156 => 58 | 165 => 71 | 166 => 61 | 169 => 63 | 240 => 74 | 241 => 77 | 276 => 78 | 277 => 90 | n => n, fun | 31 => 24 | 9 => 9 | 3 => 3 | 4 => 4 | 0 => 0 | 20 => 20 | 72 => 82 | 76 => 85 | 70 => 79 | 37 => 80 | 75 => 84 | 127 => 94 | 164 => 98 | 5 => 5 | 80 => 88 | n => n, fun | n => n⟩
theorem Try.lays156 : Go.Proofs.Lays.n156 Try.prog Try.lays156_ren := {
 mixed := by kernel_rfl
 f156 := Try.func58.trans (congrArg some (by kernel_rfl))
 f165 := Try.func71.trans (congrArg some (by kernel_rfl))
 f166 := Try.func61.trans (congrArg some (by kernel_rfl))
 f169 := Try.func63.trans (congrArg some (by kernel_rfl))
 f240 := Try.func74.trans (congrArg some (by kernel_rfl))
 f241 := Try.func77.trans (congrArg some (by kernel_rfl))
 f276 := Try.func78.trans (congrArg some (by kernel_rfl))
 f277 := Try.func90.trans (congrArg some (by kernel_rfl))
 t0 := Try.underlying0
 a0 := Try.isAgg0
 z0 := Try.sizeOf0
 v0 := Try.zeroValue0
 t3 := Try.underlying3
 a3 := Try.isAgg3
 z3 := Try.sizeOf3
 v3 := Try.zeroValue3
 t4 := Try.underlying4
 a4 := Try.isAgg4
 z4 := Try.sizeOf4
 v4 := Try.zeroValue4
 t9 := Try.underlying9
 a9 := Try.isAgg9
 z9 := Try.sizeOf9
 v9 := Try.zeroValue9
 t20 := Try.underlying20
 a20 := Try.isAgg20
 z20 := Try.sizeOf20
 v20 := Try.zeroValue20
 t31 := Try.underlying24
 a31 := Try.isAgg24
 z31 := Try.sizeOf24
 v31 := Try.zeroValue24
 t37 := Try.underlying80
 a37 := Try.isAgg80
 z37 := Try.sizeOf80
 v37 := Try.zeroValue80
 t70 := Try.underlying79
 a70 := Try.isAgg79
 z70 := Try.sizeOf79
 v70 := Try.zeroValue79
 t72 := Try.underlying82
 a72 := Try.isAgg82
 z72 := Try.sizeOf82
 v72 := Try.zeroValue82
 t75 := Try.underlying84
 a75 := Try.isAgg84
 z75 := Try.sizeOf84
 v75 := Try.zeroValue84
 t76 := Try.underlying85
 a76 := Try.isAgg85
 z76 := Try.sizeOf85
 v76 := Try.zeroValue85
 t127 := Try.underlying94
 a127 := Try.isAgg94
 z127 := Try.sizeOf94
 v127 := Try.zeroValue94
 t164 := Try.underlying98
 a164 := Try.isAgg98
 z164 := Try.sizeOf98
 v164 := Try.zeroValue98 }
theorem Try.Builder_Extra_156 : Builder.Extra Try.prog Try.lays156_ren := {
 sizeBuilder := by kernel_rfl
 liesBuilder := by kernel_rfl
 t5 := Try.underlying5
 a5 := Try.isAgg5
 z5 := Try.sizeOf5
 v5 := Try.zeroValue5
 infoByte := by kernel_rfl
 cellsByte := by kernel_rfl
 sizeByte := by kernel_rfl
 neB5 := by decide }
open Go.RowKit in
theorem Try.strings_Join_none (a : Option Addr) (c : Nat) (sep : ByteArray) (w : World) :
  Calls Try.prog 58 #[.slice a 0 c, .string sep] w fun e w' => e = .returned (.string ⟨#[]⟩) ∧ w' = w := Any.strings_Join_none Try.lays156 Try.Builder_Extra_156 a c sep w
open Go.RowKit in
theorem Try.strings_Join (bk o c : Nat) (xs : List ByteArray) (sep : ByteArray) (w : World) (hcells : ∀ (j : Nat) x, xs[j]? = some x → w.cell? ⟨bk, o + j, none⟩ = some (.string x)) (hbk : bk < w.heap.size) (hN : xs.length ≤ 140737488355328) (hcap : xs.length ≤ c) (hlen : (Lib.join (xs.map (·.data.toList)) sep.data.toList).length ≤ 140737488355328) :
  Calls Try.prog 58 #[.slice (some ⟨bk, o, none⟩) xs.length c, .string sep] w fun e w' => e = .returned (.string ⟨(Lib.join (xs.map (·.data.toList)) sep.data.toList).toArray⟩) ∧ Below w.heap.size w w' := Any.strings_Join Try.lays156 Try.Builder_Extra_156 bk o c xs sep w hcells hbk hN hcap hlen
def Try.lays137_ren : Go.Shelf.Ren := ⟨fun | 137 => 39 | 217 => 60 | 266 => 73 | n => n, fun | 9 => 9 | 5 => 5 | 3 => 3 | n => n, fun | n => n⟩
theorem Try.lays137 : Go.Proofs.Lays.n137 Try.prog Try.lays137_ren := {
 mixed := by kernel_rfl
 f137 := Try.func39.trans (congrArg some (by kernel_rfl))
 f217 := Try.func60.trans (congrArg some (by kernel_rfl))
 f266 := Try.func73.trans (congrArg some (by kernel_rfl))
 t3 := Try.underlying3
 a3 := Try.isAgg3
 z3 := Try.sizeOf3
 v3 := Try.zeroValue3
 t5 := Try.underlying5
 a5 := Try.isAgg5
 z5 := Try.sizeOf5
 v5 := Try.zeroValue5
 t9 := Try.underlying9
 a9 := Try.isAgg9
 z9 := Try.sizeOf9
 v9 := Try.zeroValue9 }
open Go.RowKit in
theorem Try.strings_IndexByte (s : ByteArray) (c : Int) (w : World) :
  Calls Try.prog 39 #[.string s, .int .u8 c] w fun e w' => e = .returned (.int .i64 (Lib.indexByte s.data.toList c.toNat.toUInt8)) ∧ w' = w := Any.strings_IndexByte Try.lays137 s c w
def Try.lays190_ren : Go.Shelf.Ren := ⟨fun | 190 => 66 | 125 => 76 | 258 => 75 | 128 => 88 | 129 => 89 | 302 => 79 | 303 => 80 | 304 => 81 | 305 => 82 | 306 => 83 | 307 => 84 | 308 => 85 | 309 => 86 | 310 => 87 | 333 => 91 | 329 => 92 | 330 => 93 | 334 => 94 | 335 => 95 | 336 => 96 | 344 => 97 | n => n, fun | 31 => 24 | 9 => 9 | 3 => 3 | 46 => 97 | 0 => 0 | 51 => 109 | 53 => 111 | 4 => 4 | 183 => 102 | 182 => 101 | 131 => 106 | 5 => 5 | 218 => 113 | 222 => 117 | 228 => 119 | 229 => 120 | n => n, fun | n => n⟩
theorem Try.lays190 : Go.Proofs.Lays.n190 Try.prog Try.lays190_ren := {
 mixed := by kernel_rfl
 f125 := Try.func76.trans (congrArg some (by kernel_rfl))
 f128 := Try.func88.trans (congrArg some (by kernel_rfl))
 f129 := Try.func89.trans (congrArg some (by kernel_rfl))
 f190 := Try.func66.trans (congrArg some (by kernel_rfl))
 f258 := Try.func75.trans (congrArg some (by kernel_rfl))
 f302 := Try.func79.trans (congrArg some (by kernel_rfl))
 f303 := Try.func80.trans (congrArg some (by kernel_rfl))
 f304 := Try.func81.trans (congrArg some (by kernel_rfl))
 f305 := Try.func82.trans (congrArg some (by kernel_rfl))
 f306 := Try.func83.trans (congrArg some (by kernel_rfl))
 f307 := Try.func84.trans (congrArg some (by kernel_rfl))
 f308 := Try.func85.trans (congrArg some (by kernel_rfl))
 f309 := Try.func86.trans (congrArg some (by kernel_rfl))
 f310 := Try.func87.trans (congrArg some (by kernel_rfl))
 f329 := Try.func92.trans (congrArg some (by kernel_rfl))
 f330 := Try.func93.trans (congrArg some (by kernel_rfl))
 f333 := Try.func91.trans (congrArg some (by kernel_rfl))
 f334 := Try.func94.trans (congrArg some (by kernel_rfl))
 f335 := Try.func95.trans (congrArg some (by kernel_rfl))
 f336 := Try.func96.trans (congrArg some (by kernel_rfl))
 f344 := Try.func97.trans (congrArg some (by kernel_rfl))
 t0 := Try.underlying0
 a0 := Try.isAgg0
 z0 := Try.sizeOf0
 v0 := Try.zeroValue0
 t3 := Try.underlying3
 a3 := Try.isAgg3
 z3 := Try.sizeOf3
 v3 := Try.zeroValue3
 t4 := Try.underlying4
 a4 := Try.isAgg4
 z4 := Try.sizeOf4
 v4 := Try.zeroValue4
 t5 := Try.underlying5
 a5 := Try.isAgg5
 z5 := Try.sizeOf5
 v5 := Try.zeroValue5
 t9 := Try.underlying9
 a9 := Try.isAgg9
 z9 := Try.sizeOf9
 v9 := Try.zeroValue9
 t31 := Try.underlying24
 a31 := Try.isAgg24
 z31 := Try.sizeOf24
 v31 := Try.zeroValue24
 t46 := Try.underlying97
 a46 := Try.isAgg97
 z46 := Try.sizeOf97
 v46 := Try.zeroValue97
 t51 := Try.underlying109
 a51 := Try.isAgg109
 z51 := Try.sizeOf109
 v51 := Try.zeroValue109
 t53 := Try.underlying111
 a53 := Try.isAgg111
 z53 := Try.sizeOf111
 v53 := Try.zeroValue111
 t131 := Try.underlying106
 a131 := Try.isAgg106
 z131 := Try.sizeOf106
 v131 := Try.zeroValue106
 t182 := Try.underlying101
 a182 := Try.isAgg101
 z182 := Try.sizeOf101
 v182 := Try.zeroValue101
 t183 := Try.underlying102
 a183 := Try.isAgg102
 z183 := Try.sizeOf102
 v183 := Try.zeroValue102
 t218 := Try.underlying113
 a218 := Try.isAgg113
 z218 := Try.sizeOf113
 v218 := Try.zeroValue113
 t222 := Try.underlying117
 a222 := Try.isAgg117
 z222 := Try.sizeOf117
 v222 := Try.zeroValue117
 t228 := Try.underlying119
 a228 := Try.isAgg119
 z228 := Try.sizeOf119
 v228 := Try.zeroValue119
 t229 := Try.underlying120
 a229 := Try.isAgg120
 z229 := Try.sizeOf120
 v229 := Try.zeroValue120 }
open Go.Sort Go.RowKit in
theorem Try.slices_Sort_string (blk off cap : Nat) (ss : List (List UInt8)) (w : World) (hH : Holds encStr w blk off ss.toArray) (hblk : blk < w.heap.size) (hsz : ss.length < 4611686018427387904) :
  Calls Try.prog 66 #[.slice (some ⟨blk, off, none⟩) ss.length cap] w fun e w' =>
   e = .returned (.tuple #[]) ∧ ∃ n os, w' = grow (putRow encStr (Sort.ahead w n) blk off (ss.mergeSort fun x y => decide (x ≤ y)).toArray) os := Any.slices_Sort_string Try.lays190 blk off cap ss w hH hblk hsz
open Go.RowKit Go.Sort in
theorem Try.slices_Sort_string_none (p : Option Addr) (cap : Nat) (w : World) :
  Calls Try.prog 66 #[.slice p 0 cap] w fun e w' => e = .returned (.tuple #[]) ∧ w' = w := Any.slices_Sort_string_none Try.lays190 p cap w
def Try.lays166_ren : Go.Shelf.Ren := ⟨fun | 156 => 58 | 165 => 71 | 166 => 61 | 169 => 63 | 240 => 74 | 241 => 77 | 276 => 78 | 277 => 90 | n => n, fun | 31 => 24 | 9 => 9 | 3 => 3 | 4 => 4 | 0 => 0 | 20 => 20 | 72 => 82 | 76 => 85 | 70 => 79 | 37 => 80 | 75 => 84 | 127 => 94 | 164 => 98 | 5 => 5 | 80 => 88 | n => n, fun | n => n⟩
theorem Try.lays166 : Go.Proofs.Lays.n166 Try.prog Try.lays166_ren := {
 mixed := by kernel_rfl
 f166 := Try.func61.trans (congrArg some (by kernel_rfl))
 f240 := Try.func74.trans (congrArg some (by kernel_rfl))
 f276 := Try.func78.trans (congrArg some (by kernel_rfl))
 t0 := Try.underlying0
 a0 := Try.isAgg0
 z0 := Try.sizeOf0
 v0 := Try.zeroValue0
 t3 := Try.underlying3
 a3 := Try.isAgg3
 z3 := Try.sizeOf3
 v3 := Try.zeroValue3
 t4 := Try.underlying4
 a4 := Try.isAgg4
 z4 := Try.sizeOf4
 v4 := Try.zeroValue4
 t9 := Try.underlying9
 a9 := Try.isAgg9
 z9 := Try.sizeOf9
 v9 := Try.zeroValue9
 t20 := Try.underlying20
 a20 := Try.isAgg20
 z20 := Try.sizeOf20
 v20 := Try.zeroValue20
 t37 := Try.underlying80
 a37 := Try.isAgg80
 z37 := Try.sizeOf80
 v37 := Try.zeroValue80
 t70 := Try.underlying79
 a70 := Try.isAgg79
 z70 := Try.sizeOf79
 v70 := Try.zeroValue79
 t72 := Try.underlying82
 a72 := Try.isAgg82
 z72 := Try.sizeOf82
 v72 := Try.zeroValue82
 t75 := Try.underlying84
 a75 := Try.isAgg84
 z75 := Try.sizeOf84
 v75 := Try.zeroValue84
 t164 := Try.underlying98
 a164 := Try.isAgg98
 z164 := Try.sizeOf98
 v164 := Try.zeroValue98 }
theorem Try.Builder_Extra_166 : Builder.Extra Try.prog Try.lays166_ren := {
 sizeBuilder := by kernel_rfl
 liesBuilder := by kernel_rfl
 t5 := Try.underlying5
 a5 := Try.isAgg5
 z5 := Try.sizeOf5
 v5 := Try.zeroValue5
 infoByte := by kernel_rfl
 cellsByte := by kernel_rfl
 sizeByte := by kernel_rfl
 neB5 := by decide }
def Try.lays167_ren : Go.Shelf.Ren := ⟨fun | 167 => 62 | 156 => 58 | 165 => 71 | 166 => 61 | 169 => 63 | 240 => 74 | 241 => 77 | 276 => 78 | 277 => 90 | n => n, fun | 31 => 24 | 9 => 9 | 3 => 3 | 4 => 4 | 0 => 0 | 20 => 20 | 72 => 82 | 76 => 85 | 70 => 79 | 37 => 80 | 75 => 84 | 127 => 94 | 164 => 98 | 5 => 5 | 80 => 88 | n => n, fun | n => n⟩
theorem Try.lays167 : Go.Proofs.Lays.n167 Try.prog Try.lays167_ren := {
 t5 := Try.underlying5
 a5 := Try.isAgg5
 z5 := Try.sizeOf5
 v5 := Try.zeroValue5
 mixed := by kernel_rfl
 f167 := Try.func62.trans (congrArg some (by kernel_rfl))
 f240 := Try.func74.trans (congrArg some (by kernel_rfl))
 f276 := Try.func78.trans (congrArg some (by kernel_rfl))
 t0 := Try.underlying0
 a0 := Try.isAgg0
 z0 := Try.sizeOf0
 v0 := Try.zeroValue0
 t4 := Try.underlying4
 a4 := Try.isAgg4
 z4 := Try.sizeOf4
 v4 := Try.zeroValue4
 t9 := Try.underlying9
 a9 := Try.isAgg9
 z9 := Try.sizeOf9
 v9 := Try.zeroValue9
 t20 := Try.underlying20
 a20 := Try.isAgg20
 z20 := Try.sizeOf20
 v20 := Try.zeroValue20
 t37 := Try.underlying80
 a37 := Try.isAgg80
 z37 := Try.sizeOf80
 v37 := Try.zeroValue80
 t70 := Try.underlying79
 a70 := Try.isAgg79
 z70 := Try.sizeOf79
 v70 := Try.zeroValue79
 t72 := Try.underlying82
 a72 := Try.isAgg82
 z72 := Try.sizeOf82
 v72 := Try.zeroValue82
 t75 := Try.underlying84
 a75 := Try.isAgg84
 z75 := Try.sizeOf84
 v75 := Try.zeroValue84
 t164 := Try.underlying98
 a164 := Try.isAgg98
 z164 := Try.sizeOf98
 v164 := Try.zeroValue98 }
theorem Try.Builder_Extra_167 : Builder.Extra Try.prog Try.lays167_ren := {
 sizeBuilder := by kernel_rfl
 liesBuilder := by kernel_rfl
 t5 := Try.underlying5
 a5 := Try.isAgg5
 z5 := Try.sizeOf5
 v5 := Try.zeroValue5
 infoByte := by kernel_rfl
 cellsByte := by kernel_rfl
 sizeByte := by kernel_rfl
 neB5 := by decide }
open Go.RowKit in
theorem Try.Builder_WriteByte (B b : Nat) (bs : List Value) (c : Int) (w : World) (h : Lib.IsBuilder 82 5 B b bs w) (hlen : bs.length + 1 ≤ 140737488355328) (hBw : B ≤ w.heap.size) :
  Calls Try.prog 62 #[.pointer (some ⟨b, 0, none⟩), .int .u8 c] w fun e w' => e = .returned .nilIface ∧ (Lib.BuilderAt 82 5 B b (.pointer (some ⟨b, 0, none⟩)) (bs ++ [.int .u8 c]) w' ∧ Below B w w') := Any.Builder_WriteByte Try.lays167 Try.Builder_Extra_167 B b bs c w h hlen hBw
open Go.RowKit in
theorem Try.Builder_WriteString (B b : Nat) (bs : List Value) (s : ByteArray) (w : World) (h : Lib.IsBuilder 82 5 B b bs w) (hlen : bs.length + s.size ≤ 140737488355328) (hBw : B ≤ w.heap.size) :
  Calls Try.prog 61 #[.pointer (some ⟨b, 0, none⟩), .string s] w fun e w' => e = .returned (.tuple #[.int .i64 s.size, .nilIface]) ∧ (Lib.BuilderAt 82 5 B b (.pointer (some ⟨b, 0, none⟩)) (bs ++ Lib.strCells s) w' ∧ Below B w w') := Any.Builder_WriteString Try.lays166 Try.Builder_Extra_166 B b bs s w h hlen hBw
end Go.Proofs
namespace Go.Fx.W
open Go Go.Proofs Go.RowKit
def escB (b : UInt8) : List UInt8 := if b = 37 then [37, 50, 53] else if b = 38 then [37, 50, 54] else if b = 61 then [37, 51, 100] else [b]
def esc (l : List UInt8) : List UInt8 := l.flatMap escB
theorem esc_len : ∀ l, (esc l).length ≤ 3 * l.length
 | [] => by simp [esc]
 | b :: r => by
  have := esc_len r
  have h : (escB b).length ≤ 3 := by unfold escB; split <;> (try split) <;> (try split) <;> simp
  simp only [esc, List.flatMap_cons, yI, yN] at this ⊢
  omega
theorem esc_app (a b : List UInt8) : esc (a ++ b) = esc a ++ esc b := vP
set_option maxHeartbeats 4000000 in
set_option maxRecDepth 1000000 in
theorem esc_walk (s : ByteArray) (w : World) (hs : s.size ≤ 1099511627776) :
  Calls Try.prog 43 #[.string s] w fun e w' => e = .returned (.string ⟨(esc s.data.toList).toArray⟩) ∧ Below w.heap.size w w' := by
 go_enter Try.func43, Try.ntmps43
 go_wp2
 go_loopw [7] (fun i wr => ∃ k : Nat, i = .int .i64 k ∧ k ≤ s.size ∧ Lib.IsBuilder 82 5 w.heap.size w.heap.size (Lib.byteCells (esc (s.data.toList.take k))) wr ∧ Below w.heap.size w wr) (fun i _ => s.size - (Go.RowKit.intOf i).toNat)
 case atStart => exact ⟨0, rfl, yT _, Lib.fresh_isBuilder 82 5 w, (Below.refl _ w).alloc (yG _) _⟩
 case round =>
  obtain ⟨k, rfl, hk, hI, hbw⟩ := hrel
  have hsz : w.heap.size ≤ wr.heap.size := hbw.size
  have hlen : (Lib.byteCells (esc (s.data.toList.take k))).length ≤ 3 * k := by
   rw [Lib.byteCells_length]
   refine Nat.le_trans (esc_len _) ?_
   have : (s.data.toList.take k).length ≤ k := by rw [List.length_take]; exact Nat.min_le_left _ _
   omega
  by_cases hp : k < s.size
  ·have hnx : esc (s.data.toList.take (k + 1)) = esc (s.data.toList.take k) ++ escB s[k] := by
    have h1 : s.data.toList.take (k + 1) = s.data.toList.take k ++ [s[k]] := by
     rw [yX, yD (show k < s.data.toList.length from hp)]; rfl
    rw [h1, esc_app]; simp [esc]
   by_cases c1 : s[k].toNat = 37
   ·have hB : escB s[k] = [37, 50, 53] := by unfold escB; rw [if_pos (UInt8.toNat_inj.1 c1)]
    go_wp2_with (go_at_call 61; refine (Try.Builder_WriteString _ _ _ _ _ hI (by show _ + 3 ≤ _; omega) hsz).mono ?_)
    rintro e W1 ⟨rfl, h1, b1⟩
    go_wp2
    go_roundw
    case rel => exact ⟨k + 1, by simp, by omega, .inr (by rw [hnx, hB, Lib.byteCells_append]; exact h1), hbw.trans b1⟩
    case measure => simp only [Go.RowKit.intOf]; omega
   by_cases c2 : s[k].toNat = 38
   ·have hB : escB s[k] = [37, 50, 54] := by unfold escB; rw [if_neg (fun h => c1 (by rw [h]; rfl)), if_pos (UInt8.toNat_inj.1 c2)]
    go_wp2_with (go_at_call 61; refine (Try.Builder_WriteString _ _ _ _ _ hI (by show _ + 3 ≤ _; omega) hsz).mono ?_)
    rintro e W1 ⟨rfl, h1, b1⟩
    go_wp2
    go_roundw
    case rel => exact ⟨k + 1, by simp, by omega, .inr (by rw [hnx, hB, Lib.byteCells_append]; exact h1), hbw.trans b1⟩
    case measure => simp only [Go.RowKit.intOf]; omega
   by_cases c3 : s[k].toNat = 61
   ·have hB : escB s[k] = [37, 51, 100] := by unfold escB; rw [if_neg (fun h => c1 (by rw [h]; rfl)), if_neg (fun h => c2 (by rw [h]; rfl)), if_pos (UInt8.toNat_inj.1 c3)]
    go_wp2_with (go_at_call 61; refine (Try.Builder_WriteString _ _ _ _ _ hI (by show _ + 3 ≤ _; omega) hsz).mono ?_)
    rintro e W1 ⟨rfl, h1, b1⟩
    go_wp2
    go_roundw
    case rel => exact ⟨k + 1, by simp, by omega, .inr (by rw [hnx, hB, Lib.byteCells_append]; exact h1), hbw.trans b1⟩
    case measure => simp only [Go.RowKit.intOf]; omega
   ·have hB : escB s[k] = [s[k]] := by unfold escB; rw [if_neg (fun h => c1 (by rw [h]; rfl)), if_neg (fun h => c2 (by rw [h]; rfl)), if_neg (fun h => c3 (by rw [h]; rfl))]
    go_wp2_with (go_at_call 62; refine (Try.Builder_WriteByte _ _ _ _ _ hI (by omega) hsz).mono ?_)
    rintro e W1 ⟨rfl, h1, b1⟩
    go_wp2
    go_roundw
    case rel => exact ⟨k + 1, by simp, by omega, .inr (by rw [hnx, hB, Lib.byteCells_append]; exact h1), hbw.trans b1⟩
    case measure => simp only [Go.RowKit.intOf]; omega
  ·have hks : s.data.toList.take k = s.data.toList := yO (by show s.size ≤ k; omega)
   rw [hks] at hI
   go_wp2_with (go_at_call 63; refine (Try.Builder_String_any _ _ _ _ hI hsz).mono ?_)
   rintro e W1 ⟨rfl, b1⟩
   go_wp2
   go_ret
   exact ⟨rfl, hbw.trans b1⟩
end Go.Fx.W
namespace Go.Fx.W
open Go Go.Fx Go.Proofs Go.RowKit
theorem cal {f : FuncId} {fn : Func} (h : Try.prog.funcs[f]? = some fn) (h1 : (fn.name == "runtime.NumGoroutine") = false) (h2 : fn.body.isNone = false) : Callable Try.prog f := ⟨fn, h, h1, h2⟩
theorem fr_below {w w' : World} {ρ : Nat → Loc} {X : Nat → Prop} (hr : Rep ρ X w []) (h : Below w.heap.size w w') : Fr ρ w ρ w' := ⟨h.os, h.tape, h.output, h.size, fun b hb ho => ⟨h.block b hb, ho⟩⟩
theorem rep_below {w w' : World} {ρ : Nat → Loc} {X : Nat → Prop} (hr : Rep ρ X w []) (h : Below w.heap.size w w') : Rep ρ X w' [] :=
 ⟨hr.inj, hr.out, fun k b hk => by simp at hk, hr.disj, fun k hk => yY (hr.lt k hk) h.size, fun b hb => yY (hr.xlt b hb) h.size⟩
theorem ok43 (s : S) (hs : s.length ≤ 1099511627776) : Ok 43 [sv s] (Is (sv (esc s))) := by
 refine ⟨cal Try.func43 (by kernel_rfl) (by kernel_rfl), ?_⟩
 intro ρ X w vals hr ha
 match vals, ha with
 | [val], ⟨hv, _⟩ =>
 have : val = .string (sb s) := hv
 subst this
 refine (esc_walk (sb s) w hs).mono ?_
 rintro e w' ⟨rfl, hb⟩
 exact ⟨_, sv (esc s), [], ρ, rfl, ⟨⟨rfl, rfl⟩, yG _⟩, fr_below hr hb, rep_below hr hb, rfl, fun _ _ _ => rfl⟩
theorem ok39 (s : S) (c : Nat) (hc : c ≤ 255) : Ok 39 [sv s, .v (.int .u8 c)] (Is (.i (Lib.indexByte s c.toUInt8))) := by
 refine ⟨cal Try.func39 (by kernel_rfl) (by kernel_rfl), ?_⟩
 intro ρ X w vals hr ha
 match vals, ha with
 | [v1, v2], ⟨hv1, hv2, _⟩ =>
 have : v1 = .string (sb s) := hv1
 subst this
 have : v2 = .int .u8 c := hv2
 subst this
 refine (Try.strings_IndexByte (sb s) c w).mono ?_
 rintro e w' ⟨rfl, rfl⟩
 exact ⟨_, .i (Lib.indexByte s c.toUInt8), [], ρ, rfl, ⟨⟨rfl, rfl⟩, yG _⟩, Fr.refl _ _, hr, rfl, fun _ _ _ => rfl⟩
theorem repEls_s {St : Nat → Prop} {w : World} {b : Nat} : ∀ {l : List S} {off : Nat}, RepEls St w 1 b off (l.map encS) → ∀ j (h : j < l.length), w.cell? ⟨b, off + j, none⟩ = some (.string (sb l[j]))
 | [], _, _, j, h => by simp at h
 | x :: r, off, hr, j, h => by
  obtain ⟨⟨_, ⟨val, h1, h2⟩, _⟩, h3⟩ := hr
  cases j with
  | zero =>
   have : val = .string (sb x) := h2.1
   subst this; exact h1
  | succ j =>
   have := repEls_s h3 j (by simpa using h)
   rw [show off + (j + 1) = off + 1 + j by omega]
   exact this
theorem repEls_os {St : Nat → Prop} {w : World} {b : Nat} : ∀ {l : List S} {off : Nat}, (∀ j (h : j < l.length), w.cell? ⟨b, off + j, none⟩ = some (.string (sb l[j]))) → RepEls St w 1 b off (l.map encS)
 | [], _, _ => trivial
 | x :: r, off, h => ⟨⟨rfl, ⟨_, h 0 (by simp), rfl, rfl⟩, trivial⟩, repEls_os fun j hj => by
   have := h (j + 1) (by simpa using hj)
   rw [show off + 1 + j = off + (j + 1) by omega]
   exact this⟩
def srt (l : List S) : List S := l.mergeSort fun x y => decide (x ≤ y)
theorem srt_len {l : List S} : (srt l).length = l.length := List.length_mergeSort ..
theorem ok66 (l : List S) (hl : l.length < 4611686018427387904) : OkN Try.prog 66 [.sl 0 0 l.length] [.arr 1 (l.map encS)] [] (IsA (.tup []) [.arr 1 ((srt l).map encS)]) := by
 refine ⟨cal Try.func66 (by kernel_rfl) (by kernel_rfl), ?_⟩
 intro ρ X w vals hr ha
 match vals, ha with
 | [val], ⟨hv, _⟩ =>
 obtain ⟨cap, h1, h2, h3⟩ := hv
 rcases h3 with ⟨h4, a, rfl⟩ | ⟨hre, rfl, hroom⟩
 ·have hl0 : l = [] := vQ.1 (by omega)
  subst hl0
  refine (Try.slices_Sort_string_none a 0 w).mono ?_
  rintro e w' ⟨rfl, rfl⟩
  exact ⟨_, .tup [], [.arr 1 []], ρ, rfl, ⟨⟨rfl, by simp [srt]⟩, yG _⟩, Fr.refl _ _, hr, ⟨#[], rfl, trivial⟩, fun _ _ _ => rfl⟩
 ·have hb := hr.blk 0 _ rfl
  obtain ⟨⟨hsz, _⟩, hb | ⟨_, c, T, hc, hcs, hlen, hels⟩⟩ := hb
  ·rw [hb.1] at hre; cases hre
  have hoff : (ρ 0).off + 0 * (ρ 0).sz = (ρ 0).off := by omega
  rw [hoff]
  rw [yW] at hlen
  have hg := fun j hj => repEls_s hels j hj
  have hH : Sort.Holds encStr w (ρ 0).blk (ρ 0).off l.toArray := by
   intro j hj
   have hj' : j < l.length := by simpa using hj
   refine ⟨?_, by simp [World.frozen?, hc]⟩
   rw [hg j hj']
   simp [hj']
   rfl
  refine (Try.slices_Sort_string (ρ 0).blk (ρ 0).off cap l w hH (hr.lt 0 hre) hl).mono ?_
  rintro e w' ⟨rfl, n, os, rfl⟩
  have hbl := hr.lt 0 hre
  have hsl : (srt l).length = l.length := srt_len
  have hw1 : (Sort.grow (Sort.putRow encStr (Sort.ahead w n) (ρ 0).blk (ρ 0).off (srt l).toArray) os).heap[(ρ 0).blk]? = some (.cells (Sort.putCells encStr (ρ 0).off (srt l).toArray c) T (0, 0)) := by
   simp only [Sort.grow, Sort.putRow, Sort.mapBlock, Sort.ahead]
   rw [uB (by simpa using hbl), uC, if_pos rfl, hc]
   rfl
  have hw2 : ∀ b, b < w.heap.size → b ≠ (ρ 0).blk → (Sort.grow (Sort.putRow encStr (Sort.ahead w n) (ρ 0).blk (ρ 0).off (srt l).toArray) os).heap[b]? = w.heap[b]? := by
   intro b hb hne
   simp only [Sort.grow, Sort.putRow, Sort.mapBlock, Sort.ahead]
   rw [uB (by simpa using hb), uC, if_neg (fun h => hne h.symm)]
  have hsize : w.heap.size ≤ (Sort.grow (Sort.putRow encStr (Sort.ahead w n) (ρ 0).blk (ρ 0).off (srt l).toArray) os).heap.size := by
   simp [Sort.grow, Sort.putRow, Sort.mapBlock, Sort.ahead]
  have hfr : Fr ρ w ρ (Sort.grow (Sort.putRow encStr (Sort.ahead w n) (ρ 0).blk (ρ 0).off (srt l).toArray) os) := ⟨rfl, rfl, rfl, hsize, fun b hb ho => ⟨hw2 b hb fun h => ho ⟨0, hre, h.symm⟩, ho⟩⟩
  have hcell : ∀ j (hj : j < l.length), (Sort.grow (Sort.putRow encStr (Sort.ahead w n) (ρ 0).blk (ρ 0).off (srt l).toArray) os).cell? ⟨(ρ 0).blk, (ρ 0).off + j, none⟩ = some (.string (sb ((srt l)[j]'(by rw [hsl]; exact hj)))) := by
   intro j hj
   have hjc : (ρ 0).off + j < c.size := by rw [hcs]; rw [hsz] at hroom; omega
   simp only [World.cell?, hw1]
   simp [Sort.putCells, hjc, hsl, hj]
   rfl
  refine ⟨_, .tup [], [.arr 1 ((srt l).map encS)], ρ, rfl, ⟨⟨rfl, rfl⟩, yG _⟩, hfr, ⟨hr.inj, hr.out, fun k b hk => ?_, hr.disj, fun k hk => yY (hr.lt k hk) hsize, fun b hb => yY (hr.xlt b hb) hsize⟩, ⟨#[], rfl, trivial⟩, fun _ _ _ => rfl⟩
  cases k with
  | succ k => simp at hk
  | zero =>
   simp only [vH, yA] at hk
   subst hk
   refine ⟨⟨hsz, by omega⟩, .inr ⟨hre, _, T, hw1, by simp [Sort.putCells, hcs], by rw [yW, hsl]; exact hlen, repEls_os fun j hj => ?_⟩⟩
   rw [hsl] at hj
   exact hcell j hj
set_option maxRecDepth 20000
def nameB (b : UInt8) : Bool := decide (97 ≤ b.toNat ∧ b.toNat ≤ 122) || decide (48 ≤ b.toNat ∧ b.toNat ≤ 57) || decide (b.toNat = 45)
def valB (b : UInt8) : Bool := decide (33 ≤ b.toNat ∧ b.toNat ≤ 126)
def wordP (p : UInt8 → Bool) (s : S) : Bool := s.all p && decide (1 ≤ s.length ∧ s.length ≤ 64)
theorem ok69 (b : UInt8) : Ok 69 [.v (.int .u8 b.toNat)] (Is (.b (nameB b))) := by
 refine ok_of lw69 (by simp) ?_
 unfold c69
 simp -implicitDefEqProofs only [rX,↓rY,ofConst,↓reduceIte,Nat.reduceEqDiff,reduceCtorEq,resP,tupV,wfV,cxN,args0]
 have e45 : (((b.toNat : Int) == 45) : Bool) = decide (b.toNat = 45) := by rw [yR]; simp; omega
 rw [e45]
 simp only [br, decide_eq_true_eq, decide_eq_false_iff_not, nameB]
 refine ⟨fun h1 => ⟨fun h2 => ?_, fun h2 => ⟨fun h3 => ⟨fun h4 => ?_, fun h4 => ?_⟩, fun h3 => ?_⟩⟩, fun h1 => ⟨fun h3 => ⟨fun h4 => ?_, fun h4 => ?_⟩, fun h3 => ?_⟩⟩ <;> rw [yR] <;> simp <;> omega
theorem ok70 (b : UInt8) : Ok 70 [.v (.int .u8 b.toNat)] (Is (.b (valB b))) := by
 refine ok_of lw70 (by simp) ?_
 unfold c70
 simp -implicitDefEqProofs only [rX,↓rY,ofConst,↓reduceIte,Nat.reduceEqDiff,reduceCtorEq,resP,tupV,wfV,cxN,args0]
 simp only [br, decide_eq_true_eq, decide_eq_false_iff_not, valB]
 refine ⟨fun h1 => ?_, fun h1 => ?_⟩ <;> rw [yR] <;> simp <;> omega
theorem ok68 (s : S) (hm : s.length ≤ maxLen) (f : FuncId) (p : UInt8 → Bool) (hp : ∀ b : UInt8, Ok f [.v (.int .u8 b.toNat)] (Is (.b (p b)))) : Ok 68 [sv s, .clo f []] (Is (.b (wordP p s))) := by
 refine ok_of lw68 (by simp) ?_
 unfold c68
 simp -implicitDefEqProofs only [rX,↓rY,ofConst,↓reduceIte,reduceCtorEq,cxN,sb_size,args0]
 refine loopP_intro (fun k : Nat => ⟨[(8, .i k), (7, .i s.length), (1, .clo f []), (0, sv s)], [], 0⟩) (fun k => k ≤ s.length ∧ (s.take k).all p = true) (fun k => s.length - k) 0 ⟨by omega, rfl⟩ ?_ ?_
 ·simp -implicitDefEqProofs only [rX,↓reduceIte,Nat.reduceEqDiff,reduceCtorEq,leE,leH,keepP,wfE,wfB,wfV,wfL,yF]
 rintro k ⟨hk, hv⟩
 unfold c68l0
 simp -implicitDefEqProofs only [rX,↓rY,ofConst,↓reduceIte,Nat.reduceEqDiff,reduceCtorEq,resP,tupV,wfV,sb_size,sb_get]
 simp only [br, yE, decide_eq_true_eq, decide_eq_false_iff_not]
 refine ⟨fun h => ⟨by omega, ?_⟩, fun h => ?_⟩
 ·have hk : k < s.length := by omega
  have htk : s.take (k + 1) = s.take k ++ [s[k]] := by rw [yX, yD hk]; rfl
  rw [yD hk, zy]
  refine call_is (hp s[k]) ⟨⟨trivial, trivial⟩, rfl, trivial⟩ rfl trivial ?_
  simp -implicitDefEqProofs only [rX,↓rY,ofConst,↓reduceIte,Nat.reduceEqDiff,reduceCtorEq,resP,tupV,leE,leH,keepP,wfE,wfB,wfV,wfL]
  cases hb : p s[k] with
  | true =>
   simp -implicitDefEqProofs only [rX,↓rY]
   refine ⟨by simp only [lo, hi, maxLen] at *; omega, k + 1, ⟨⟨by omega, by rw [htk, vR, hv]; simp [hb]⟩, by omega⟩, by simp⟩
  | false =>
   simp -implicitDefEqProofs only [rX,↓rY]
   have : s.all p = false := by
    rw [vS]
    exact ⟨s[k], yC hk, by simp [hb]⟩
   simp [wordP, this]
 ·have hks : s.take k = s := yO (by omega)
  rw [hks] at hv
  simp only [br, decide_eq_true_eq, decide_eq_false_iff_not, wordP, hv, vT]
  refine ⟨fun h1 => ?_, fun h1 => ?_⟩ <;> rw [yR] <;> simp <;> omega
theorem ok56 (s : S) (hm : s.length ≤ maxLen) : Ok 56 [sv s] (Is (.b (wordP nameB s))) := by
 refine ok_of lw56 (by simp) ?_
 unfold c56
 simp -implicitDefEqProofs only [rX,ofConst,↓reduceIte,reduceCtorEq,cxN,args0]
 refine call_is (ok68 s hm 69 nameB ok69) ⟨⟨trivial, trivial, trivial⟩, rfl, ⟨rfl, trivial⟩, trivial⟩ rfl trivial ?_
 simp -implicitDefEqProofs only [rX,↓reduceIte,resP,tupV,wfV]
theorem ok57 (s : S) (hm : s.length ≤ maxLen) : Ok 57 [sv s] (Is (.b (wordP valB s))) := by
 refine ok_of lw57 (by simp) ?_
 unfold c57
 simp -implicitDefEqProofs only [rX,ofConst,↓reduceIte,reduceCtorEq,cxN,args0]
 refine call_is (ok68 s hm 70 valB ok70) ⟨⟨trivial, trivial, trivial⟩, rfl, ⟨rfl, trivial⟩, trivial⟩ rfl trivial ?_
 simp -implicitDefEqProofs only [rX,↓reduceIte,resP,tupV,wfV]
set_option maxRecDepth 20000
def idxI {α : Type} (p : α → Bool) (l : List α) : Int := if l.any p then (l.findIdx p : Nat) else -1
structure NF {α : Type} (p : α → Bool) (l : List α) (k : Nat) : Prop where
 h : ∀ j (h : j < l.length), j < k → p l[j] = false
theorem NF.zero {α : Type} {p : α → Bool} {l : List α} : NF p l 0 := ⟨fun _ _ h => absurd h (yZ _)⟩
theorem NF.step {α : Type} {p : α → Bool} {l : List α} {k : Nat} (h : NF p l k) (hk : k < l.length) (hp : p l[k] = false) : NF p l (k + 1) := ⟨fun j hj h2 => by
 by_cases h3 : j = k
 ·subst h3; exact hp
 ·exact h.h j hj (by omega)⟩
theorem NF.at {α : Type} {p : α → Bool} {l : List α} {k : Nat} (h : NF p l k) (hk : k < l.length) (hp : p l[k] = true) : idxI p l = k := by
 have h1 : l.any p = true := by
  rw [yU]; exact ⟨_, yC hk, hp⟩
 have h2 : l.findIdx p = k := by
  rw [List.findIdx_eq hk]
  exact ⟨hp, fun j hj => h.h j (by omega) hj⟩
 simp [idxI, h1, h2]
theorem NF.any {α : Type} {p : α → Bool} {l : List α} {k : Nat} (h : NF p l k) (hk : l.length ≤ k) : l.any p = false := by
 rw [vI]
 intro y hy
 obtain ⟨j, hj, rfl⟩ := uD hy
 simp [h.h j hj (by omega)]
theorem NF.no {α : Type} {p : α → Bool} {l : List α} {k : Nat} (h : NF p l k) (hk : l.length ≤ k) : idxI p l = -1 := by simp [idxI, h.any hk]
theorem idxI_ge {α : Type} {p : α → Bool} {l : List α} : decide (idxI p l ≥ 0) = l.any p := by
 unfold idxI
 cases h : l.any p <;> simp
theorem ok64 (l : List S) (s : S) : Ok 64 [ss l, sv s] (Is (.i (idxI (s == ·) l))) := by
 refine ok_of lw64 (by simp) ?_
 unfold c64 ss
 simp -implicitDefEqProofs only [rX,↓rY,ofConst,↓reduceIte,reduceCtorEq,cxN,args0]
 intro hm
 refine loopP_intro (fun k : Nat => ⟨[(8, .i k), (7, .i l.length), (1, sv s), (0, .ro 1 (l.map encS))], [], 0⟩) (fun k => k ≤ l.length ∧ NF (s == ·) l k) (fun k => l.length - k) 0 ⟨by omega, .zero⟩ ?_ ?_
 ·simp -implicitDefEqProofs only [rX,↓reduceIte,Nat.reduceEqDiff,reduceCtorEq,leE,leH,keepP,wfE,wfB,wfV,yF]
 rintro k ⟨hk, hv⟩
 unfold c64l0
 simp -implicitDefEqProofs only [rX,↓rY,ofConst,↓reduceIte,Nat.reduceEqDiff,reduceCtorEq,resP,tupV,leE,leH,keepP,wfE,wfB,wfV,sb_list,encS_0]
 simp only [br, yE, decide_eq_true_eq, decide_eq_false_iff_not]
 refine ⟨fun h => ⟨⟨by omega, h⟩, by omega, fun h2 => ?_, fun h2 => ⟨by simp only [lo, hi, maxLen] at *; omega, k + 1, ⟨⟨by omega, hv.step (by omega) h2⟩, by omega⟩, by simp⟩⟩, fun h => ?_⟩
 ·exact (hv.at (p := (s == ·)) (by omega) h2).symm
 ·exact (hv.no (by omega)).symm
theorem ok46 (l : List S) (s : S) : Ok 46 [ss l, sv s] (Is (.b (l.any (s == ·)))) := by
 refine ok_of lw46 (by simp) ?_
 unfold c46
 simp -implicitDefEqProofs only [rX,ofConst,↓reduceIte,Nat.reduceEqDiff,reduceCtorEq,cxN,args0]
 refine call_is (ok64 l s) ⟨⟨trivial, trivial, trivial⟩, ⟨rfl, rfl⟩, rfl, trivial⟩ rfl trivial ?_
 simp -implicitDefEqProofs only [rX,↓rY,ofConst,↓reduceIte,resP,tupV,wfV]
 exact idxI_ge
theorem ok65 (v : Vary) (s : S) : OkN Try.prog 65 [.agg v.enc, .ptr 0 0 0] [.var [sv s]] [] (IsA (.b (v.h == s)) [.var [sv s]]) := by
 refine okN_of pol [0] lw65 (by simp) ⟨trivial, trivial⟩ (by simp) ?_
 unfold c65
 simp -implicitDefEqProofs only [rX,↓rY,ofConst,cells?,↓reduceIte,Nat.reduceEqDiff,Nat.reduceAdd,reduceCtorEq,freshP,resP,tupV,leH,leB,leV,leVs,keepP,liveP,wfB,wfV,wfL,cxN,sb_list,vr_0,args0,retP_isA]
theorem ok31 (v : Vary) : Ok 31 [.agg v.enc] (Is (.b (decide (16 < v.vals.length)))) := by
 refine ok_of lw31 (by simp) ?_
 unfold c31
 simp -implicitDefEqProofs only [rX,↓rY,ofConst,cells?,↓reduceIte,Nat.reduceEqDiff,freshP,resP,tupV,wfV,cxN,vr_1,args0]
 intro _
 rw [yR]; simp; omega
theorem ok55 (l : List Vary) (s : S) : OkN Try.prog 55 [vs l, .clo 65 [.ptr 0 0 0]] [.var [sv s]] [] (IsA (.i (idxI (fun v => v.h == s) l)) [.var [sv s]]) := by
 refine okN_of pol [0] lw55 (by simp) ⟨trivial, trivial⟩ (by simp) ?_
 unfold c55 vs
 simp -implicitDefEqProofs only [rX,↓rY,ofConst,↓reduceIte,reduceCtorEq,cxN,args0]
 intro hm
 refine loopP_intro (fun k : Nat => ⟨[(8, .i k), (7, .i l.length), (1, .clo 65 [.ptr 0 0 0]), (0, .ro 3 (l.map Vary.enc))], [.var [sv s]], 0⟩) (fun k => k ≤ l.length ∧ NF (fun v => v.h == s) l k) (fun k => l.length - k) 0 ⟨by omega, .zero⟩ ?_ ?_
 ·simp -implicitDefEqProofs only [rX,↓reduceIte,Nat.reduceEqDiff,reduceCtorEq,leE,leH,leB,leV,leVs,keepP,liveP,wfE,wfB,wfV,wfL,yF]
 rintro k ⟨hk, hv⟩
 unfold c55l0
 simp -implicitDefEqProofs only [rX,↓rY,ofConst,↓reduceIte,Nat.reduceEqDiff,reduceCtorEq,vr_len,vr_t]
 simp only [br, yE, decide_eq_true_eq, decide_eq_false_iff_not]
 refine ⟨fun h => ⟨⟨by omega, h⟩, by omega, ?_⟩, fun h => ?_⟩
 ·have hk : k < l.length := by omega
  refine call_isN [0] [.agg l[k].enc, .ptr 0 0 0] (.b (l[k].h == s)) (.b (l[k].h == s)) [.var [sv s]] [.var [sv s]] _ (ok65 l[k] s) ⟨by simp, by simp⟩ rfl ?_ (by simp) rfl rfl ?_ ?_
  ·simp [lendsOk, lendOk, lends, lend, wkL, wk, wkR, pos, Vary.enc, ss]
  ·simp [setAll, keepP, liveP, renB]
  cases hb : l[k].h == s with
  | true =>
   simp -implicitDefEqProofs only [rX,↓rY,↓reduceIte,Nat.reduceEqDiff,resP,tupV,leH,leB,leV,leVs,keepP,liveP,wfB,wfV,wfL,setAll,renB,retP_isA,rens,ren]
   exact (hv.at (p := fun v => v.h == s) hk hb).symm
  | false =>
   simp -implicitDefEqProofs only [rX,↓rY,ofConst,↓reduceIte,Nat.reduceEqDiff,reduceCtorEq,leE,leH,leB,leV,leVs,keepP,liveP,wfE,wfB,wfV,wfL,setAll,renB,rens,ren]
   exact ⟨by simp only [lo, hi, maxLen] at *; omega, k + 1, ⟨⟨by omega, hv.step hk hb⟩, by omega⟩, by simp⟩
 ·simp -implicitDefEqProofs only [rX,↓reduceIte,resP,tupV,leH,leB,leV,leVs,keepP,liveP,wfB,wfV,wfL,retP_isA]
  exact (hv.no (by omega)).symm
theorem ok55b (l : List Vary) : Ok 55 [vs l, .clo 31 []] (Is (.i (idxI (fun v => decide (16 < v.vals.length)) l))) := by
 refine ok_of lw55 (by simp) ?_
 unfold c55 vs
 simp -implicitDefEqProofs only [rX,↓rY,ofConst,↓reduceIte,reduceCtorEq,cxN,args0]
 intro hm
 refine loopP_intro (fun k : Nat => ⟨[(8, .i k), (7, .i l.length), (1, .clo 31 []), (0, .ro 3 (l.map Vary.enc))], [], 0⟩) (fun k => k ≤ l.length ∧ NF (fun v => decide (16 < v.vals.length)) l k) (fun k => l.length - k) 0 ⟨by omega, .zero⟩ ?_ ?_
 ·simp -implicitDefEqProofs only [rX,↓reduceIte,Nat.reduceEqDiff,reduceCtorEq,leE,leH,keepP,wfE,wfB,wfV,wfL,yF]
 rintro k ⟨hk, hv⟩
 unfold c55l0
 simp -implicitDefEqProofs only [rX,↓rY,ofConst,↓reduceIte,Nat.reduceEqDiff,reduceCtorEq,resP,tupV,wfV,vr_len,vr_t]
 simp only [br, yE, decide_eq_true_eq, decide_eq_false_iff_not]
 refine ⟨fun h => ⟨⟨by omega, h⟩, by omega, ?_⟩, fun h => ?_⟩
 ·have hk : k < l.length := by omega
  refine call_is (ok31 l[k]) ⟨⟨⟨trivial, trivial, trivial, trivial⟩, trivial⟩, ⟨rfl, ⟨rfl, rfl⟩, rfl, trivial⟩, trivial⟩ rfl trivial ?_
  cases hb : decide (16 < l[k].vals.length) with
  | true =>
   simp -implicitDefEqProofs only [rX,↓rY,↓reduceIte,Nat.reduceEqDiff,resP,tupV,wfV]
   exact (hv.at (p := fun v => decide (16 < v.vals.length)) hk hb).symm
  | false =>
   simp -implicitDefEqProofs only [rX,↓rY,ofConst,↓reduceIte,Nat.reduceEqDiff,reduceCtorEq,leE,leH,keepP,wfE,wfB,wfV,wfL]
   exact ⟨by simp only [lo, hi, maxLen] at *; omega, k + 1, ⟨⟨by omega, hv.step hk hb⟩, by omega⟩, by simp⟩
 ·exact (hv.no (by omega)).symm
theorem ok30 (l : List Vary) : Ok 30 [vs l, .clo 31 []] (Is (.b (l.any fun v => decide (16 < v.vals.length)))) := by
 refine ok_of lw30 (by simp) ?_
 unfold c30
 simp -implicitDefEqProofs only [rX,ofConst,↓reduceIte,Nat.reduceEqDiff,reduceCtorEq,cxN,args0]
 refine call_is (ok55b l) ⟨⟨trivial, trivial, trivial⟩, ⟨rfl, rfl⟩, ⟨rfl, trivial⟩, trivial⟩ rfl trivial ?_
 simp -implicitDefEqProofs only [rX,↓rY,ofConst,↓reduceIte,resP,tupV,wfV]
 exact idxI_ge
theorem ok53 (l : List Vary) (s : S) : Ok 53 [vs l, sv s] (Is (.i (idxI (fun v => v.h == s) l))) := by
 refine ok_of lw53 (by simp) ?_
 unfold c53
 simp -implicitDefEqProofs only [rX,↓rY,ofConst,cells?,↓reduceIte,Nat.reduceEqDiff,reduceCtorEq,freshP,cxN,args0]
 refine call_isN [0] [vs l, .clo 65 [.ptr 0 0 0]] (.i (idxI (fun v : Vary => v.h == s) l)) (.i (idxI (fun v : Vary => v.h == s) l)) [.var [sv s]] [.var [sv s]] _ (ok55 l s) ⟨by simp, by simp⟩ rfl ?_ (by simp) rfl rfl ?_ ?_
 ·simp [lendsOk, lendOk, lends, lend, wkL, wk, wkR, pos, vs]
 ·simp [setAll, keepP, liveP, renB]
 simp -implicitDefEqProofs only [rX,↓reduceIte,resP,tupV,wfV,setAll,renB,rens,ren]
set_option maxRecDepth 20000
structure Vary.Ok (v : Vary) : Prop where
 h : v.h.length ≤ maxLen
 vals : ∀ x ∈ v.vals, x.length ≤ maxLen
 d : v.d.length ≤ maxLen
def valBad (l : List S) (k : Nat) : Bool := !wordP valB (l.getD k []) || (decide (0 < k) && (decide (l.getD k [] < l.getD (k - 1) []) || l.getD k [] == l.getD (k - 1) []))
def valsB (l : List S) : Bool := !(yP l.length).any (valBad l)
def vErr (v : Vary) (e : List Vary) : Int := if wordP nameB v.h = false then 1 else if e.any (fun x => x.h == v.h) then 6 else if (!(v.d == []) && !v.vals.any (v.d == ·)) || !valsB v.vals then 1 else 0
structure VI (l : List S) (k : Nat) : Prop where
 h : ∀ j, j < k → valBad l j = false
theorem VI.all {l : List S} {k : Nat} (h : VI l k) (hk : l.length ≤ k) : valsB l = true := by
 unfold valsB
 have : (yP l.length).any (valBad l) = false := by
  rw [vI]
  intro j hj
  rw [vD] at hj
  simp [h.h j (by omega)]
 rw [this]; rfl
theorem VI.no {l : List S} {k : Nat} (hk : k < l.length) (h : valBad l k = true) : valsB l = false := by
 unfold valsB
 have : (yP l.length).any (valBad l) = true := yU.2 ⟨k, vD.2 hk, h⟩
 rw [this]; rfl
theorem VI.step {l : List S} {k : Nat} (h : VI l k) (hb : valBad l k = false) : VI l (k + 1) := ⟨fun j hj => by
 by_cases h3 : j = k
 ·subst h3; exact hb
 ·exact h.h j (by omega)⟩
theorem vb_of {l : List S} {k : Nat} (hm : l.length ≤ maxLen) (hk : k < l.length) {A B : Prop} (hA : valBad l k = true → A) (hB : valBad l k = false → B) : br (!wordP valB l[k]) A (br (decide ((0 : Int) < (k : Int))) ((lo .i64 ≤ (k : Int) - 1 ∧ (k : Int) - 1 ≤ hi .i64) ∧ (0 ≤ (k : Int) - 1 ∧ (k : Int) - 1 < l.length) ∧ ∃ h : ((k : Int) - 1).toNat < l.length, br (decide (l[k] < l[((k : Int) - 1).toNat]'h) || l[k] == l[((k : Int) - 1).toNat]'h) A B) B) := by
 have g0 : l.getD k [] = l[k] := by rw [yM, yD hk]; rfl
 simp only [br, yV, vU, decide_eq_true_eq, decide_eq_false_iff_not]
 refine ⟨fun h1 => hA (by unfold valBad; rw [g0, h1]; rfl), fun h1 => ⟨fun h2 => ⟨by simp only [lo, hi, maxLen] at *; omega, by omega, by omega, ?_⟩, fun h2 => hB ?_⟩⟩
 ·have hk1 : ((k : Int) - 1).toNat = k - 1 := by omega
  have g1 : l.getD (k - 1) [] = l[((k : Int) - 1).toNat]'(by omega) := by
   rw [yM, yD (by omega)]; simp [hk1]
  have hvb : valBad l k = (decide (l[k] < l[((k : Int) - 1).toNat]'(by omega)) || l[k] == l[((k : Int) - 1).toNat]'(by omega)) := by
   unfold valBad
   rw [g0, g1, h1, decide_eq_true (show 0 < k by omega)]
   rfl
  rw [← hvb]
  exact ⟨hA, hB⟩
 ·have : ¬ 0 < k := by omega
  unfold valBad; rw [g0, h1, decide_eq_false this]; rfl
theorem ok32 (v : Vary) (hv : v.Ok) (e : List Vary) : Ok 32 [.agg v.enc, vs e] (Is (.i (vErr v e))) := by
 refine ok_of lw32 (by simp) ?_
 unfold c32
 simp -implicitDefEqProofs only [rX,↓rY,ofConst,cells?,↓reduceIte,Nat.reduceEqDiff,freshP,cxN,vr_0,k_nil,args0]
 refine call_is (ok56 v.h hv.h) ⟨⟨trivial, trivial⟩, rfl, trivial⟩ rfl trivial ?_
 simp -implicitDefEqProofs only [rX,↓rY,ofConst,↓reduceIte,Nat.reduceEqDiff,reduceCtorEq,resP,tupV,wfV,vr_0]
 cases hn : wordP nameB v.h with
 | false =>
  simp -implicitDefEqProofs only [rX,↓rY]
  simp [vErr, hn]
 | true =>
  simp -implicitDefEqProofs only [rX,↓rY]
  refine call_is (ok53 e v.h) ⟨⟨trivial, trivial, trivial⟩, ⟨rfl, rfl⟩, rfl, trivial⟩ rfl trivial ?_
  simp -implicitDefEqProofs only [rX,↓rY,ofConst,↓reduceIte,Nat.reduceEqDiff,resP,tupV,wfV,sb_list,vr_1,vr_2,idxI_ge]
  cases hof : e.any (fun x => x.h == v.h) with
  | true =>
   simp -implicitDefEqProofs only [↓rY]
   simp [vErr, hn, hof]
  | false =>
   simp -implicitDefEqProofs only [↓rY]
   simp only [br, yV, beq_eq_false_iff_ne, ne_eq, vU, beq_iff_eq]
   refine ⟨fun hd => ?_, fun hd => ?_⟩
   ·refine call_is (ok46 v.vals v.d) ⟨⟨trivial, trivial, trivial⟩, ⟨rfl, rfl⟩, rfl, trivial⟩ rfl trivial ?_
    simp -implicitDefEqProofs only [rX,↓rY,ofConst,↓reduceIte,Nat.reduceEqDiff,resP,tupV,wfV,vr_1]
    cases ha : v.vals.any (v.d == ·) with
    | false =>
     simp -implicitDefEqProofs only [rX,↓rY]
     have hd' : (v.d == []) = false := beq_eq_false_iff_ne.2 hd
     rw [vErr, if_neg (by rw [hn]; decide), if_neg (by rw [hof]; decide), hd', ha]; rfl
    | true =>
     have ha2 : v.d ∈ v.vals := by simpa using ha
     simp -implicitDefEqProofs only [rX,↓rY]
     intro hm
     refine loopP_intro (fun k : Nat => ⟨[(33, .i k), (32, .i v.vals.length), (31, .ro 1 (v.vals.map encS)), (2, .ptr 0 0 0)], [.var v.enc], 0⟩) (fun k => k ≤ v.vals.length ∧ VI v.vals k) (fun k => v.vals.length - k) 0 ⟨by omega, ⟨fun j hj => absurd hj (yZ _)⟩⟩ ?_ ?_
     ·simp -implicitDefEqProofs only [rX,↓reduceIte,Nat.reduceEqDiff,leE,leH,leB,keepP,liveP,wfE,wfB,wfV,vr_le,vr_wf,yF]
     rintro k ⟨hk, hvi⟩
     unfold c32l0
     simp -implicitDefEqProofs only [rX,↓rY,ofConst,↓reduceIte,Nat.reduceEqDiff,resP,tupV,wfV,encS_0]
     simp only [br, yE, decide_eq_true_eq, decide_eq_false_iff_not]
     refine ⟨fun h => ⟨⟨by omega, h⟩, by omega, ?_⟩, fun h => ?_⟩
     ·have hk : k < v.vals.length := by omega
      refine call_is (ok57 v.vals[k] (hv.vals _ (yC hk))) ⟨⟨trivial, trivial⟩, rfl, trivial⟩ rfl trivial ?_
      simp -implicitDefEqProofs only [rX,↓rY,ofConst,↓reduceIte,Nat.reduceEqDiff,resP,tupV,leE,leH,leB,keepP,liveP,wfE,wfB,wfV,sb_list,less,encS_0,vr_1,vr_le,vr_wf]
      refine vb_of hm hk (fun hb => ?_) fun hb => ⟨by simp only [lo, hi, maxLen] at *; omega, k + 1, ⟨⟨by omega, hvi.step hb⟩, by omega⟩, by simp⟩
      have := VI.no hk hb
      simp [vErr, hn, hof, hd, ha2, this]
     ·have hb := hvi.all (by omega)
      simp [vErr, hn, hof, hd, ha2, hb]
   ·intro hm
    refine loopP_intro (fun k : Nat => ⟨[(33, .i k), (32, .i v.vals.length), (31, .ro 1 (v.vals.map encS)), (2, .ptr 0 0 0)], [.var v.enc], 0⟩) (fun k => k ≤ v.vals.length ∧ VI v.vals k) (fun k => v.vals.length - k) 0 ⟨by omega, ⟨fun j hj => absurd hj (yZ _)⟩⟩ ?_ ?_
    ·simp -implicitDefEqProofs only [rX,↓reduceIte,Nat.reduceEqDiff,leE,leH,leB,keepP,liveP,wfE,wfB,wfV,vr_le,vr_wf,yF]
    rintro k ⟨hk, hvi⟩
    unfold c32l0
    simp -implicitDefEqProofs only [rX,↓rY,ofConst,↓reduceIte,Nat.reduceEqDiff,resP,tupV,wfV,encS_0]
    simp only [br, yE, decide_eq_true_eq, decide_eq_false_iff_not]
    refine ⟨fun h => ⟨⟨by omega, h⟩, by omega, ?_⟩, fun h => ?_⟩
    ·have hk : k < v.vals.length := by omega
     refine call_is (ok57 v.vals[k] (hv.vals _ (yC hk))) ⟨⟨trivial, trivial⟩, rfl, trivial⟩ rfl trivial ?_
     simp -implicitDefEqProofs only [rX,↓rY,ofConst,↓reduceIte,Nat.reduceEqDiff,resP,tupV,leE,leH,leB,keepP,liveP,wfE,wfB,wfV,sb_list,less,encS_0,vr_1,vr_le,vr_wf]
     refine vb_of hm hk (fun hb => ?_) fun hb => ⟨by simp only [lo, hi, maxLen] at *; omega, k + 1, ⟨⟨by omega, hvi.step hb⟩, by omega⟩, by simp⟩
     have := VI.no hk hb
     simp [vErr, hn, hof, hd, this]
    ·have hb := hvi.all (by omega)
     simp [vErr, hn, hof, hd, hb]
set_option maxRecDepth 20000
def errAt (l : List Vary) (k : Nat) : Int := vErr (l.getD k default) (l.take k)
def firstE (l : List Vary) : Int := (((yP l.length).map (errAt l)).find? (·!= 0)).getD 0
def big (l : List Vary) : Bool := decide (8 < l.length) || l.any fun v => decide (16 < v.vals.length)
def chk (l : List Vary) : Int := if big l then 2 else firstE l
structure CI (l : List Vary) (k : Nat) : Prop where
 h : ∀ j, j < k → errAt l j = 0
theorem CI.step {l : List Vary} {k : Nat} (h : CI l k) (hb : errAt l k = 0) : CI l (k + 1) := ⟨fun j hj => by
 by_cases h3 : j = k
 ·subst h3; exact hb
 ·exact h.h j (by omega)⟩
theorem CI.end {l : List Vary} {k : Nat} (h : CI l k) (hk : l.length ≤ k) : firstE l = 0 := by
 have : ((yP l.length).map (errAt l)).find? (·!= 0) = none := by
  rw [List.find?_eq_none]
  intro x hx
  obtain ⟨j, hj, rfl⟩ := yJ.1 hx
  rw [vD] at hj
  simp [h.h j (by omega)]
 rw [firstE, this]; rfl
theorem find_at {e : Nat → Int} {k : Nat} (hk : e k ≠ 0) : ∀ {n : Nat} (i : Nat), (∀ j, i ≤ j → j < k → e j = 0) → i ≤ k → k < i + n → ((List.range' i n).map e).find? (·!= 0) = some (e k)
 | 0, i, _, h1, h2 => by omega
 | n + 1, i, h, h1, h2 => by
  rw [List.range'_succ, vO, List.find?_cons]
  by_cases hi : i = k
  ·subst hi
   have : (e i != 0) = true := bne_iff_ne.2 hk
   rw [this]
  ·have : (e i != 0) = false := by rw [h i (yG _) (by omega)]; rfl
   rw [this]
   exact find_at hk (i + 1) (fun j h3 h4 => h j (by omega) h4) (by omega) (by omega)
theorem CI.at {l : List Vary} {k : Nat} (h : CI l k) (hk : k < l.length) (he : errAt l k ≠ 0) : firstE l = errAt l k := by
 rw [firstE, List.range_eq_range', find_at (e := errAt l) he 0 (fun j _ hj => h.h j hj) (yT _) (by omega)]; rfl
theorem ok10 (l : List Vary) (hl : ∀ v ∈ l, v.Ok) : Ok 10 [vs l] (Is (.i (chk l))) := by
 refine ok_of lw10 (by simp) ?_
 unfold c10 vs
 simp -implicitDefEqProofs only [rX,↓rY,ofConst,↓reduceIte,Nat.reduceEqDiff,reduceCtorEq,resP,tupV,wfV,cxN,args0]
 intro hm
 simp only [br, decide_eq_true_eq, decide_eq_false_iff_not]
 refine ⟨fun h1 => ?_, fun h1 => ?_⟩
 ·have : big l = true := by rw [big, decide_eq_true (show 8 < l.length by omega)]; rfl
  rw [chk, if_pos this]
 have h8 : decide (8 < l.length) = false := decide_eq_false (by omega)
 refine call_is (ok30 l) ⟨⟨trivial, trivial, trivial⟩, ⟨rfl, rfl⟩, ⟨rfl, trivial⟩, trivial⟩ rfl trivial ?_
 simp -implicitDefEqProofs only [rX,↓rY,ofConst,↓reduceIte,Nat.reduceEqDiff,reduceCtorEq,resP,tupV,wfV]
 cases hb : l.any (fun v => decide (16 < v.vals.length)) with
 | true =>
  simp -implicitDefEqProofs only [↓rY]
  have : big l = true := by rw [big, hb, vV]
  rw [chk, if_pos this]
 | false =>
  have hbig : big l = false := by rw [big, hb, h8]; rfl
  have hc : chk l = firstE l := by rw [chk, hbig]; rfl
  rw [hc]
  simp -implicitDefEqProofs only [↓rY]
  intro _
  refine loopP_intro (fun k : Nat => ⟨[(15, .i k), (14, .i l.length), (13, vs l), (0, vs l)], [], 0⟩) (fun k => k ≤ l.length ∧ CI l k) (fun k => l.length - k) 0 ⟨by omega, ⟨fun j hj => absurd hj (yZ _)⟩⟩ ?_ ?_
  ·simp -implicitDefEqProofs only [rX,↓reduceIte,Nat.reduceEqDiff,reduceCtorEq,leE,leH,keepP,wfE,wfB,wfV,yF,vs]
  rintro k ⟨hk, hv⟩
  unfold c10l0 vs
  simp -implicitDefEqProofs only [rX,↓rY,ofConst,cells?,splice,↓reduceIte,Nat.reduceEqDiff,Nat.reduceAdd,reduceCtorEq,freshP,slcOk,resP,tupV,wfV,vr_len,vr_t,vr_C,k_nil]
  simp only [br, yE, decide_eq_true_eq, decide_eq_false_iff_not]
  refine ⟨fun h => ⟨⟨by omega, h⟩, by omega, ?_⟩, fun h => ?_⟩
  ·have hk : k < l.length := by omega
   have hg : errAt l k = vErr l[k] (l.take k) := by
    rw [errAt, yM, yD hk]; rfl
   have hsl : yS (k - Int.toNat 0) (List.drop (Int.toNat 0) (List.map Vary.enc l)) = (l.take k).map Vary.enc := by
    rw [show Int.toNat 0 = 0 from rfl, Nat.sub_zero, List.drop_zero, List.map_take]
   rw [hsl]
   refine ⟨by omega, ?_⟩
   refine call_is (ok32 l[k] (hl _ (yC hk)) (l.take k)) ⟨⟨⟨trivial, trivial, trivial, trivial⟩, trivial, trivial⟩, ⟨rfl, ⟨rfl, rfl⟩, rfl, trivial⟩, ⟨rfl, rfl⟩, trivial⟩ rfl trivial ?_
   rw [← hg]
   simp -implicitDefEqProofs only [rX,↓rY,ofConst,↓reduceIte,Nat.reduceEqDiff,reduceCtorEq,resP,tupV,leE,leH,keepP,wfE,wfB,wfV]
   simp only [br, bne_iff_ne, ne_eq, bne_eq_false_iff_eq]
   refine ⟨fun he => ?_, fun he => ⟨by simp only [lo, hi, maxLen] at *; omega, k + 1, ⟨⟨by omega, hv.step he⟩, by omega⟩, by simp⟩⟩
   exact (hv.at hk he).symm
  ·exact (hv.end (by omega)).symm
set_option maxRecDepth 20000
theorem ok33 (s : S) (hm : s.length ≤ maxLen) : Ok 33 [sv s] (Is (.b (wordP nameB s))) := by
 refine ok_of lw33 (by simp) ?_
 unfold c33
 simp -implicitDefEqProofs only [rX,ofConst,cxN,args0]
 refine loopP_intro (fun k : Nat => ⟨[(3, .i k), (0, sv s)], [], 0⟩) (fun k => k ≤ s.length ∧ (s.take k).all nameB = true) (fun k => s.length - k) 0 ⟨by omega, rfl⟩ ?_ ?_
 ·simp -implicitDefEqProofs only [rX,↓reduceIte,reduceCtorEq,leE,leH,keepP,wfE,wfB,wfV,yF]
 rintro k ⟨hk, hv⟩
 unfold c33l0
 simp -implicitDefEqProofs only [rX,↓rY,ofConst,↓reduceIte,Nat.reduceEqDiff,reduceCtorEq,resP,tupV,leE,leH,keepP,wfE,wfB,wfV,sb_size,sb_get]
 simp only [br, yE, decide_eq_true_eq, decide_eq_false_iff_not]
 refine ⟨fun h => ⟨by omega, ?_⟩, fun h => ?_⟩
 ·have hk : k < s.length := by omega
  have htk : s.take (k + 1) = s.take k ++ [s[k]] := by rw [yX, yD hk]; rfl
  rw [yD hk, zy]
  have hF : nameB s[k] = false → false = wordP nameB s := fun hb => by
   have : s.all nameB = false := by
    rw [vS]
    exact ⟨s[k], yC hk, by simp [hb]⟩
   simp [wordP, this]
  have hT : nameB s[k] = true → (lo IntKind.i64 ≤ (k : Int) + 1 ∧ (k : Int) + 1 ≤ hi IntKind.i64) ∧ ∃ g' : Nat, ((g' ≤ s.length ∧ (s.take g').all nameB = true) ∧ s.length - g' < s.length - k) ∧ (k : Int) + 1 = g' := fun hb =>
   ⟨by simp only [lo, hi, maxLen] at *; omega, k + 1, ⟨⟨by omega, by rw [htk, vR, hv]; simp [hb]⟩, by omega⟩, by simp⟩
  have e45 : (((s[k].toNat : Int) == 45) : Bool) = decide (s[k].toNat = 45) := by rw [yR]; simp; omega
  simp only [e45, yV, vU, decide_eq_true_eq, decide_eq_false_iff_not]
  have hF' : ¬((97 ≤ s[k].toNat ∧ s[k].toNat ≤ 122 ∨ 48 ≤ s[k].toNat ∧ s[k].toNat ≤ 57) ∨ s[k].toNat = 45) → false = wordP nameB s := fun h => hF (by rw [Bool.eq_false_iff]; simpa only [nameB, ne_eq, Bool.or_eq_true, decide_eq_true_eq] using h)
  have hT' := fun h : (97 ≤ s[k].toNat ∧ s[k].toNat ≤ 122 ∨ 48 ≤ s[k].toNat ∧ s[k].toNat ≤ 57) ∨ s[k].toNat = 45 => hT (by simpa only [nameB, Bool.or_eq_true, decide_eq_true_eq] using h)
  refine ⟨fun a => ⟨fun b => hT' (by omega), fun b => ⟨fun c => ⟨fun d => hT' (by omega), fun d => ⟨fun e => hF' (by omega), fun e => hT' (by omega)⟩⟩, fun c => ⟨fun e => hF' (by omega), fun e => hT' (by omega)⟩⟩⟩, fun a => ⟨fun c => ⟨fun d => hT' (by omega), fun d => ⟨fun e => hF' (by omega), fun e => hT' (by omega)⟩⟩, fun c => ⟨fun e => hF' (by omega), fun e => hT' (by omega)⟩⟩⟩
 ·have hks : s.take k = s := yO (by omega)
  rw [hks] at hv
  simp only [br, decide_eq_true_eq, decide_eq_false_iff_not, wordP, hv, vT]
  refine ⟨fun h1 => ?_, fun h1 => ?_⟩ <;> rw [yR] <;> simp <;> omega
theorem ok35 (s : S) (hm : s.length ≤ maxLen) : Ok 35 [sv s] (Is (.b (wordP valB s))) := by
 refine ok_of lw35 (by simp) ?_
 unfold c35
 simp -implicitDefEqProofs only [rX,ofConst,cxN,args0]
 refine loopP_intro (fun k : Nat => ⟨[(3, .i k), (0, sv s)], [], 0⟩) (fun k => k ≤ s.length ∧ (s.take k).all valB = true) (fun k => s.length - k) 0 ⟨by omega, rfl⟩ ?_ ?_
 ·simp -implicitDefEqProofs only [rX,↓reduceIte,reduceCtorEq,leE,leH,keepP,wfE,wfB,wfV,yF]
 rintro k ⟨hk, hv⟩
 unfold c35l0
 simp -implicitDefEqProofs only [rX,↓rY,ofConst,↓reduceIte,Nat.reduceEqDiff,reduceCtorEq,resP,tupV,leE,leH,keepP,wfE,wfB,wfV,sb_size,sb_get]
 simp only [br, yE, decide_eq_true_eq, decide_eq_false_iff_not]
 refine ⟨fun h => ⟨by omega, ?_⟩, fun h => ?_⟩
 ·have hk : k < s.length := by omega
  have htk : s.take (k + 1) = s.take k ++ [s[k]] := by rw [yX, yD hk]; rfl
  rw [yD hk, zy]
  have hF : valB s[k] = false → false = wordP valB s := fun hb => by
   have : s.all valB = false := by
    rw [vS]
    exact ⟨s[k], yC hk, by simp [hb]⟩
   simp [wordP, this]
  refine ⟨fun h1 => hF (by simp only [valB, decide_eq_false_iff_not]; omega), fun h1 => ⟨by omega, ?_⟩⟩
  rw [zy]
  refine ⟨fun h2 => hF (by simp only [valB, decide_eq_false_iff_not]; omega), fun h2 => ?_⟩
  have hb : valB s[k] = true := by simp only [valB, decide_eq_true_eq]; omega
  exact ⟨by simp only [lo, hi, maxLen] at *; omega, k + 1, ⟨⟨by omega, by rw [htk, vR, hv]; simp [hb]⟩, by omega⟩, by simp⟩
 ·have hks : s.take k = s := yO (by omega)
  rw [hks] at hv
  simp only [br, decide_eq_true_eq, decide_eq_false_iff_not, wordP, hv, vT]
  refine ⟨fun h1 => ?_, fun h1 => ?_⟩ <;> rw [yR] <;> simp <;> omega
theorem ok34 (l : List Vary) (s : S) : Ok 34 [vs l, sv s] (Is (.i (idxI (fun v : Vary => v.h == s) l))) := by
 refine ok_of lw34 (by simp) ?_
 unfold c34 vs
 simp -implicitDefEqProofs only [rX,ofConst,cxN,args0]
 refine loopP_intro (fun k : Nat => ⟨[(5, .i k), (1, sv s), (0, vs l)], [], 0⟩) (fun k => k ≤ l.length ∧ NF (fun v => v.h == s) l k) (fun k => l.length - k) 0 ⟨by omega, .zero⟩ ?_ ?_
 ·simp -implicitDefEqProofs only [rX,↓reduceIte,Nat.reduceEqDiff,reduceCtorEq,leE,leH,keepP,wfE,wfB,wfV,yF,vs]
 rintro k ⟨hk, hv⟩
 unfold c34l0 vs
 simp -implicitDefEqProofs only [rX,↓rY,ofConst,↓reduceIte,Nat.reduceEqDiff,reduceCtorEq,resP,tupV,leE,leH,keepP,wfE,wfB,wfV,sb_list,vr_0]
 simp only [br, yE, decide_eq_true_eq, decide_eq_false_iff_not]
 intro hm
 refine ⟨fun h => ⟨⟨by omega, h⟩, by omega, fun h2 => ?_, fun h2 => ⟨by simp only [lo, hi, maxLen] at *; omega, k + 1, ⟨⟨by omega, hv.step (by omega) h2⟩, by omega⟩, by simp⟩⟩, fun h => ?_⟩
 ·exact (hv.at (p := fun v : Vary => v.h == s) (by omega) h2).symm
 ·exact (hv.no (by omega)).symm
theorem ok23 (l : List S) (s : S) : Ok 23 [ss l, sv s] (Is (.b (l.any (s == ·)))) := by
 refine ok_of lw23 (by simp) ?_
 unfold c23 ss
 simp -implicitDefEqProofs only [rX,ofConst,cxN,args0]
 refine loopP_intro (fun k : Nat => ⟨[(5, .i k), (1, sv s), (0, ss l)], [], 0⟩) (fun k => k ≤ l.length ∧ NF (s == ·) l k) (fun k => l.length - k) 0 ⟨by omega, .zero⟩ ?_ ?_
 ·simp -implicitDefEqProofs only [rX,↓reduceIte,Nat.reduceEqDiff,reduceCtorEq,leE,leH,keepP,wfE,wfB,wfV,yF,ss]
 rintro k ⟨hk, hv⟩
 unfold c23l0 ss
 simp -implicitDefEqProofs only [rX,↓rY,ofConst,↓reduceIte,Nat.reduceEqDiff,reduceCtorEq,resP,tupV,leE,leH,keepP,wfE,wfB,wfV,sb_list,encS_0]
 simp only [br, yE, decide_eq_true_eq, decide_eq_false_iff_not]
 intro hm
 refine ⟨fun h => ⟨⟨by omega, h⟩, by omega, fun h2 => ?_, fun h2 => ⟨by simp only [lo, hi, maxLen] at *; omega, k + 1, ⟨⟨by omega, hv.step (by omega) (by rw [Bool.beq_comm]; exact h2)⟩, by omega⟩, by simp⟩⟩, fun h => ?_⟩
 ·exact (yU.2 ⟨l[k]'(by omega), yC _, by rw [Bool.beq_comm]; exact h2⟩).symm
 ·exact (hv.any (by omega)).symm
set_option maxRecDepth 20000
theorem of_lt {l : List Vary} {k : Nat} (hk : k < l.length) : (idxI (fun v : Vary => v.h == l[k].h) l < (k : Int)) ↔ (l.take k).any (fun v => v.h == l[k].h) = true := by
 cases ha : (l.take k).any (fun v => v.h == l[k].h) with
 | false =>
  have hn : NF (fun v : Vary => v.h == l[k].h) l k := ⟨fun j hj h2 => by
   rw [vI] at ha
   have := ha l[j] (uE.2 ⟨j, by omega, rfl⟩)
   simpa using this⟩
  rw [hn.at hk (beq_self_eq_true _)]
  simp
 | true =>
  rw [yU] at ha
  obtain ⟨x, hx, hp⟩ := ha
  obtain ⟨j, hj, rfl⟩ := uE.1 hx
  have hj' : j < k ∧ j < l.length := by omega
  have hany : l.any (fun v => v.h == l[k].h) = true := yU.2 ⟨l[j]'hj'.2, yC _, hp⟩
  have : idxI (fun v : Vary => v.h == l[k].h) l = ((l.findIdx (fun v : Vary => v.h == l[k].h) : Nat) : Int) := by
   rw [idxI, if_pos hany]
  rw [this]
  have h3 : l.findIdx (fun v : Vary => v.h == l[k].h) ≤ j := by
   rcases Nat.lt_or_ge j (l.findIdx (fun v : Vary => v.h == l[k].h)) with h | h
   ·have := List.not_of_lt_findIdx h
    simp [hp] at this
   ·exact h
  simp; omega
theorem ok11 (l : List Vary) (hl : ∀ v ∈ l, v.Ok) : Ok 11 [vs l] (Is (.i (chk l))) := by
 refine ok_of lw11 (by simp) ?_
 unfold c11 vs
 simp -implicitDefEqProofs only [rX,↓rY,ofConst,↓reduceIte,reduceCtorEq,resP,tupV,wfV,cxN,args0]
 intro hm
 simp only [br, decide_eq_true_eq, decide_eq_false_iff_not]
 refine ⟨fun h1 => ?_, fun h1 => ?_⟩
 ·have : big l = true := by rw [big, decide_eq_true (show 8 < l.length by omega)]; rfl
  rw [chk, if_pos this]
 have h8 : decide (8 < l.length) = false := decide_eq_false (by omega)
 refine loopP_intro (fun k : Nat => ⟨[(3, .i k), (0, vs l)], [], 0⟩) (fun k => k ≤ l.length ∧ NF (fun v : Vary => decide (16 < v.vals.length)) l k) (fun k => l.length - k) 0 ⟨by omega, .zero⟩ ?_ ?_
 ·simp -implicitDefEqProofs only [rX,↓reduceIte,reduceCtorEq,leE,leH,keepP,wfE,wfB,wfV,yF,vs]
 rintro k ⟨hk, hv⟩
 unfold c11l0 vs
 simp -implicitDefEqProofs only [rX,↓rY,ofConst,↓reduceIte,Nat.reduceEqDiff,reduceCtorEq,resP,tupV,leE,leH,keepP,wfE,wfB,wfV,vr_1]
 simp only [br, yE, decide_eq_true_eq, decide_eq_false_iff_not]
 refine fun _ => ⟨fun h => ⟨⟨by omega, h⟩, by omega, fun _ => ⟨fun h2 => ?_, fun h2 => ⟨by simp only [lo, hi, maxLen] at *; omega, k + 1, ⟨⟨by omega, hv.step (by omega) (decide_eq_false (by omega))⟩, by omega⟩, by simp⟩⟩⟩, fun h => ?_⟩
 ·have : big l = true := by
   have ha : l.any (fun v => decide (16 < v.vals.length)) = true := yU.2 ⟨l[k]'(by omega), yC _, decide_eq_true (by omega)⟩
   rw [big, ha, vV]
  rw [chk, if_pos this]
 have hbig : big l = false := by rw [big, hv.any (by omega), h8]; rfl
 have hc : chk l = firstE l := by rw [chk, hbig]; rfl
 rw [hc]
 clear hv hk h
 refine loopP_intro (fun k : Nat => ⟨[(4, .i k), (0, vs l)], [], 0⟩) (fun k => k ≤ l.length ∧ CI l k) (fun k => l.length - k) 0 ⟨by omega, ⟨fun j hj => absurd hj (yZ _)⟩⟩ ?_ ?_
 ·simp -implicitDefEqProofs only [rX,↓reduceIte,reduceCtorEq,leE,leH,keepP,wfE,wfB,wfV,yF,vs]
 rintro k ⟨hk, hv⟩
 unfold c11l1 vs
 simp -implicitDefEqProofs only [rX,↓rY,ofConst,cells?,splice,↓reduceIte,Nat.reduceEqDiff,Nat.reduceAdd,reduceCtorEq,freshP,resP,tupV,wfV,vr_len,vr_t,vr_0,vr_C,k_nil]
 simp only [br, yE, decide_eq_true_eq, decide_eq_false_iff_not]
 refine fun _ => ⟨fun h => ⟨⟨by omega, h⟩, by omega, ?_⟩, fun h => ?_⟩
 ·have hk : k < l.length := by omega
  have hg : errAt l k = vErr l[k] (l.take k) := by
   rw [errAt, yM, yD hk]; rfl
  have hvo := hl _ (yC hk)
  refine call_is (ok33 l[k].h hvo.h) ⟨⟨trivial, trivial⟩, rfl, trivial⟩ rfl trivial ?_
  simp -implicitDefEqProofs only [rX,↓rY,ofConst,↓reduceIte,Nat.reduceEqDiff,reduceCtorEq,resP,tupV,wfV,vr_0]
  cases hn : wordP nameB l[k].h with
  | false =>
   simp -implicitDefEqProofs only [rX,↓rY]
   have he : errAt l k = 1 := by rw [hg, vErr, if_pos hn]
   rw [hv.at hk (by rw [he]; decide), he]
  | true =>
  simp -implicitDefEqProofs only [rX,↓rY]
  refine call_is (ok34 l l[k].h) ⟨⟨trivial, trivial, trivial⟩, ⟨rfl, rfl⟩, rfl, trivial⟩ rfl trivial ?_
  simp -implicitDefEqProofs only [rX,↓rY,ofConst,↓reduceIte,Nat.reduceEqDiff,resP,tupV,wfV]
  simp only [br, decide_eq_true_eq, decide_eq_false_iff_not, of_lt hk]
  refine ⟨fun ho => ?_, fun ho => ?_⟩
  ·have he : errAt l k = 6 := by rw [hg, vErr, if_neg (by rw [hn]; decide), if_pos ho]
   rw [hv.at hk (by rw [he]; decide), he]
  have ho : (l.take k).any (fun v => v.h == l[k].h) = false := by simpa using ho
  have hg2 : errAt l k = if (!(l[k].d == []) && !l[k].vals.any (l[k].d == ·)) || !valsB l[k].vals then 1 else 0 := by
   rw [hg, vErr, if_neg (by rw [hn]; decide), if_neg (by rw [ho]; decide)]
  generalize hw : l[k] = v at hvo hg2 hn ho
  have e0 : errAt l k ≠ 0 → firstE l = errAt l k := fun he => hv.at hk he
  refine loopP_intro (fun j : Nat => ⟨[(7, .i j), (5, .ptr 0 0 0), (4, .i k), (0, vs l)], [.var v.enc], 0⟩) (fun j => j ≤ v.vals.length ∧ VI v.vals j) (fun j => v.vals.length - j) 0 ⟨by omega, ⟨fun j hj => absurd hj (yZ _)⟩⟩ ?_ ?_
  ·simp -implicitDefEqProofs only [rX,↓reduceIte,Nat.reduceEqDiff,reduceCtorEq,leE,leH,leB,keepP,liveP,wfE,wfB,wfV,vr_le,vr_wf,yF,vs]
  rintro j ⟨hj, hvi⟩
  unfold c11l2 vs
  simp -implicitDefEqProofs only [rX,↓rY,ofConst,↓reduceIte,Nat.reduceEqDiff,reduceCtorEq,leE,leH,keepP,wfE,wfB,wfV,sb_size,encS_0,vr_1,vr_2]
  simp only [br, yE, decide_eq_true_eq, decide_eq_false_iff_not]
  refine fun hm2 => ⟨fun h => ⟨⟨by omega, h⟩, by omega, ?_⟩, fun h => ?_⟩
  ·have hj : j < v.vals.length := by omega
   refine call_is (ok35 v.vals[j] (hvo.vals _ (yC hj))) ⟨⟨trivial, trivial⟩, rfl, trivial⟩ rfl trivial ?_
   simp -implicitDefEqProofs only [rX,↓rY,ofConst,↓reduceIte,Nat.reduceEqDiff,reduceCtorEq,resP,tupV,leE,leH,leB,keepP,liveP,wfE,wfB,wfV,sb_list,less,encS_0,vr_1,vr_le,vr_wf]
   have hvb := vb_of hm2 hj (A := (1 : Int) = firstE l) (B := (lo IntKind.i64 ≤ (j : Int) + 1 ∧ (j : Int) + 1 ≤ hi IntKind.i64) ∧ ∃ g' : Nat, ((g' ≤ v.vals.length ∧ VI v.vals g') ∧ v.vals.length - g' < v.vals.length - j) ∧ (j : Int) + 1 = g') (fun hb => ?_) fun hb => ⟨by simp only [lo, hi, maxLen] at *; omega, j + 1, ⟨⟨by omega, hvi.step hb⟩, by omega⟩, by simp⟩
   ·refine ⟨fun a => hvb.1 a, fun a => ⟨fun b => ?_, fun b => (hvb.2 a).2 b⟩⟩
    obtain ⟨q1, q2, q3, q4⟩ := (hvb.2 a).1 b
    exact ⟨⟨by omega, h⟩, by omega, q1, q2, q3, q4⟩
   ·have he : errAt l k = 1 := by rw [hg2, VI.no hj hb, Bool.not_false, vV]; rfl
    rw [e0 (by rw [he]; decide), he]
  ·have hva := hvi.all (by omega)
   refine ⟨fun hd => ?_, fun hd => ?_⟩
   ·have hd' : (v.d == []) = false := by
     rw [beq_eq_false_iff_ne]; intro h0; rw [h0] at hd; simp at hd
    refine call_is (ok23 v.vals v.d) ⟨⟨trivial, trivial, trivial⟩, ⟨rfl, rfl⟩, rfl, trivial⟩ rfl trivial ?_
    simp -implicitDefEqProofs only [rX,↓rY,ofConst,↓reduceIte,Nat.reduceEqDiff,reduceCtorEq,resP,tupV,leE,leH,keepP,wfE,wfB,wfV]
    cases ha : v.vals.any (v.d == ·) with
    | false =>
     simp -implicitDefEqProofs only [rX,↓rY]
     have he : errAt l k = 1 := by rw [hg2, hd', ha]; rfl
     rw [e0 (by rw [he]; decide), he]
    | true =>
     simp -implicitDefEqProofs only [rX,↓rY]
     have he : errAt l k = 0 := by rw [hg2, hd', ha, hva]; rfl
     exact ⟨by simp only [lo, hi, maxLen] at *; omega, k + 1, ⟨⟨by omega, hv.step he⟩, by omega⟩, by simp⟩
   ·have hd' : (v.d == []) = true := by
     rw [beq_iff_eq]; exact vQ.1 (by omega)
    have he : errAt l k = 0 := by rw [hg2, hd', hva]; rfl
    exact ⟨by simp only [lo, hi, maxLen] at *; omega, k + 1, ⟨⟨by omega, hv.step he⟩, by omega⟩, by simp⟩
 ·exact (hv.end (by omega)).symm
set_option maxRecDepth 20000
abbrev Sane : Prop := Ok 9 [] (Is (.b true))
theorem s9 (hs : Sane) {cx : Cx} {e : Env} {h : List Blk} {b : Nat} {K : V → St → Prop} : cx.C = C0 Try.prog → cx.fx = [] → K (.b true) ⟨e, h, b⟩ → callP cx 9 [] ⟨e, h, b⟩ K := by
 intro hc hf hk
 exact call_is (by rw [hc]; exact hs) (by simp [lendsOk, lends, wkL]) rfl (by rw [hf]; trivial) hk
theorem ok3 (hs : Sane) (l : List Vary) (hl : ∀ v ∈ l, v.Ok) : Ok 3 [vs l] (Is (.b true)) := by
 refine ok_of lw3 (by simp) ?_
 unfold c3 vs
 simp -implicitDefEqProofs only [rX,↓rY,ofConst,↓reduceIte,reduceCtorEq,cxN,args0]
 intro hm
 simp only [br, decide_eq_true_eq, decide_eq_false_iff_not]
 refine ⟨fun h1 => s9 hs rfl rfl ?_, fun h1 => ?_⟩
 ·simp -implicitDefEqProofs only [rX,↓reduceIte,resP,tupV,wfV]
 refine loopP_intro (fun k : Nat => ⟨[(3, .i k), (0, vs l)], [], 0⟩) (fun k => k ≤ l.length) (fun k => l.length - k) 0 (yT _) ?_ ?_
 ·simp -implicitDefEqProofs only [rX,↓reduceIte,reduceCtorEq,leE,leH,keepP,wfE,wfB,wfV,yF,vs]
 rintro k hk
 unfold c3l0 vs
 simp -implicitDefEqProofs only [rX,↓rY,ofConst,↓reduceIte,Nat.reduceEqDiff,reduceCtorEq,leE,leH,keepP,wfE,wfB,wfV,vr_1]
 simp only [br, yE, decide_eq_true_eq, decide_eq_false_iff_not]
 refine fun _ => ⟨fun h => ⟨⟨by omega, h⟩, by omega, fun _ => ⟨fun h2 => s9 hs rfl rfl ?_, fun h2 => ⟨by simp only [lo, hi, maxLen] at *; omega, k + 1, ⟨by omega, by omega⟩, by simp⟩⟩⟩, fun h => s9 hs rfl rfl ?_⟩
 ·simp -implicitDefEqProofs only [rX,↓reduceIte,resP,tupV,wfV]
 simp -implicitDefEqProofs only [rX,↓rY,↓reduceIte,Nat.reduceEqDiff,reduceCtorEq]
 refine call_is (ok10 l hl) ⟨⟨trivial, trivial⟩, ⟨rfl, rfl⟩, trivial⟩ rfl trivial ?_
 simp -implicitDefEqProofs only [rX,↓rY,↓reduceIte,Nat.reduceEqDiff,reduceCtorEq]
 refine call_is (ok11 l hl) ⟨⟨trivial, trivial⟩, ⟨rfl, rfl⟩, trivial⟩ rfl trivial ?_
 simp -implicitDefEqProofs only [rX,↓rY,↓reduceIte,Nat.reduceEqDiff,resP,tupV,wfV]
 simp
set_option maxRecDepth 20000
def chs (v : Vary) : List S := if v.d = [] then [] :: v.vals else v.vals
theorem ok41 (v : Vary) (hl : v.vals.length ≤ 16) : Ok 41 [.agg v.enc] (Is (ss (chs v))) := by
 refine ⟨rlF_callable lw41, Fn_give (R := fun q hs => wk (ss (chs v)) (gvV (fun _ => true) hs q)) ?_ fun _ _ h => h⟩
 refine (ok_of lw41 (by simp) ?_).2
 unfold c41
 simp -implicitDefEqProofs only [rX,↓rY,ofConst,cells?,↓reduceIte,Nat.reduceEqDiff,reduceCtorEq,freshP,litsP,killE,killB,kill,St.kill,isD,Nat.reduceLT,cxN,sb_list,vr_1,vr_2,k_nil,args0]
 simp only [br, beq_iff_eq, beq_eq_false_iff_ne, ne_eq]
 refine ⟨fun h => ⟨.inr trivial, by omega, ?_⟩, fun h => ?_⟩
 ·rw [retP_eq]
  simp -implicitDefEqProofs only [rX,↓reduceIte,resP,tupV,keepP,liveP,wfV]
  refine ⟨[.dead, .arr 1 ([sv []] :: v.vals.map encS)], ⟨by simp [leH, leB], by simp [wfV, wfL, liveP], by simp [wfB]⟩, ?_⟩
  have : yS (1 + v.vals.length) ([sv []] :: v.vals.map encS) = [sv []] :: v.vals.map encS := yO (by simp; omega)
  simp [gvV, gvL, wk, wkL, wkR, blk, ss, chs, h, this, encS]
  rw [if_pos (by omega)]
  exact ⟨rfl, rfl⟩
 ·rw [retP_eq]
  simp -implicitDefEqProofs only [rX,↓reduceIte,resP,tupV,keepP,wfV]
  refine ⟨[], ⟨by simp [leH], by simp, by simp [wfB]⟩, ?_⟩
  simp [gvV, gvL, wk, wkL, wkR, blk, ss, chs, h]
end Go.Fx.W
namespace Go.Fx.W
open Go Go.Fx Go.Proofs Go.RowKit
set_option maxRecDepth 20000
theorem ok58A (l : List S) (sep : S) (hl : l.length ≤ 140737488355328) (hj : (Lib.join l sep).length ≤ 140737488355328) : OkN Try.prog 58 [.sl 0 0 l.length, sv sep] [.arr 1 (l.map encS)] [] (IsA (sv (Lib.join l sep)) [.arr 1 (l.map encS)]) := by
 refine ⟨cal Try.func58 (by kernel_rfl) (by kernel_rfl), ?_⟩
 intro ρ X w vals hr ha
 match vals, ha with
 | [val, v2], ⟨hv, hv2, _⟩ =>
 have : v2 = .string (sb sep) := hv2
 subst this
 obtain ⟨cap, h1, h2, h3⟩ := hv
 rcases h3 with ⟨h4, a, rfl⟩ | ⟨hre, rfl, hroom⟩
 ·have hl0 : l = [] := vQ.1 (by omega)
  subst hl0
  refine (Try.strings_Join_none a 0 (sb sep) w).mono ?_
  rintro e w' ⟨rfl, rfl⟩
  exact ⟨_, sv [], [.arr 1 []], ρ, rfl, ⟨⟨rfl, rfl⟩, yG _⟩, Fr.refl _ _, hr, rfl, fun _ _ _ => rfl⟩
 ·have hb := hr.blk 0 _ rfl
  obtain ⟨⟨hsz, _⟩, hb | ⟨_, c, T, hc, hcs, hlen, hels⟩⟩ := hb
  ·rw [hb.1] at hre; cases hre
  have hoff : (ρ 0).off + 0 * (ρ 0).sz = (ρ 0).off := by omega
  rw [hoff]
  have hg := fun j hj => repEls_s hels j hj
  have hbl := hr.lt 0 hre
  have hmap : (l.map sb).map (·.data.toList) = l := by rw [List.map_map]; exact List.map_id'' (fun _ => rfl) l
  have hJ := Try.strings_Join (ρ 0).blk (ρ 0).off cap (l.map sb) (sb sep) w (fun j x hx => by
   rw [vJ] at hx
   obtain ⟨y, hy, rfl⟩ := yL.1 hx
   obtain ⟨hlt, rfl⟩ := vW.1 hy
   exact hg j hlt) hbl (by simpa using hl) (by simpa using h1) (by rw [hmap]; exact hj)
  rw [hmap, yW] at hJ
  refine hJ.mono ?_
  rintro e w' ⟨rfl, hB⟩
  refine ⟨_, sv (Lib.join l sep), [.arr 1 (l.map encS)], ρ, rfl, ⟨⟨rfl, rfl⟩, yG _⟩, ⟨hB.os, hB.tape, hB.output, hB.size, fun b hb ho => ⟨hB.block b hb, ho⟩⟩, ⟨hr.inj, hr.out, fun k b hk => ?_, hr.disj, fun k hk => yY (hr.lt k hk) hB.size, fun b hb => yY (hr.xlt b hb) hB.size⟩, rfl, fun _ _ _ => rfl⟩
  cases k with
  | succ k => simp at hk
  | zero =>
   simp only [vH, yA] at hk
   subst hk
   refine ⟨⟨hsz, by omega⟩, .inr ⟨hre, c, T, (hB.block _ hbl).trans hc, hcs, hlen, repEls_os fun j hj => ?_⟩⟩
   rw [hB.cell (p := ⟨(ρ 0).blk, (ρ 0).off + j, none⟩) hbl]
   exact hg j hj
def partS (v : Vary) (x : S) : S := v.h ++ [61] ++ esc x
def partsL (l : List Vary) (xs : List S) : List S := (yP l.length).map fun k => partS (l.getD k default) (xs.getD k [])
def keyL (l : List Vary) (xs : List S) : S := Lib.join (partsL l xs) [38]
structure Small (l : List Vary) (xs : List S) : Prop where
 n : l.length ≤ 8
 e : xs.length = l.length
 h : ∀ v ∈ l, v.h.length ≤ 64
 x : ∀ x ∈ xs, x.length ≤ 64
def fillS (P : List S) (k : Nat) : List S := P.take k ++ yH (P.length - k) []
theorem fillS_len {P : List S} {k : Nat} (hk : k ≤ P.length) : (fillS P k).length = P.length := by simp [fillS]; omega
theorem fillS_0 {P : List S} : fillS P 0 = yH P.length [] := by simp [fillS]
theorem fillS_all {P : List S} : fillS P P.length = P := by simp [fillS]
theorem fillS_set {P : List S} {k : Nat} (hk : k < P.length) : (fillS P k).set k P[k] = fillS P (k + 1) := by
 unfold fillS
 have h1 : (P.take k).length = k := by simp; omega
 rw [List.set_append_right _ _ (by omega), h1, Nat.sub_self, show P.length - k = (P.length - (k + 1)) + 1 by omega, uF, List.set_cons_zero, yX, yD hk]
 simp only [Option.toList_some, List.append_assoc, List.singleton_append]
theorem partsL_get {l : List Vary} {xs : List S} {k : Nat} (hk : k < l.length) (hx : k < xs.length) (h : k < (partsL l xs).length) : (partsL l xs)[k] = partS l[k] xs[k] := by
 simp only [partsL, List.getElem_map, List.getElem_range, yM, yD hk, yD hx, Option.getD_some]
theorem joinTail_len {sep : S} : ∀ {r : List S} {M : Nat}, (∀ x ∈ r, x.length ≤ M) → (Lib.joinTail sep r).length ≤ r.length * (sep.length + M)
 | [], _, _ => by simp [Lib.joinTail]
 | x :: r, M, h => by
  have h1 := h x List.mem_cons_self
  have h2 := joinTail_len (sep := sep) (r := r) (M := M) fun y hy => h y (vK _ hy)
  simp only [Lib.joinTail, vO, List.flatten_cons, yI, yN] at h2 ⊢
  rw [vX]
  omega
theorem join_len {sep : S} {r : List S} {M : Nat} (h : ∀ x ∈ r, x.length ≤ M) : (Lib.join r sep).length ≤ r.length * (sep.length + M) := by
 cases r with
 | nil => simp [Lib.join_nil]
 | cons x r =>
  rw [Lib.join_cons]
  have h1 := h x List.mem_cons_self
  have h2 := joinTail_len (sep := sep) (r := r) (M := M) fun y hy => h y (vK _ hy)
  rw [yI, yN, vX]
  omega
theorem partsL_len {l : List Vary} {xs : List S} : (partsL l xs).length = l.length := by simp [partsL]
theorem ok37 (l : List Vary) (xs : List S) (h : Small l xs) : Ok 37 [vs l, .bro 1 (xs.map encS)] (Is (sv (keyL l xs))) := by
 refine ok_of lw37 (by simp) ?_
 unfold c37 vs
 simp -implicitDefEqProofs only [rX,↓rY,ofConst,↓reduceIte,reduceCtorEq,freshP,cxN,k_nil,k_amp,args0]
 have hn := h.n
 refine fun hm => ⟨⟨by omega, by omega, by omega⟩, fun _ => ?_⟩
 have hP : (partsL l xs).length = l.length := partsL_len
 refine loopP_intro (fun k : Nat => ⟨[(13, .i k), (12, .i l.length), (11, vs l), (5, .sl 0 0 l.length), (0, vs l), (1, .bro 1 (xs.map encS))], [.arr 1 ((fillS (partsL l xs) k).map encS)], 0⟩) (fun k => k ≤ l.length) (fun k => l.length - k) 0 (yT _) ?_ ?_
 ·rw [fillS_0, hP]
  simp -implicitDefEqProofs only [rX,↓reduceIte,Nat.reduceEqDiff,reduceCtorEq,leE,leH,leB,keepP,liveP,wfE,wfB,wfV,yF,vs,List.map_replicate]
  simp [encS]
 rintro k hk
 have hF : (fillS (partsL l xs) k).length = l.length := (fillS_len (by omega)).trans hP
 unfold c37l0 vs
 simp -implicitDefEqProofs only [rX,↓rY,rdK,ofConst,cells?,splice,↓reduceIte,Nat.reduceEqDiff,Nat.reduceAdd,reduceCtorEq,freshP,Nat.reduceLeDiff,sb_size,sb_app,encS_0,vr_len,vr_t,vr_0,vr_C,k_nil,k_eq]
 simp only [br, yE, decide_eq_true_eq, decide_eq_false_iff_not]
 refine ⟨fun hlt => ?_, fun hlt => ?_⟩
 ·have hkl : k < l.length := by omega
  have hkx : k < xs.length := by rw [h.e]; exact hkl
  have hh := h.h _ (yC hkl)
  have hx := h.x _ (yC hkx)
  have hE := esc_len xs[k]
  refine ⟨⟨by omega, hlt⟩, hkl, by omega, ⟨by omega, by omega⟩, hkx, ?_⟩
  refine call_is (ok43 xs[k] (by omega)) ⟨⟨trivial, trivial⟩, rfl, trivial⟩ rfl trivial ?_
  simp -implicitDefEqProofs only [rX,↓rY,ofConst,cells?,splice,↓reduceIte,Nat.reduceEqDiff,arrSz,Nat.reduceAdd,reduceCtorEq,leE,leH,leB,keepP,liveP,wfE,wfB,wfV,isD,isC,sb_size,sb_app,hF]
  have hset : ((fillS (partsL l xs) k).map encS).set k [V.v (Value.string (sb (l[k].h ++ [61] ++ esc xs[k])))] = (fillS (partsL l xs) (k + 1)).map encS := by
   have h1 : k < (partsL l xs).length := by omega
   rw [← fillS_set h1, List.map_set, partsL_get hkl hkx h1]; rfl
  have hd : ∀ x : S, List.drop 1 (encS x) = [] := fun _ => rfl
  refine ⟨by omega, ⟨by omega, hlt⟩, by omega, ⟨by simp only [lo]; omega, by simp only [hi]; omega⟩, k + 1, ⟨by omega, by omega⟩, by simp, ?_⟩
  rw [hd, hset]
 ·have hkl : k = l.length := by omega
  subst hkl
  have hfa : fillS (partsL l xs) l.length = partsL l xs := by
   have := fillS_all (P := partsL l xs)
   rwa [hP] at this
  rw [hfa]
  have hjl : (Lib.join (partsL l xs) [38]).length ≤ 140737488355328 := by
   have h1 := join_len (sep := [38]) (r := partsL l xs) (M := 300) fun y hy => by
    obtain ⟨j, hj, rfl⟩ := uD hy
    have hj' : j < l.length := by omega
    have hjx : j < xs.length := by rw [h.e]; exact hj'
    rw [partsL_get hj' hjx hj]
    have g1 := h.h _ (yC hj')
    have g2 := h.x _ (yC hjx)
    have g3 := esc_len xs[j]
    simp only [partS, yI, yN, vC]
    omega
   rw [hP] at h1
   have h2 : l.length * ((([38] : S)).length + 300) ≤ 8 * ((([38] : S)).length + 300) := Nat.mul_le_mul_right _ hn
   simp only [yN, vC] at h2 h1
   omega
  have h58 := ok58A (partsL l xs) [38] (by omega) hjl
  rw [hP] at h58
  refine call_isN [0] [.sl 0 0 l.length, sv [38]] (sv (keyL l xs)) (sv (keyL l xs)) [.arr 1 ((partsL l xs).map encS)] [.arr 1 ((partsL l xs).map encS)] _ h58 ⟨by simp, by simp⟩ rfl ?_ (by simp) rfl rfl ?_ ?_
  ·simp [lendsOk, lendOk, lends, lend, wkL, wk, wkR, pos]
  ·simp [setAll, keepP, liveP, renB]
  simp -implicitDefEqProofs only [rX,↓reduceIte,resP,tupV,wfV,setAll,renB]
set_option maxRecDepth 20000
def keysF (l : List Vary) : Nat → List S → List S
 | 0, xs => [keyL l xs]
 | n + 1, xs => (chs (l.getD xs.length default)).flatMap fun x => keysF l n (xs ++ [x])
structure Fits (l : List Vary) : Prop where
 n : l.length ≤ 8
 h : ∀ v ∈ l, v.h.length ≤ 64
 v : ∀ v ∈ l, v.vals.length ≤ 16
 x : ∀ v ∈ l, ∀ x ∈ chs v, x.length ≤ 64
def hA (l : List Vary) (out : List S) : List Blk := [.var [vs l], .var [.sl 3 0 out.length], .var [.clo 49 [.ptr 0 0 0, .ptr 1 0 0, .ptr 2 0 0]], .arr 1 (out.map encS)]
theorem slc_fullB {h : List Blk} {K : V → Prop} {l : List S} : slcP h 1 (.bro 1 (l.map encS)) none (some (l.length : Int)) (some (l.length : Int)) K = K (.full 1 (l.map encS)) := by
 have h1 : slcP h 1 (.bro 1 (l.map encS)) none (some (l.length : Int)) (some (l.length : Int)) K = (1 = 1 ∧ slcOk (l.map encS).length none (some (l.length : Int)) (some (l.length : Int)) ∧ K (broF 1 (some (l.length : Int)) (some (l.length : Int)) (l.map encS).length (((l.map encS).drop 0).take ((l.length : Int).toNat - 0)))) := rfl
 rw [h1]
 have h2 : broF 1 (some (l.length : Int)) (some (l.length : Int)) (l.map encS).length (((l.map encS).drop 0).take ((l.length : Int).toNat - 0)) = .full 1 (l.map encS) := by
  have : yS l.length (l.map encS) = l.map encS := yO (by simp)
  simp [broF, this]
 rw [h2]
 refine propext ⟨fun h => h.2.2, fun h => ⟨rfl, ?_, h⟩⟩
 simp [slcOk]
theorem aw49 {l : List Vary} (hl : Fits l) : ∀ (n : Nat) (xs out : List S) (m : Nat), m ≤ 4 → xs.length + n = l.length → (∀ x ∈ xs, x.length ≤ 64) → out.length + (keysF l n xs).length ≤ 1000000 → aw (cxN Try.prog [0, 1, 2]) c49 (retP [0, 1, 2] m [] (IsA (.tup []) (hA l (out ++ keysF l n xs)))) (fun _ _ => False) (retP [0, 1, 2] m [] (IsA (.tup []) (hA l (out ++ keysF l n xs)))) ⟨args0 0 [.bro 1 (xs.map encS), .ptr 0 0 0, .ptr 1 0 0, .ptr 2 0 0], hA l out, 0⟩ := by
 intro n
 induction n with
 | zero =>
  intro xs out m hm4 hn hx hb
  unfold c49 hA vs
  simp -implicitDefEqProofs only [rX,↓rY,rdK,↓reduceIte,Nat.reduceEqDiff,Nat.reduceAdd,reduceCtorEq,cxN,vr_len,vr_t,k_nil,args0]
  have hk : keysF l 0 xs = [keyL l xs] := rfl
  have he : ((xs.length : Int) == (l.length : Int)) = true := by rw [beq_iff_eq]; omega
  have hs : Small l xs := ⟨hl.n, by omega, hl.h, hx⟩
  refine fun _ _ => ?_
  rw [he]
  simp -implicitDefEqProofs only [↓rY]
  refine call_is (ok37 l xs hs) ⟨⟨trivial, trivial, trivial⟩, ⟨rfl, rfl⟩, ⟨rfl, rfl⟩, trivial⟩ rfl (by simp [keepP, liveP]) ?_
  simp -implicitDefEqProofs only [rX,↓rY,cells?,splice,↓reduceIte,Nat.reduceEqDiff,reduceCtorEq,freshP,litsP,killE,killB,kill,kills,St.kill,isD,isC,Nat.reduceLT]
  rw [hk] at hb ⊢
  rw [vY] at hb
  refine ⟨by omega, ?_⟩
  have ht : yS out.length (out.map encS) = out.map encS := yO (by simp)
  rw [ht]
  simp -implicitDefEqProofs only [rX,Nat.reduceAdd,resP,tupV,leH,leB,leV,leVs,keepP,liveP,wfB,wfV,wfL,retP_isA]
  simp [leH, leB, encS, hm4]
 | succ n ih =>
  intro xs out m hm4 hn hx hb
  unfold c49 hA vs
  simp -implicitDefEqProofs only [rX,↓rY,rdK,↓reduceIte,Nat.reduceEqDiff,Nat.reduceAdd,reduceCtorEq,cxN,vr_len,vr_t,k_nil,args0]
  have he : ((xs.length : Int) == (l.length : Int)) = false := by rw [beq_eq_false_iff_ne]; omega
  have hxl : xs.length < l.length := by omega
  refine fun _ _ => ?_
  rw [he]
  simp -implicitDefEqProofs only [↓rY]
  refine fun _ => ⟨⟨by omega, by omega⟩, hxl, ?_⟩
  have hvm := yC hxl
  have hK : keysF l (n + 1) xs = (chs l[xs.length]).flatMap fun x => keysF l n (xs ++ [x]) := by
   rw [keysF, yM, yD hxl]; rfl
  rw [hK] at hb ⊢
  have hcx := hl.x _ hvm
  have hvv := hl.v _ hvm
  generalize l[xs.length] = v at hb hcx hvv ⊢
  refine call_is (ok41 v hvv) ⟨⟨⟨trivial, trivial, trivial, trivial⟩, trivial⟩, ⟨rfl, ⟨rfl, rfl⟩, rfl, trivial⟩, trivial⟩ rfl (by simp [keepP, liveP]) ?_
  generalize chs v = c at hb hcx ⊢
  simp -implicitDefEqProofs only [rX,↓rY,ofConst,↓reduceIte,ss]
  intro hcm
  refine loopP_intro (fun j : Nat => ⟨[(25, .i j), (24, .i c.length), (23, ss c), (0, .bro 1 (xs.map encS)), (1, .ptr 0 0 0), (2, .ptr 1 0 0), (3, .ptr 2 0 0)], hA l (out ++ (c.take j).flatMap fun x => keysF l n (xs ++ [x])), 4⟩) (fun j => j ≤ c.length) (fun j => c.length - j) 0 (yT _) ?_ ?_
  ·simp -implicitDefEqProofs only [rX,↓reduceIte,Nat.reduceEqDiff,reduceCtorEq,leE,leH,leB,leV,leVs,keepP,liveP,wfE,wfB,wfV,wfL,yF,ss,hA,vs,List.flatMap_nil]
  rintro j hj
  generalize hO : out ++ (c.take j).flatMap (fun x => keysF l n (xs ++ [x])) = O
  unfold c49l0 hA vs ss
  simp -implicitDefEqProofs only [rX,↓rY,rdK,cells?,↓reduceIte,Nat.reduceEqDiff,Nat.reduceAdd,reduceCtorEq,freshP,litsP,isD,Nat.reduceLT,encS_0,k_nil]
  simp only [br, yE, decide_eq_true_eq, decide_eq_false_iff_not]
  refine ⟨fun hlt => ?_, fun hlt => ?_⟩
  ·have hjc : j < c.length := by omega
   refine ⟨⟨by omega, hlt⟩, hjc, fun _ _ => ?_⟩
   rw [slc_fullB]
   simp -implicitDefEqProofs only [rX,↓rY,↓reduceIte,Nat.reduceEqDiff,freshP]
   have hx2 : ∀ x ∈ xs ++ [c[j]], x.length ≤ 64 := fun x hx' => by
    rcases List.mem_append.1 hx' with h | h
    ·exact hx x h
    ·rw [vL] at h; subst h; exact hcx _ (yC hjc)
   have hln := hl.n
   have htk : out ++ (c.take (j + 1)).flatMap (fun x => keysF l n (xs ++ [x])) = O ++ keysF l n (xs ++ [c[j]]) := by
    rw [yX, yD hjc, vP, ← List.append_assoc, hO]; simp
   have hsub : (out ++ (c.take (j + 1)).flatMap (fun x => keysF l n (xs ++ [x]))).length ≤ 1000000 := by
    have h1 : (c.flatMap fun x => keysF l n (xs ++ [x])) = (c.take (j + 1)).flatMap (fun x => keysF l n (xs ++ [x])) ++ (c.drop (j + 1)).flatMap (fun x => keysF l n (xs ++ [x])) := by
     rw [← vP, List.take_append_drop]
    rw [h1, yI] at hb
    rw [yI]
    omega
   rw [htk, yI] at hsub
   have hih : OkN Try.prog 49 [.bro 1 ((xs ++ [c[j]]).map encS), .ptr 0 0 0, .ptr 1 0 0, .ptr 2 0 0] (hA l O) [3] (IsA (.tup []) (hA l (O ++ keysF l n (xs ++ [c[j]])))) := okN_of pol [0, 1, 2] lw49 (by simp) (by simp [keepP, liveP, hA]) (by simp [hA]; omega) (ih (xs ++ [c[j]]) O 4 (yG _) (by rw [yI, vY]; omega) hx2 hsub)
   refine ⟨by simp, by omega, ?_⟩
   have hrow : yS (xs.length + 1) (xs.map encS ++ [[V.v (Value.string (sb c[j]))]]) = (xs ++ [c[j]]).map encS := by
    rw [List.map_append, yO (by simp)]; rfl
   refine call_isM (G := Unit) (fun _ => True) [0, 1, 2, 3] [3] [3] [.bro 1 ((xs ++ [c[j]]).map encS), .ptr 0 0 0, .ptr 1 0 0, .ptr 2 0 0] (fun _ => .tup []) (hA l O) (fun _ => hA l (O ++ keysF l n (xs ++ [c[j]]))) (okN_post hih fun r h ⟨h1, h2⟩ => ⟨(), trivial, h1, h2⟩) (by simp) (by simp) (by simp [hA, blk, renB, rens, ren, pos, vs]) ?_ fun _ _ => ⟨?_, ?_⟩
   ·refine ⟨⟨?_, trivial, trivial, trivial, trivial⟩, ⟨rfl, hrow⟩, rfl, rfl, rfl, trivial⟩
    show 0 + (xs.length + 1) ≤ (xs.map encS ++ [[V.v (Value.string (sb c[j]))]]).length
    simp
   ·simp [keepP, liveP, hA, setAll, renB, killB]
   ·have hsO := hsub
    simp -implicitDefEqProofs only [rX,↓rY,ofConst,↓reduceIte,Nat.reduceEqDiff,Nat.reduceAdd,reduceCtorEq,leE,leH,leB,leV,leVs,keepP,liveP,wfE,wfB,wfV,wfL,killE,killB,kill,kills,St.kill,hA,vs,killE,kill,kills,killB,setAll,renB,rens,ren,vZ]
    refine ⟨by simp only [lo, hi, maxLen] at *; omega, j + 1, ⟨by omega, by omega⟩, by simp, ?_, rfl, by rw [htk]⟩
    have h3 := congrArg List.length htk
    rw [yI, yI] at h3
    rw [h3]; rfl
  ·have hjc : j = c.length := by omega
   subst hjc
   rw [List.take_length] at hO
   rw [← hO]
   simp -implicitDefEqProofs only [rX,Nat.reduceAdd,resP,tupV,leH,leB,leV,leVs,keepP,liveP,wfB,wfV,wfL,retP_isA,hm4]
theorem ok49n {l : List Vary} (hl : Fits l) (hb : (keysF l l.length []).length ≤ 1000000) : OkN Try.prog 49 [.bro 1 [], .ptr 0 0 0, .ptr 1 0 0, .ptr 2 0 0] [.var [vs l], .var [.nil], .var [.clo 49 [.ptr 0 0 0, .ptr 1 0 0, .ptr 2 0 0]]] [] (IsA (.tup []) (hA l (keysF l l.length []))) := by
 refine okN_ofG pol [0, 1, 2] lw49 (by simp) (by simp [keepP, liveP]) (by simp; omega) (s0 := ⟨args0 0 [.bro 1 [], .ptr 0 0 0, .ptr 1 0 0, .ptr 2 0 0], hA l [], 0⟩) ?_ ?_
 ·refine ⟨_, .virt 1 1 (by decide) (.nilB 1 [.nil] [.sl 3 0 0] rfl ?_ (.refl _)), ?_⟩
  ·refine ⟨rfl, fun i x y h1 h2 => ?_⟩
   cases i with
   | zero => simp at h1 h2; subst h1; subst h2; exact .inr ⟨rfl, 3, rfl⟩
   | succ i => simp at h1
  ·unfold hA vs
   simp -implicitDefEqProofs only [rX,↓reduceIte,Nat.reduceEqDiff,Nat.reduceAdd,reduceCtorEq,leE,leH,leB,leV,leVs,keepP,liveP,wfE,wfB,wfV,wfL,args0,uF,vZ]
 ·exact aw49 hl l.length [] [] 3 (by omega) (by simp) (by simp) (by simpa using hb)
set_option maxRecDepth 20000
def prods (l : List Vary) : Nat → Nat
 | 0 => 1
 | k + 1 => prods l k * (chs (l.getD k default)).length
def cnt (l : List Vary) : Nat → Nat → Nat
 | 0, _ => 1
 | n + 1, k => (chs (l.getD k default)).length * cnt l n (k + 1)
theorem flat_len {c : List S} {f : S → List S} {m : Nat} (h : ∀ x, (f x).length = m) : (c.flatMap f).length = c.length * m := by
 induction c with
 | nil => simp
 | cons x r ih => rw [List.flatMap_cons, yI, ih, h, yN, vX, Nat.add_comm]
theorem keysF_cnt {l : List Vary} : ∀ (n : Nat) (xs : List S), (keysF l n xs).length = cnt l n xs.length
 | 0, xs => rfl
 | n + 1, xs => by
  rw [keysF, flat_len (m := cnt l n (xs.length + 1)) fun x => by rw [keysF_cnt n, yI, vY]]
  rfl
theorem prods_cnt {l : List Vary} : ∀ (n k : Nat), prods l k * cnt l n k = prods l (k + n)
 | 0, k => Nat.mul_one _
 | n + 1, k => by
  rw [cnt, ← Nat.mul_assoc, show prods l k * (chs (l.getD k default)).length = prods l (k + 1) from rfl, prods_cnt n (k + 1)]
  congr 1; omega
theorem keysF_len {l : List Vary} : (keysF l l.length []).length = prods l l.length := by
 have h := prods_cnt (l := l) l.length 0
 rw [keysF_cnt, vC]
 simpa [prods] using h
structure Nm (l : List Vary) (k : Nat) : Prop where
 h : ∀ j, j ≤ k → prods l j ≤ 1000
def allBig (l : List Vary) : Bool := (yP l.length).any fun k => decide (1000 < prods l (k + 1))
def allR (l : List Vary) : V := if allBig l then .tup [ss [], .i 2] else .tup [ss (keysF l l.length []), .i 0]
theorem Nm.small {l : List Vary} {k : Nat} (h : Nm l k) (hk : l.length ≤ k) : allBig l = false := by
 unfold allBig
 rw [vI]
 intro j hj
 rw [vD] at hj
 have := h.h (j + 1) (by omega)
 simp; omega
theorem big_of {l : List Vary} {k : Nat} (hk : k < l.length) (h : 1000 < prods l (k + 1)) : allBig l = true := yU.2 ⟨k, vD.2 hk, by simpa using h⟩
theorem chs_len {v : Vary} (h : v.vals.length ≤ 16) : (chs v).length ≤ 17 := by
 unfold chs
 split
 ·rw [yN]; omega
 ·omega
theorem Nm.zero {l : List Vary} : Nm l 0 := ⟨fun j hj => by
 have : j = 0 := by omega
 subst this
 show 1 ≤ 1000
 omega⟩
theorem Nm.step {l : List Vary} {k : Nat} (h : Nm l k) (hk : prods l (k + 1) ≤ 1000) : Nm l (k + 1) := ⟨fun j hj => by
 by_cases h3 : j = k + 1
 ·subst h3; exact hk
 ·exact h.h j (by omega)⟩
theorem ok21 {l : List Vary} (hl : Fits l) : Ok 21 [vs l] (Is (allR l)) := by
 refine ⟨rlF_callable lw21, Fn_give (R := fun q hs => wk (allR l) (gvV (fun _ => true) hs q)) ?_ fun _ _ h => h⟩
 refine (ok_of lw21 (by simp) ?_).2
 unfold c21 vs
 simp -implicitDefEqProofs only [rX,↓rY,ofConst,cells?,↓reduceIte,Nat.reduceEqDiff,freshP,cxN,args0]
 intro hm
 refine loopP_intro (fun k : Nat => ⟨[(11, .i k), (10, .i l.length), (9, vs l), (4, .i (prods l k : Nat)), (3, .i 0), (2, .nil), (1, .ptr 0 0 0), (0, vs l)], [.var [vs l]], 1⟩) (fun k => k ≤ l.length ∧ Nm l k) (fun k => l.length - k) 0 ⟨yT _, .zero⟩ ?_ ?_
 ·simp -implicitDefEqProofs only [rX,↓reduceIte,Nat.reduceEqDiff,reduceCtorEq,leE,leH,leB,leV,leVs,keepP,liveP,wfE,wfB,wfV,wfL,yF,vs,prods]
  rfl
 rintro k ⟨hk, hN⟩
 unfold c21l0 vs
 simp -implicitDefEqProofs only [rX,↓rY,ofConst,cells?,splice,↓reduceIte,Nat.reduceEqDiff,Nat.reduceAdd,freshP,isC,vr_len,vr_t,vr_C,k_nil]
 simp only [br, yE, decide_eq_true_eq, decide_eq_false_iff_not]
 refine ⟨fun h => ⟨⟨by omega, h⟩, by omega, ?_⟩, fun h => ?_⟩
 ·have hkl : k < l.length := by omega
  refine call_is (ok41 l[k] (hl.v _ (yC hkl))) ⟨⟨⟨trivial, trivial, trivial, trivial⟩, trivial⟩, ⟨rfl, ⟨rfl, rfl⟩, rfl, trivial⟩, trivial⟩ rfl trivial ?_
  simp -implicitDefEqProofs only [rX,↓rY,ofConst,↓reduceIte,Nat.reduceEqDiff,Nat.reduceAdd,reduceCtorEq,leE,leH,leB,leV,leVs,keepP,liveP,wfE,wfB,wfV,wfL,ss]
  have hg : prods l (k + 1) = prods l k * (chs l[k]).length := by
   rw [prods, yM, yD hkl]; rfl
  have h1 := hN.h k (yG _)
  have h2 := chs_len (hl.v _ (yC hkl))
  have h3 : prods l (k + 1) ≤ 1000 * 17 := by rw [hg]; exact Nat.mul_le_mul h1 h2
  rw [← Int.natCast_mul, ← hg]
  simp only [br, decide_eq_true_eq, decide_eq_false_iff_not]
  refine fun _ => ⟨⟨by simp only [lo]; omega, by simp only [hi]; omega⟩, fun h4 => ?_, fun h4 => ⟨by simp only [lo, hi, maxLen] at *; omega, k + 1, ⟨⟨by omega, hN.step (by omega)⟩, by omega⟩, by simp, rfl⟩⟩
  have hb := big_of hkl (by omega)
  rw [retP_eq]
  simp -implicitDefEqProofs only [rX,↓reduceIte,Nat.reduceEqDiff,resP,tupV,keepP,wfV,wfL]
  refine ⟨[], ⟨by simp [leH], by simp, by simp [wfB]⟩, ?_⟩
  simp [gvV, gvL, wk, wkL, wkR, allR, hb, ss]
 ·have hsm := hN.small (by omega)
  have hcnt : (keysF l l.length []).length ≤ 1000000 := by
   rw [keysF_len]
   have := hN.h l.length (by omega)
   omega
  refine call_isM (G := Unit) (fun _ => True) [0, 1, 2] [] [] [.bro 1 [], .ptr 0 0 0, .ptr 1 0 0, .ptr 2 0 0] (fun _ => .tup []) [.var [vs l], .var [.nil], .var [.clo 49 [.ptr 0 0 0, .ptr 1 0 0, .ptr 2 0 0]]] (fun _ => hA l (keysF l l.length [])) (okN_post (ok49n hl hcnt) fun r h ⟨h1, h2⟩ => ⟨(), trivial, h1, h2⟩) (by simp) (by simp) (by simp [blk, renB, rens, ren, pos, vs]) (by simp [lendsOk, lendOk, lends, lend, wkL, wk, wkB, pos]) fun _ _ => ⟨trivial, ?_⟩
  simp -implicitDefEqProofs only [rX,↓rY,ofConst,↓reduceIte,Nat.reduceEqDiff,Nat.reduceAdd,killE,killB,kill,kills,St.kill,hA,vs,killE,kill,kills,killB,setAll,renB,rens,ren,vZ]
  have b3 : back [0, 1, 2] 3 3 = some 3 := rfl
  rw [retP_eq]
  simp -implicitDefEqProofs only [rX,↓reduceIte,Nat.reduceEqDiff,resP,tupV,keepP,liveP,wfV,wfL,b3]
  refine ⟨[.dead, .dead, .dead, .arr 1 ((keysF l l.length []).map encS)], ⟨by simp [leH, leB], by simp [wfV, wfL, liveP], by simp [wfB]⟩, ?_⟩
  have ht : yS (keysF l l.length []).length ((keysF l l.length []).map encS) = (keysF l l.length []).map encS := yO (by simp)
  simp [gvV, gvL, wk, wkL, wkR, allR, hsm, ss, blk, ht]
end Go.Fx.W
namespace Go.Fx
open Go.RowKit
theorem get_app_r : ∀ {a b : Env} {i : Nat}, (∀ p ∈ a, p.1 ≠ i) → get (a ++ b) i = get b i
 | [], _, _, _ => rfl
 | (j, x) :: r, b, i, h => by
  have hj : j ≠ i := h (j, x) (by simp)
  show (if i = j then x else get (r ++ b) i) = _
  rw [if_neg (Ne.symm hj)]
  exact get_app_r fun p hp => h p (by simp [hp])
theorem get_none : ∀ {a : Env} {i : Nat}, (∀ p ∈ a, p.1 ≠ i) → get a i = .any
 | [], _, _ => rfl
 | (j, x) :: r, i, h => by
  have hj : j ≠ i := h (j, x) (by simp)
  show (if i = j then x else get r i) = _
  rw [if_neg (Ne.symm hj)]
  exact get_none fun p hp => h p (by simp [hp])
theorem get_app_l : ∀ {a b : Env} {i : Nat}, (∀ p ∈ b, p.1 ≠ i) → get (a ++ b) i = get a i
 | [], b, i, h => get_none h
 | (j, x) :: r, b, i, h => by
  show (if i = j then x else get (r ++ b) i) = (if i = j then x else get r i)
  rw [get_app_l h]
theorem get_mapf {f : Nat → Nat} (hf : ∀ i j, f i = f j → i = j) : ∀ (a : Env) (i : Nat), get (a.map fun p => (f p.1, p.2)) (f i) = get a i
 | [], _ => rfl
 | (j, x) :: r, i => by
  show (if f i = f j then x else get (r.map fun p => (f p.1, p.2)) (f i)) = (if i = j then x else get r i)
  rw [get_mapf hf r i]
  by_cases h : i = j
  ·subst h; simp
  ·rw [if_neg h, if_neg fun e => h (hf _ _ e)]
theorem toEnv_get : ∀ (E : Tr) (i : Nat), get E.toEnv i = E.get i
 | .lf, _ => rfl
 | .nd v l r, 0 => rfl
 | .nd v l r, j + 1 => by
  show (if j + 1 = 0 then v else get (l.toEnv.map (fun p => (2 * p.1 + 1, p.2)) ++ r.toEnv.map (fun p => (2 * p.1 + 2, p.2))) (j + 1)) = _
  rw [if_neg (by omega)]
  simp only [Tr.get]
  split
  ·rename_i hj
   rw [get_app_l (by rintro p hp; obtain ⟨q, _, rfl⟩ := yJ.1 hp; simp; omega), show j + 1 = 2 * (j / 2) + 1 by omega, get_mapf (f := fun i => 2 * i + 1) (by intros; simp at *; omega)]
   exact toEnv_get l _
  ·rename_i hj
   rw [get_app_r (by rintro p hp; obtain ⟨q, _, rfl⟩ := yJ.1 hp; simp; omega), show j + 1 = 2 * (j / 2) + 2 by omega, get_mapf (f := fun i => 2 * i + 2) (by intros; simp at *; omega)]
   exact toEnv_get r _
mutual
theorem wfVB_ok {h : List Blk} : ∀ x : V, wfVB h x = true → wfV h x
 | .sl k _ _, hx => live_of (by simpa [wfVB] using hx)
 | .ptr k _ _, hx => live_of (by simpa [wfVB] using hx)
 | .mp k, hx => live_of (by simpa [wfVB] using hx)
 | .itr k, hx => live_of (by simpa [wfVB] using hx)
 | .agg cs, hx => wfLB_ok cs (by simpa [wfVB] using hx)
 | .tup cs, hx => wfLB_ok cs (by simpa [wfVB] using hx)
 | .clo _ cs, hx => wfLB_ok cs (by simpa [wfVB] using hx)
 | .any, _ | .v _, _ | .ro _ _, _ | .bro _ _, _ | .full _ _, _ | .rp _ _ _ _, _ => by simp [wfV]
theorem wfLB_ok {h : List Blk} : ∀ xs : List V, wfLB h xs = true → wfL h xs
 | [], _ => trivial
 | x :: r, hx => by
  simp only [wfLB, yB] at hx
  exact ⟨wfVB_ok x hx.1, wfLB_ok r hx.2⟩
end
theorem wfEB_ok {h : List Blk} : ∀ e : Env, wfEB h e = true → wfE h e
 | [], _ => trivial
 | (_, x) :: r, hx => by
  simp only [wfEB, yB] at hx
  exact ⟨wfVB_ok x hx.1, wfEB_ok r hx.2⟩
theorem wfBB_ok {h : List Blk} : ∀ l : List Blk, wfBB h l = true → wfB h l
 | [], _ => trivial
 | .var cs :: r, hx => by simp only [wfBB, yB] at hx; exact ⟨wfLB_ok _ hx.1, wfBB_ok r hx.2⟩
 | .dead :: r, hx => wfBB_ok r (by simpa [wfBB] using hx)
 | .arr _ _ :: r, hx => wfBB_ok r (by simpa [wfBB] using hx)
 | .arv _ els :: r, hx => by simp only [wfBB, yB] at hx; exact ⟨wfLB_ok _ hx.1, wfBB_ok r hx.2⟩
 | .map es _ :: r, hx => by simp only [wfBB, yB] at hx; exact ⟨wfLB_ok _ hx.1, wfBB_ok r hx.2⟩
 | .it m _ _ _ :: r, hx => by simp only [wfBB, yB] at hx; exact ⟨wfVB_ok _ hx.1, wfBB_ok r hx.2⟩
 | .rcd _ e :: r, hx => by simp only [wfBB, yB] at hx; exact ⟨wfEB_ok _ hx.1, wfBB_ok r hx.2⟩
theorem Tr.wf_ok {h : List Blk} : ∀ (E : Tr), E.wf h = true → ∀ i, wfV h (E.get i)
 | .lf, _, _ => trivial
 | .nd v l r, hx, i => by
  simp only [Tr.wf, yB] at hx
  cases i with
  | zero => exact wfVB_ok v hx.1
  | succ j =>
   simp only [Tr.get]
   split
   ·exact Tr.wf_ok l hx.2.1 _
   ·exact Tr.wf_ok r hx.2.2 _
theorem leTB_ok : ∀ (E E' : Tr), leTB E E' = true → ∀ i, E'.get i = .any ∨ E'.get i = E.get i
 | _, .lf, _, i => .inl rfl
 | .nd v l r, .nd v' l' r', h, i => by
  simp only [leTB, yB] at h
  cases i with
  | zero =>
   show v' = .any ∨ v' = v
   have h1 := h.1.1
   split at h1
   ·exact .inl rfl
   ·exact .inr (eqV_ok h1).symm
  | succ j =>
   simp only [Tr.get]
   split
   ·exact leTB_ok l l' h.1.2 _
   ·exact leTB_ok r r' h.2 _
 | .lf, .nd v' l' r', h, i => by
  simp only [leTB, yB] at h
  cases i with
  | zero =>
   show v' = .any ∨ v' = .any
   have h1 := h.1.1
   split at h1
   ·exact .inl rfl
   ·cases h1
  | succ j =>
   simp only [Tr.get]
   split
   ·exact leTB_ok .lf l' h.1.2 _
   ·exact leTB_ok .lf r' h.2 _
theorem leVsB_ok : ∀ {xs ys : List V}, leVsB xs ys = true → leVs xs ys
 | [], [], _ => trivial
 | x :: xs, y :: ys, h => by
  simp only [leVsB, yB] at h
  refine ⟨?_, leVsB_ok h.2⟩
  have h1 := h.1
  unfold leV
  split at h1
  ·trivial
  ·have := eqV_ok h1
   subst this
   split <;> trivial
 | [], _ :: _, h => by simp [leVsB] at h
 | _ :: _, [], h => by simp [leVsB] at h
theorem leBB_ok {b c : Blk} (h : leBB b c = true) : leB b c := by
 unfold leBB at h
 unfold leB
 split at h
 ·trivial
 ·split at h
  ·exact leVsB_ok h
  ·cases h
 ·split
  ·trivial
  ·rename_i hne; exact (hne _ rfl).elim
  ·have := eqB_ok h
   subst this
   exact ⟨rfl, .inl rfl⟩
  ·exact eqB_ok h
theorem leHB_ok : ∀ {h p : List Blk}, leHB h p = true → leH h p
 | _, [], _ => by unfold leH; trivial
 | b :: h, c :: p, hx => by
  simp only [leHB, yB] at hx
  exact ⟨leBB_ok hx.1, leHB_ok hx.2⟩
 | [], _ :: _, hx => by simp [leHB] at hx
section
variable {P : Program} {ρ0 : Nat → Loc} {X : Nat → Prop} {w0 : World} {fx : List Nat} {N : Nat}
def GoodT (ρ0 : Nat → Loc) (X : Nat → Prop) (w0 : World) (fx : List Nat) (N : Nat) (p : Pt) (a : Act) (w : World) : Prop :=
 ∃ e b, (∀ i, get e i = p.1.get i) ∧ Good ρ0 X w0 fx N ⟨e, p.2, b⟩ a w
theorem GoodT.le {p q : Pt} {a : Act} {w : World} (hE : ∀ i, q.1.get i = .any ∨ q.1.get i = p.1.get i) (l2 : leH p.2 q.2) (l3 : keepP fx q.2) (l4 : ∀ i, wfV q.2 (q.1.get i)) (l5 : wfB q.2 q.2) (h : GoodT ρ0 X w0 fx N p a w) : GoodT ρ0 X w0 fx N q a w := by
 obtain ⟨e, b, he, ρ, ⟨⟨hf, h1⟩, hk⟩, ⟨hr, hre⟩, h5, h6⟩ := h
 refine ⟨q.1.toEnv, 0, toEnv_get _, dropLoc ρ q.2, ⟨⟨hf.trans drop_fr, fun k hk' => by rw [live_loc (keepP_get l3 k hk')]; exact h1 k hk'⟩, l3⟩, ⟨dropRep hr l2 l5, fun i => ?_⟩, h5, h6.fr drop_fr⟩
 rw [toEnv_get]
 rcases hE i with hg | hg
 ·rw [hg]; trivial
 ·exact drop_rep _ _ (l4 i) (by rw [hg, ← he]; exact hre i)
theorem joinD_ok {outs ps : List Pt} (h : joinD fx outs = some ps) {q : Pt} (hq : q ∈ outs) {a : Act} {w : World} (hg : GoodT ρ0 X w0 fx N q a w) : ∃ p ∈ ps, GoodT ρ0 X w0 fx N p a w := by
 unfold joinD at h
 split at h
 ·simp at hq
 ·simp only [yA] at h
  subst h
  exact ⟨q, hq, hg⟩
 ·simp only at h
  split at h
  ·rename_i hc
   simp only [yA] at h
   subst h
   simp only [yB, vE] at hc
   obtain ⟨h1, h2, h3, h4⟩ := hc
   obtain ⟨h5, h6⟩ := h1 q hq
   exact ⟨_, yK _, hg.le (leTB_ok _ _ h5) (leHB_ok h6) (keep_of h2) (Tr.wf_ok _ h3) (wfBB_ok _ h4)⟩
  ·cases h
theorem goL_ok {α β : Type} {f : α → Option (List β)} : ∀ {xs : List α} {ys : List β}, goL f xs = some ys → ∀ x ∈ xs, ∃ zs, f x = some zs ∧ ∀ z ∈ zs, z ∈ ys
 | [], _, _, x, hx => by simp at hx
 | [y], ys, h, x, hx => by
  simp only [vL] at hx
  subst hx
  exact ⟨ys, h, fun _ h => h⟩
 | y :: y2 :: r, ys, h, x, hx => by
  simp only [goL] at h
  split at h
  ·rename_i a b h1 h2
   simp only [yA] at h
   subst h
   rcases yQ.1 hx with rfl | hx
   ·exact ⟨a, h1, fun z hz => uG _ hz⟩
   ·obtain ⟨zs, h3, h4⟩ := goL_ok h2 x hx
    exact ⟨zs, h3, fun z hz => vM _ (h4 z hz)⟩
  ·cases h
theorem bindL_ok {α β : Type} {l : Option (List α)} {f : α → Option (List β)} {ys : List β} (h : bindL l f = some ys) : ∃ xs, l = some xs ∧ ∀ x ∈ xs, ∃ zs, f x = some zs ∧ ∀ z ∈ zs, z ∈ ys := by
 unfold bindL at h
 split at h
 ·cases h
 ·exact ⟨_, rfl, goL_ok h⟩
def AT (b : Nat) (q : Pt) (K : St → Prop) : Prop := ∀ e, (∀ i, get e i = q.1.get i) → K ⟨e, q.2, b⟩
def YdOk (y : Nat → YtD) (yy : Nat → Yt) : Prop := ∀ (k : Nat) (xs : List V) (s : St) (E : Tr) (rs : List (V × Pt)) (Z : V → St → Prop), (∀ i, get s.e i = E.get i) → y k xs (E, s.h) = some rs → (∀ r ∈ rs, AT s.b r.2 (Z r.1)) → yy k xs s Z
section
variable {C : Ctr} {it : Itr} {yy : Nat → Yt} {rk : Option Nat} {call : CallD} {mvf : FuncId → Option Nat} (hcall : ∀ f zas h0 mv r h', call f zas h0 mv = some (r, h') → C f zas h0 mv (fun r1 h1 => r1 = r ∧ h1 = h'))
include hcall
theorem putT_get {E : Tr} {e : Env} (he : ∀ i, get e i = E.get i) (d : Option Nat) (x : V) (h : List Blk) (b : Nat) : ∀ i, get ((⟨e, h, b⟩ : St).put d x).e i = (putT E d x).get i := by
 intro i
 cases d with
 | none => exact he i
 | some d =>
  simp only [putT, forceV_eq]
  rw [Tr.get_put _ _ _ _ _ (vF d)]
  show (if i = d then x else get e i) = _
  rw [he]
theorem runD_ok {bn : List Nat} {o : LOper} {b : Nat} {p : Pt} {outs : List Pt} (h : runD call mvf fx bn o b p = some outs) {e : Env} (he : ∀ i, get e i = p.1.get i) {K : St → Prop}
  (hK : ∀ q ∈ outs, ∀ e', (∀ i, get e' i = q.1.get i) → K ⟨e', q.2, b⟩) : aOp { C := C, fx := fx, bn := bn, it := it, y := yy, rk := rk } o.op ⟨e, p.2, b⟩ fun x s' => K (s'.put o.dst x) := by
 unfold runD at h
 split at h
 ·cases h
 ·rename_i rs hrs
  simp only [yA] at h
  subst h
  refine opD_ok hcall he hrs fun r hr e' he' => ?_
  have := hK (putT r.E o.dst r.x, r.h) (by rw [yJ]; exact ⟨r, hr, rfl⟩) ((⟨e', r.h, b⟩ : St).put o.dst r.x).e (putT_get hcall he' _ _ _ _)
  cases hd : o.dst with
  | none => rw [hd] at this; exact this
  | some d => rw [hd] at this; exact this
theorem operD_ok {bn : List Nat} {o : LOper} {b : Nat} {p : Pt} {outs : List Pt} (h : operD call mvf fx bn o b p = some outs) {e : Env} (he : ∀ i, get e i = p.1.get i) {K : St → Prop}
  (hK : ∀ q ∈ outs, ∀ e', (∀ i, get e' i = q.1.get i) → K ⟨e', q.2, b⟩) : aOper { C := C, fx := fx, bn := bn, it := it, y := yy, rk := rk } o ⟨e, p.2, b⟩ K := by
 unfold operD at h
 unfold aOper
 split at h
 ·rename_i hg
  rw [hg]
  exact runD_ok hcall h he hK
 ·rename_i g want hg
  rw [hg]
  have hge := he g
  show guardP (get e g) want _ _ _
  split at h
  ·rename_i t ht
   rw [hge, ht]
   have hput : ∀ v : Bool, v = t → ∀ i, get ((g, V.b v) :: e) i = p.1.get i := by
    intro v hv i
    subst hv
    show (if i = g then V.b v else get e i) = _
    by_cases hi : i = g
    ·rw [if_pos hi, hi, ht]
    ·rw [if_neg hi, he]
   have hskip : ∀ v : Bool, v = t → ∀ {outs : List Pt}, some [(putT p.1 o.dst (.v (.tuple #[])), p.2)] = some outs → (∀ q ∈ outs, ∀ e', (∀ i, get e' i = q.1.get i) → K ⟨e', q.2, b⟩) →
     K (((⟨e, p.2, b⟩ : St).put (some g) (.b v)).put o.dst (.v (.tuple #[]))) := by
    intro v hv outs ho hK
    simp only [yA] at ho
    subst ho
    have := hK _ (yK _) ((⟨(g, V.b v) :: e, p.2, b⟩ : St).put o.dst (.v (.tuple #[]))).e (putT_get hcall (hput v hv) _ _ _ _)
    cases hd : o.dst with
    | none => rw [hd] at this; exact this
    | some d => rw [hd] at this; exact this
   split at h
   ·rename_i htw
    subst htw
    have := runD_ok (it := it) (yy := yy) (rk := rk) hcall h (hput t rfl) hK
    cases t with
    | true => exact ⟨fun _ => this, fun h => by cases h⟩
    | false => exact ⟨fun h => (by cases h), fun _ => this⟩
   ·rename_i htw
    have hn : (!want) = t := by cases t <;> cases want <;> simp_all
    have := hskip (!want) hn h hK
    cases t with
    | true => cases want with
     | true => exact absurd rfl htw
     | false => exact ⟨fun _ => this, fun h => by cases h⟩
    | false => cases want with
     | true => exact ⟨fun h => (by cases h), fun _ => this⟩
     | false => exact absurd rfl htw
  ·rename_i u ht
   rw [hge, ht]
   simp only [yA] at h
   subst h
   have := hK _ (yK _) ((⟨e, p.2, b⟩ : St).put o.dst (.v (.tuple #[]))).e (putT_get hcall he _ _ _ _)
   show K ((⟨e, p.2, b⟩ : St).put o.dst (.v (.tuple #[])))
   cases hd : o.dst with
   | none => rw [hd] at this; exact this
   | some d => rw [hd] at this; exact this
  ·cases h
theorem opsD_ok {b : Nat} {K : St → Prop} : ∀ {ls : List LOper} {p : Pt} {outs : List Pt}, opsD call mvf fx b ls p = some outs → ∀ {e : Env}, (∀ i, get e i = p.1.get i) →
  (∀ q ∈ outs, ∀ e', (∀ i, get e' i = q.1.get i) → K ⟨e', q.2, b⟩) → aOps { C := C, fx := fx, bn := [], it := it, y := yy, rk := rk } ls ⟨e, p.2, b⟩ K
 | [], p, outs, h, e, he, hK => by
  simp only [opsD, yA] at h
  subst h
  exact hK _ (yK _) e he
 | o :: r, p, outs, h, e, he, hK => by
  simp only [opsD] at h
  obtain ⟨xs, h1, h2⟩ := bindL_ok h
  refine operD_ok hcall h1 he fun q hq e' he' => ?_
  obtain ⟨zs, h3, h4⟩ := h2 q hq
  exact opsD_ok h3 he' fun z hz => hK z (h4 z hz)
theorem yldD_ok {y : Nat → YtD} (hy : YdOk y yy) {d : Option Nat} {f : Operand} {xs : List Operand} {p : Pt} {outs : List Pt} (h : yldD y d f xs p = some outs) {e : Env} (he : ∀ i, get e i = p.1.get i) {b : Nat} {K : St → Prop}
  (hK : ∀ q ∈ outs, ∀ e', (∀ i, get e' i = q.1.get i) → K ⟨e', q.2, b⟩) : yieldP { C := C, fx := fx, bn := [], it := it, y := yy, rk := rk } f xs ⟨e, p.2, b⟩ fun x s' => K (s'.put d x) := by
 unfold yldD at h
 unfold yieldP
 rw [ev_ok he]
 split at h
 ·rename_i k hk
  rw [hk]
  split at h
  ·rename_i rs hrs
   simp only [yA] at h
   subst h
   have hm : xs.map (ev e) = xs.map (evT p.1) := List.map_congr_left fun x _ => ev_ok he x
   show yy k (xs.map (ev e)) _ _
   rw [hm]
   refine hy k _ _ p.1 rs _ he hrs fun r hr e' he' => ?_
   have := hK (putT r.2.1 d r.1, r.2.2) (by rw [yJ]; exact ⟨r, hr, rfl⟩) ((⟨e', r.2.2, b⟩ : St).put d r.1).e (putT_get hcall he' _ _ _ _)
   cases d with
   | none => exact this
   | some d => exact this
  ·cases h
 ·cases h
theorem operYD_ok {y : Nat → YtD} (hy : YdOk y yy) {o : LOper} {b : Nat} {p : Pt} {outs : List Pt} (h : operYD call mvf fx y o b p = some outs) {e : Env} (he : ∀ i, get e i = p.1.get i) {K : St → Prop}
  (hK : ∀ q ∈ outs, ∀ e', (∀ i, get e' i = q.1.get i) → K ⟨e', q.2, b⟩) : aOperY { C := C, fx := fx, bn := [], it := it, y := yy, rk := rk } o ⟨e, p.2, b⟩ K := by
 unfold operYD at h
 unfold aOperY
 split at h
 ·rename_i f xs ho
  rw [ho]
  show gP o.g o.dst (yieldP _ f xs) ⟨e, p.2, b⟩ K
  unfold gP
  split at h
  ·rename_i hg
   rw [hg]
   exact yldD_ok hcall hy h he hK
  ·rename_i g want hg
   rw [hg]
   have hge := he g
   show guardP (get e g) want _ _ _
   split at h
   ·rename_i t ht
    rw [hge, ht]
    have hput : ∀ v : Bool, v = t → ∀ i, get ((g, V.b v) :: e) i = p.1.get i := by
     intro v hv i
     subst hv
     show (if i = g then V.b v else get e i) = _
     by_cases hi : i = g
     ·rw [if_pos hi, hi, ht]
     ·rw [if_neg hi, he]
    have hskip : ∀ v : Bool, v = t → ∀ {outs : List Pt}, some [(putT p.1 o.dst (.v (.tuple #[])), p.2)] = some outs → (∀ q ∈ outs, ∀ e', (∀ i, get e' i = q.1.get i) → K ⟨e', q.2, b⟩) →
      K (((⟨e, p.2, b⟩ : St).put (some g) (.b v)).put o.dst (.v (.tuple #[]))) := by
     intro v hv outs ho hK
     simp only [yA] at ho
     subst ho
     have := hK _ (yK _) ((⟨(g, V.b v) :: e, p.2, b⟩ : St).put o.dst (.v (.tuple #[]))).e (putT_get hcall (hput v hv) _ _ _ _)
     cases hd : o.dst with
     | none => rw [hd] at this; exact this
     | some d => rw [hd] at this; exact this
    split at h
    ·rename_i htw
     subst htw
     have := yldD_ok (C := C) (it := it) (rk := rk) (fx := fx) hcall hy h (hput t rfl) hK
     cases t with
     | true => exact ⟨fun _ => this, fun h => by cases h⟩
     | false => exact ⟨fun h => (by cases h), fun _ => this⟩
    ·rename_i htw
     have hn : (!want) = t := by cases t <;> cases want <;> simp_all
     have := hskip (!want) hn h hK
     cases t with
     | true => cases want with
      | true => exact absurd rfl htw
      | false => exact ⟨fun _ => this, fun h => by cases h⟩
     | false => cases want with
      | true => exact ⟨fun h => (by cases h), fun _ => this⟩
      | false => exact absurd rfl htw
   ·rename_i u ht
    rw [hge, ht]
    simp only [yA] at h
    subst h
    have := hK _ (yK _) ((⟨e, p.2, b⟩ : St).put o.dst (.v (.tuple #[]))).e (putT_get hcall he _ _ _ _)
    show K ((⟨e, p.2, b⟩ : St).put o.dst (.v (.tuple #[])))
    cases hd : o.dst with
    | none => rw [hd] at this; exact this
    | some d => rw [hd] at this; exact this
   ·cases h
 ·rename_i hne
  split
  ·rename_i f xs ho; exact absurd ho (hne f xs)
  ·exact operD_ok hcall h he hK
theorem opsYD_ok {y : Nat → YtD} (hy : YdOk y yy) {b : Nat} {K : St → Prop} : ∀ {ls : List LOper} {p : Pt} {outs : List Pt}, opsYD call mvf fx y b ls p = some outs → ∀ {e : Env}, (∀ i, get e i = p.1.get i) →
  (∀ q ∈ outs, ∀ e', (∀ i, get e' i = q.1.get i) → K ⟨e', q.2, b⟩) → aOpsY { C := C, fx := fx, bn := [], it := it, y := yy, rk := rk } ls ⟨e, p.2, b⟩ K
 | [], p, outs, h, e, he, hK => by
  simp only [opsYD, yA] at h
  subst h
  exact hK _ (yK _) e he
 | o :: r, p, outs, h, e, he, hK => by
  simp only [opsYD] at h
  obtain ⟨xs, h1, h2⟩ := bindL_ok h
  refine operYD_ok hcall hy h1 he fun q hq e' he' => ?_
  obtain ⟨zs, h3, h4⟩ := h2 q hq
  exact opsYD_ok hy h3 he' fun z hz => hK z (h4 z hz)
theorem planD_ok {b : Nat} {K : St → Prop} : ∀ {l : LPlan} {bn : List Nat} {p : Pt} {outs : List Pt}, planD call mvf fx b l bn p = some outs → ∀ {e : Env}, (∀ i, get e i = p.1.get i) →
  (∀ q ∈ outs, ∀ e', (∀ i, get e' i = q.1.get i) → K ⟨e', q.2, b⟩) → awP { C := C, fx := fx, bn := [], it := it, y := yy, rk := rk } l bn K ⟨e, p.2, b⟩
 | .done, bn, p, outs, h, e, he, hK => by
  simp only [planD, yA] at h
  subst h
  exact hK _ (yK _) e he
 | .take i D o q, bn, p, outs, h, e, he, hK => by
  simp only [planD] at h
  obtain ⟨xs, h1, h2⟩ := bindL_ok h
  refine operD_ok hcall h1 he fun q' hq e' he' => ?_
  obtain ⟨zs, h3, h4⟩ := h2 q' hq
  have hrd : rdB o.op e bn = rdT o.op p.1 bn := by
   unfold rdB rdT
   cases o.op with
   | load n a => simp only [ev_ok he]; cases evT p.1 a <;> rfl
   | _ => rfl
  show awP _ q (rdB o.op e bn) K _
  rw [hrd]
  exact planD_ok h3 he' fun z hz => hK z (h4 z hz)
 | .alt i o r q q', bn, p, outs, h, e, he, hK => by
  simp only [planD] at h
  split at h
  ·rename_i x y h1 h2
   simp only [yA] at h
   subst h
   obtain ⟨xs, h3, h4⟩ := bindL_ok h1
   refine ⟨operD_ok hcall h3 he fun q' hq e' he' => ?_, planD_ok h2 he fun z hz => hK z (vM _ hz)⟩
   obtain ⟨zs, h5, h6⟩ := h4 q' hq
   exact planD_ok h5 he' fun z hz => hK z (uG _ (h6 z hz))
  ·cases h
 | .none, bn, p, outs, h, e, he, hK => trivial
end
def Out.ex : Out → Exit
 | .normal _ => .normal
 | .exit j _ => .exit j
 | .ret _ => .ret
def Out.pt : Out → Pt
 | .normal p => p
 | .exit _ p => p
 | .ret p => p
theorem GoodT.reserve {p : Pt} {a : Act} {w : World} (n : Nat) (h : GoodT ρ0 X w0 fx N p a w) : ∃ e, (∀ i, get e i = p.1.get i) ∧ Good ρ0 X w0 fx N ⟨e, roomD n p.2, p.2.length⟩ a w := by
 obtain ⟨e, b, he, hg⟩ := h
 refine ⟨e, he, ?_⟩
 have := hg.reserve n p.2.length
 cases n with
 | zero => simpa [roomD] using this
 | succ n => exact this
theorem others_mem {o : Out} : ∀ {l : List Out}, o ∈ l → (∀ p, o ≠ .normal p) → o ∈ others l
 | [], h, _ => by simp at h
 | x :: r, h, hn => by
  rcases yQ.1 h with rfl | h'
  ·cases o with
   | normal p => exact (hn p rfl).elim
   | _ => simp [others]
  ·clear h
   have ih := others_mem h' hn
   cases x with
   | normal p => exact ih
   | _ => simp only [others]; exact vK _ ih
theorem norms_mem {p : Pt} : ∀ {l : List Out}, Out.normal p ∈ l → p ∈ norms l
 | [], h => by simp at h
 | x :: r, h => by
  rcases yQ.1 h with rfl | h'
  ·simp [norms]
  ·clear h
   have ih := norms_mem h'
   cases x with
   | normal p => simp only [norms]; exact vK _ ih
   | _ => exact ih
theorem Tr.get_ren (g : Nat → Option Nat) : ∀ (t : Tr) (i : Nat), (t.ren g).get i = renK g (t.get i)
 | .lf, _ => by simp [Tr.ren, Tr.get, renK]
 | .nd v l r, i => by
  cases i with
  | zero => rfl
  | succ j =>
   simp only [Tr.ren, Tr.get]
   split
   ·exact Tr.get_ren g l _
   ·exact Tr.get_ren g r _
mutual
theorem renK_rep {w : World} {ρ1 ρ2 : Nat → Loc} {g : Nat → Option Nat} (hS : ∀ b, Sta ρ1 X w b → Sta ρ2 X w b) (hL : ∀ b, Len ρ1 w b → Len ρ2 w b) (hg : ∀ k j, g k = some j → (ρ1 k).real = true → ρ2 j = ρ1 k) :
  ∀ (x : V) (val : Value), RepV ρ1 X w x val → RepV ρ2 X w (renK g x) val
 | .any, _, _ => trivial
 | .v _, _, hx => hx
 | .ro sz els, val, hx => RepD_mono (fun b hb => ⟨hS b hb, rfl⟩) (.ro sz els) val hx
 | .bro sz els, val, hx => by
  obtain ⟨a, len, cap, h1, h2, h3, h4, h5⟩ := hx
  refine ⟨a, len, cap, h1, h2, h3, h4, h5.imp id ?_⟩
  rintro ⟨b, off, h6, h7, h8⟩
  exact ⟨b, off, h6, hL b h7, RepEls_mono (fun b hb => ⟨hS b hb, rfl⟩) sz b rfl off els h8⟩
 | .full sz els, val, hx => by
  obtain ⟨a, len, h1, h2, h4, h5⟩ := hx
  refine ⟨a, len, h1, h2, h4, h5.imp id ?_⟩
  rintro ⟨b, off, h6, h7, h8⟩
  exact ⟨b, off, h6, hL b h7, RepEls_mono (fun b hb => ⟨hS b hb, rfl⟩) sz b rfl off els h8⟩
 | .rp sz els i f, val, hx => by
  obtain ⟨b, off, h6, h7, h8⟩ := hx
  exact ⟨b, off, h6, hL b h7, RepEls_mono (fun b hb => ⟨hS b hb, rfl⟩) sz b rfl off els h8⟩
 | .itr k, val, hx => by
  simp only [renK]
  split
  ·rename_i j hj
   obtain ⟨h4, h5⟩ := hx
   simp only [RepV]
   rw [hg k j hj h4]
   exact ⟨h4, h5⟩
  ·trivial
 | .sl k i n, val, hx => by
  simp only [renK]
  split
  ·rename_i j hj
   obtain ⟨cap, h1, h2, h3⟩ := hx
   refine ⟨cap, h1, h2, h3.imp id ?_⟩
   rintro ⟨h4, h5⟩
   rw [hg k j hj h4]
   exact ⟨h4, h5⟩
  ·trivial
 | .ptr k i f, val, hx => by
  simp only [renK]
  split
  ·rename_i j hj
   obtain ⟨h4, h5⟩ := hx
   simp only [RepV]
   rw [hg k j hj h4]
   exact ⟨h4, h5⟩
  ·trivial
 | .mp k, val, hx => by
  simp only [renK]
  split
  ·rename_i j hj
   obtain ⟨h4, h5⟩ := hx
   simp only [RepV]
   rw [hg k j hj h4]
   exact ⟨h4, h5⟩
  ·trivial
 | .agg cs, val, hx => by
  obtain ⟨arr, h1, h2⟩ := hx
  exact ⟨arr, h1, rensK_rep hS hL hg cs _ h2⟩
 | .tup cs, val, hx => by
  obtain ⟨arr, h1, h2⟩ := hx
  exact ⟨arr, h1, rensK_rep hS hL hg cs _ h2⟩
 | .clo f cs, val, hx => by
  obtain ⟨arr, h1, h2⟩ := hx
  exact ⟨arr, h1, rensK_rep hS hL hg cs _ h2⟩
theorem rensK_rep {w : World} {ρ1 ρ2 : Nat → Loc} {g : Nat → Option Nat} (hS : ∀ b, Sta ρ1 X w b → Sta ρ2 X w b) (hL : ∀ b, Len ρ1 w b → Len ρ2 w b) (hg : ∀ k j, g k = some j → (ρ1 k).real = true → ρ2 j = ρ1 k) :
  ∀ (xs : List V) (vs : List Value), RepL ρ1 X w xs vs → RepL ρ2 X w (rensK g xs) vs
 | [], [], _ => trivial
 | x :: r, u :: us, hx => ⟨renK_rep hS hL hg x u hx.1, rensK_rep hS hL hg r us hx.2⟩
 | [], _ :: _, hx => hx.elim
 | _ :: _, [], hx => hx.elim
end
theorem rensK_map (g : Nat → Option Nat) : ∀ xs : List V, rensK g xs = xs.map (renK g)
 | [] => rfl
 | x :: r => by simp [rensK, rensK_map g r]
theorem get_renEK (g : Nat → Option Nat) : ∀ (e : Env) (i : Nat), get (renEK g e) i = renK g (get e i)
 | [], _ => by simp [renEK, get, renK]
 | (j, x) :: r, i => by
  simp only [renEK, get]
  split
  ·rfl
  ·exact get_renEK g r i
theorem renBK_rep {w : World} {ρ1 ρ2 : Nat → Loc} {g : Nat → Option Nat} (hS : ∀ b, Sta ρ1 X w b → Sta ρ2 X w b) (hL : ∀ b, Len ρ1 w b → Len ρ2 w b) (hg : ∀ k j, g k = some j → (ρ1 k).real = true → ρ2 j = ρ1 k)
  {k j : Nat} (hkj : ρ2 j = ρ1 k) {B : Blk} (hB : RepB ρ1 X w k B) : RepB ρ2 X w j (renBK g B) := by
 cases B with
 | dead => simp only [renBK, RepB] at hB ⊢; rw [hkj]; exact hB
 | arr sz els =>
  simp only [renBK, RepB] at hB ⊢
  rw [hkj]
  refine ⟨hB.1, hB.2.imp id ?_⟩
  rintro ⟨h1, c, T, h2, h3, h4, h5⟩
  exact ⟨h1, c, T, h2, h3, h4, RepEls_mono (fun b hb => ⟨hS b hb, rfl⟩) sz _ rfl _ _ h5⟩
 | var cs =>
  simp only [renBK, RepB] at hB ⊢
  rw [hkj]
  obtain ⟨h1, c, T, h2, h3⟩ := hB
  exact ⟨h1, c, T, h2, rensK_rep hS hL hg _ _ h3.1, h3.2⟩
 | arv sz els =>
  simp only [renBK, RepB] at hB ⊢
  rw [hkj]
  obtain ⟨h0, h1, c, T, h2, h3, h4, h5⟩ := hB
  refine ⟨h0, h1, c, T, h2, h3, by simpa using h4, fun i e he => ?_⟩
  simp only [vJ, yL] at he
  obtain ⟨e0, he0, rfl⟩ := he
  refine ⟨by rw [rensK_map, yW]; exact (h5 i e0 he0).1, fun f x hx => ?_⟩
  simp only [rensK_map, vJ, yL] at hx
  obtain ⟨x0, hx0, rfl⟩ := hx
  obtain ⟨u, h6, h7⟩ := (h5 i e0 he0).2 f x0 hx0
  exact ⟨u, h6, renK_rep hS hL hg _ _ h7⟩
 | map es cl =>
  simp only [renBK, RepB] at hB ⊢
  rw [hkj]
  obtain ⟨h1, arr, h2, h3, h4⟩ := hB
  refine ⟨h1, arr, h2, by rw [h3]; simp, ?_⟩
  rw [show (List.map (fun e : Value × V × Nat => (e.1, renK g e.2.1, e.2.2)) es).map (·.2.1) = rensK g (es.map (·.2.1)) by rw [rensK_map]; simp]
  exact rensK_rep hS hL hg _ _ h4
 | it m s sn l =>
  simp only [renBK, RepB] at hB ⊢
  rw [hkj]
  obtain ⟨h1, x, h2, h3⟩ := hB
  exact ⟨h1, x, h2, renK_rep hS hL hg _ _ h3⟩
 | rcd t e =>
  simp only [renBK, RepB] at hB ⊢
  rw [hkj]
  exact ⟨hB.1, fun i => by rw [get_renEK]; exact renK_rep hS hL hg _ _ (hB.2 i)⟩
theorem gc_rep {ρ : Nat → Loc} {w : World} {h : List Blk} (hr : Rep ρ X w h) {ι : List Nat} (hn : ι.Nodup) (hlt : ∀ k ∈ ι, k < h.length) :
  Rep (calleeLoc ρ ι) X w (ι.map fun k => renBK (pos ι) (blk h k)) := by
 refine ⟨?_, ?_, ?_, fun b ho => hr.disj b (callee_own ho), ?_, hr.xlt⟩
 ·intro i j hij hi hj
  obtain ⟨a, ha, ea⟩ := callee_real hi
  obtain ⟨c, hc, ec⟩ := callee_real hj
  rw [ea] at hi ⊢
  rw [ec] at hj ⊢
  refine hr.inj a c (fun e => hij ?_) hi hj
  subst e
  have h1 := pos_of_get hn ha
  have h2 := pos_of_get hn hc
  rw [h1] at h2
  simpa using h2
 ·intro k hk
  have : ι[k]? = none := by simpa using hk
  simp [calleeLoc, this]
 ·intro j B hB
  simp only [vJ, yL] at hB
  obtain ⟨k, hk, rfl⟩ := hB
  have hkl := hlt k (List.mem_of_getElem? hk)
  have hb : h[k]? = some (blk h k) := by simp [blk, yM, yD hkl]
  exact renBK_rep (fun b hb => ⟨hb.1, fun ho => hb.2.1 (callee_own ho), hb.2.2⟩) (fun b hb => callee_len hb) (fun k' j' hp _ => callee_at (pos_some hp)) (callee_at hk) (hr.blk k _ hb)
 ·intro j hj
  unfold calleeLoc at hj ⊢
  split at hj
  ·exact hr.lt _ hj
  ·cases hj
theorem gc_fr {ρ : Nat → Loc} {w : World} {ι : List Nat} : Fr ρ w (calleeLoc ρ ι) w := ⟨rfl, rfl, rfl, yG _, fun _ _ ho => ⟨rfl, fun h => ho (callee_own h)⟩⟩
theorem gc_val {ρ : Nat → Loc} {w : World} {ι : List Nat} {x : V} {val : Value} (h : RepV ρ X w x val) : RepV (calleeLoc ρ ι) X w (renK (pos ι) x) val :=
 renK_rep (fun b hb => ⟨hb.1, fun ho => hb.2.1 (callee_own ho), hb.2.2⟩) (fun b hb => callee_len hb) (fun k' j' hp _ => callee_at (pos_some hp)) x val h
theorem keepN_get {n : Nat} {h : List Blk} {names : List Nat} {k : Nat} (hk : k < n) : (keepN n h names)[k]? = some k := by
 unfold keepN
 rw [List.getElem?_append_left (by simpa using hk)]
 simp [hk]
theorem numB_ok {L : List Nat} {h : List Blk} {n : Nat} (hb : numB L h n = true) : L.Nodup ∧ (∀ k ∈ L, k < h.length) ∧ n ≤ h.length := by
 unfold numB at hb
 simp only [yB, vE, Nat.blt_eq, Nat.ble_eq] at hb
 exact ⟨nodup_of hb.1.1, hb.1.2, hb.2⟩
theorem gcD_ok {n0 : Nat} (hfn : ∀ k ∈ fx, k < n0) {p q : Pt} (h : gcD fx n0 p = some q) {a : Act} {w : World} (hg : GoodT ρ0 X w0 fx N p a w) : GoodT ρ0 X w0 fx N q a w := by
 unfold gcD at h
 split at h
 ·simp only [yA] at h
  subst h
  exact hg
 generalize hL : keepN n0 p.2 p.1.namesT = L at h
 unfold gcK at h
 simp only at h
 split at h
 ·rename_i hc
  simp only [yB] at hc
  simp only [yA] at h
  subst h
  obtain ⟨hn, hlt, _⟩ := numB_ok hc.1
  obtain ⟨e, b, he, ρ, ⟨⟨hf, h1⟩, hk⟩, ⟨hr, hre⟩, h5, h6⟩ := hg
  refine ⟨(p.1.ren (pos L)).toEnv, 0, toEnv_get _, calleeLoc ρ L, ⟨⟨hf.trans gc_fr, fun k hk' => ?_⟩, keep_of hc.2⟩, ⟨gc_rep hr hn hlt, fun i => ?_⟩, h5, h6.fr gc_fr⟩
  ·rw [callee_at (by rw [← hL]; exact keepN_get (hfn k hk'))]
   exact h1 k hk'
  ·rw [toEnv_get, Tr.get_ren, ← he]
   exact gc_val (hre i)
 ·cases h
theorem ofEnv_get : ∀ (e : Env) (i : Nat), (ofEnv e).get i = get e i
 | [], _ => rfl
 | (j, x) :: r, i => by
  simp only [ofEnv, forceNat_eq, putT, forceV_eq]
  rw [Tr.get_put _ _ _ _ _ (vF j), ofEnv_get r i]
  rfl
theorem setPsT_get : ∀ (ps : List Nat) (xs : List V) (e : Env) (E : Tr), (∀ i, get e i = E.get i) → ∀ i, get (setPs ps xs e) i = (setPsT ps xs E).get i
 | [], [], _, _, he, i => he i
 | [], _ :: _, _, _, he, i => he i
 | _ :: _, [], _, _, he, i => he i
 | p :: ps, x :: xs, e, E, he, i => by
  simp only [setPs, setPsT]
  refine setPsT_get ps xs _ _ (fun j => ?_) i
  simp only [putT, forceV_eq]
  rw [Tr.get_put _ _ _ _ _ (vF p), ← he j]
  rfl
def Out.K (Nn : St → Prop) (Xx : Nat → St → Prop) (Rr : St → Prop) : Out → Prop
 | .normal q => ∀ b, AT b q Nn
 | .exit j q => ∀ b, AT b q (Xx j)
 | .ret q => ∀ b, AT b q Rr
def CwA (call : CallD) (mvf : FuncId → Option Nat) (iter : ItD) (C : Ctr) (it : Itr) (l : LCode) : Cx → (St → Prop) → (Nat → St → Prop) → (St → Prop) → St → Prop := fun cx Nn Xx Rr s =>
 ∃ (n0 : Nat) (yd : Nat → YtD) (E : Tr) (outs : List Out), (cx.C = C ∧ cx.it = it ∧ cx.bn = []) ∧ (∀ k ∈ cx.fx, k < n0) ∧ YdOk yd cx.y ∧ (∀ i, get s.e i = E.get i) ∧ cw call mvf iter l cx.fx n0 yd cx.rk (E, s.h) = some outs ∧ ∀ o ∈ outs, o.K Nn Xx Rr
def ItOk (P : Program) (iter : ItD) : Prop := ∀ f zas fx k yd h hs, iter f zas fx k yd h = some hs → Callable P f ∧ ∀ (Y : Yt) (K : List Blk → Prop),
 (∀ xs E h b rs Z, yd xs (E, h) = some rs → (∀ r ∈ rs, AT b r.2 (Z r.1)) → Y xs ⟨E.toEnv, h, b⟩ Z) → (∀ h' ∈ hs, K h') → Iter P f zas fx k Y h K
section
variable {call : CallD} {mvf : FuncId → Option Nat} {iter : ItD}
def CW (P : Program) (X : Nat → Prop) (N : Nat) (call : CallD) (mvf : FuncId → Option Nat) (iter : ItD) (c : Code) : Prop :=
 ∀ (l0 l : LCode), rlC P N c l0 = some l → ∀ (r : Option Nat) (fx : List Nat) (yy : Nat → Yt) (rk : Option Nat) (ρ0 : Nat → Loc) (w0 : World), (r = none ∨ (codeRd c = true ∧ inRd l = true)) →
  ROk r ⟨fun f zas h0 mv R => Callable P f ∧ Fn P f zas h0 mv R, fx, [], fun f zas fx k Y h K => Callable P f ∧ Iter P f zas fx k Y h K, yy, rk⟩ ρ0 → (∀ k, YOk P ρ0 X w0 fx k (yy k)) →
  ∀ (n0 : Nat) (yd : Nat → YtD), (∀ k ∈ fx, k < n0) → YdOk yd yy → ∀ (Q : Exit → Act → World → Prop), ¬ LetsOut Q → ∀ (p : Pt) (outs : List Out), cw call mvf iter l fx n0 yd rk p = some outs →
   (∀ o ∈ outs, ∀ a w, GoodT ρ0 X w0 fx N o.pt a w → Q o.ex a w) → ∀ a w, GoodT ρ0 X w0 fx N p a w → c.wpIn (FR r) 0 P Q a w
theorem CW.snd {c : Code} (h : CW P X N call mvf iter c) {l0 l : LCode} (hm : rlC P N c l0 = some l) :
  SndA P X N c (codeRd c = true ∧ inRd l = true) (CwA call mvf iter (fun f zas h0 mv R => Callable P f ∧ Fn P f zas h0 mv R) (fun f zas fx k Y h K => Callable P f ∧ Iter P f zas fx k Y h K) l) := by
 intro r cx ρ0 w0 hcx hrd hro hy Q Nn Xx Rr hQo hN hX hR s a w ⟨n0, yd, E, outs, ⟨h1, h2, h3⟩, h4, h5, h6, h7, h8⟩ hg
 obtain ⟨C, fx, bn, it, y, rk⟩ := cx
 simp only at h1 h2 h3 h4 h5 h7 hy hg
 subst h1 h2 h3
 refine h l0 l hm r fx y rk ρ0 w0 hrd hro hy n0 yd h4 h5 Q hQo (E, s.h) outs h7 (fun o ho a w hgd => ?_) a w ⟨s.e, s.b, h6, hg⟩
 obtain ⟨e, b, he, hgd⟩ := hgd
 have := h8 o ho
 cases o with
 | normal q => exact hN _ _ _ (this b e he) hgd
 | exit j q => exact hX j _ _ _ (this b e he) hgd
 | ret q => exact hR _ _ _ (this b e he) hgd
theorem cw_rfn (hP : P.follows .mixedOrders = true) (hcall : ∀ f zas h0 mv r h', call f zas h0 mv = some (r, h') → Callable P f ∧ Fn P f zas h0 mv (fun r1 h1 => r1 = r ∧ h1 = h')) (hiter : ItOk P iter)
  {g : Operand} {ps : Array Tmp} {asg body : Code} (ha : CW P X N call mvf iter asg) (hb : CW P X N call mvf iter body) : CW P X N call mvf iter (.rangeFunc g ps asg body) := by
 intro l0 l hm r fx yy rk ρ0 w0 hrd hro hy n0 yd hfn hyd Q hQo p outs hd hQ a w hg
 cases l0 with
 | rfn g' ps' la0 lb0 =>
  simp only [rlC] at hm
  split at hm
  ·rename_i la lb hma hmb
   split at hm
   ·rename_i hc
    simp only [yB] at hc
    simp only [yA] at hm
    subst hm
    obtain ⟨⟨hps, hcd⟩, hin⟩ := hc
    have hps' : ∀ p ∈ ps.toList, p < N := fun p hp => by simpa using vE.1 hps p hp
    obtain ⟨e0, b0, he0, hg⟩ := hg
    have hg1 : Good ρ0 X w0 fx N ⟨p.1.toEnv, p.2, b0⟩ a w := by
     obtain ⟨ρ, g1, ⟨g2, g3⟩, g4⟩ := hg
     exact ⟨ρ, g1, ⟨g2, fun i => by rw [toEnv_get, ← he0]; exact g3 i⟩, g4⟩
    have hfx1 : ∀ n, p.2.length < n → ∀ j ∈ n :: p.2.length :: fx, j < n + 1 := by
     intro n hn j hj
     obtain ⟨ρ, ⟨_, hkp⟩, _⟩ := hg
     rcases yQ.1 hj with rfl | hj
     ·omega
     ·rcases yQ.1 hj with rfl | hj
      ·omega
      ·have := keepP_get hkp j hj
       unfold liveP at this
       rcases Nat.lt_or_ge j p.2.length with h | h
       ·omega
       ·rw [uA h] at this
        exact this.elim
    have hS := rfn_okA (g := g) (ha.snd hma) (hb.snd hmb) ⟨(by simpa using hcd : _ ∧ _).1, (by simpa using hin : _ ∧ _).1⟩ ⟨(by simpa using hcd : _ ∧ _).2, (by simpa using hin : _ ∧ _).2⟩ hps'
    refine hS r ⟨_, fx, [], _, yy, rk⟩ ρ0 w0 ⟨fun f zas h0 mv R h => h, fun f zas fx k Y h K h => h⟩ (hrd.imp id fun _ => trivial) hro hy Q
     (fun s => ∃ q, Out.normal q ∈ outs ∧ (∀ i, get s.e i = q.1.get i) ∧ s.h = q.2) (fun j s => ∃ q, Out.exit j q ∈ outs ∧ (∀ i, get s.e i = q.1.get i) ∧ s.h = q.2) (fun s => ∃ q, Out.ret q ∈ outs ∧ (∀ i, get s.e i = q.1.get i) ∧ s.h = q.2) hQo ?_ ?_ ?_ _ a w ?_ hg1
    ·rintro ⟨e, h, b⟩ a w ⟨q, h1, h2, rfl⟩ hgd
     exact hQ _ h1 a w ⟨e, b, h2, hgd⟩
    ·rintro j ⟨e, h, b⟩ a w ⟨q, h1, h2, rfl⟩ hgd
     exact hQ _ h1 a w ⟨e, b, h2, hgd⟩
    ·rintro ⟨e, h, b⟩ a w ⟨q, h1, h2, rfl⟩ hgd
     exact hQ _ h1 a w ⟨e, b, h2, hgd⟩
    ·simp only [cw] at hd
     simp only [ev_ok (toEnv_get p.1)]
     split at hd
     ·rename_i gf caps hcl
      try rw [hcl]
      try simp only
      split at hd
      ·rename_i hir
       simp only [forceNat_eq] at hd
       obtain ⟨hs, h1, h2⟩ := bindL_ok hd
       obtain ⟨hcb, h3⟩ := hiter _ _ _ _ _ _ _ h1
       refine ⟨?_, hcb, h3 _ _ ?_ ?_⟩
       ·unfold inRdB at hir
        unfold inRdP
        split at hir
        ·trivial
        ·split at hir
         ·rename_i hk
          simp only [rcdK, hk]
         ·cases hir
       ·intro xs E h b rs Z hrs hZ
        simp only [rndD] at hrs
        split at hrs
        ·rename_i e hk
         split at hrs
         ·rename_i hlen
          obtain ⟨os, h4, h5⟩ := bindL_ok hrs
          obtain ⟨oa, h6, h7⟩ := bindL_ok h4
          simp only [rcdK, hk]
          refine ⟨trivial, hlen, h.length + 1, _, _, oa, ⟨rfl, rfl, rfl⟩, ?_, (fun _ _ _ _ _ _ _ h _ => by simp at h), setPsT_get _ _ _ _ (fun i => (ofEnv_get e i).symm), h6, fun o ho => ?_⟩
          ·exact hfx1 h.length (vW.1 hk).1
          ·obtain ⟨zs, h8, h9⟩ := h7 o ho
           cases o with
           | normal q =>
            simp only [begRdD] at h8
            split at h8
            ·rename_i e' hk'
             intro b' ea hea
             simp only [begRd, rcdK, hk']
             refine ⟨trivial, h.length + 1, _, _, zs, ⟨rfl, rfl, rfl⟩, ?_, (fun _ _ _ _ _ _ _ h _ => by simp at h), hea, h8, fun o2 ho2 => ?_⟩
             ·exact hfx1 h.length (vW.1 hk).1
             ·obtain ⟨zs2, h10, h11⟩ := h5 o2 (h9 o2 ho2)
              have key : ∀ (bb : Bool) (t : RS) (q2 : Pt), endRdD p.2.length h.length bb t q2 = some zs2 → ∀ b2, AT b2 q2 (endRd p.2.length h.length b Z bb t) := by
               intro bb t q2 hq2 b2 e2 he2
               simp only [endRdD] at hq2
               split at hq2
               ·rename_i er hkr
                split at hq2
                ·rename_i eg hkg
                 simp only [yA] at hq2
                 subst hq2
                 simp only [endRd, rcdK, hkr, hkg]
                 exact ⟨trivial, trivial, hZ _ (h11 _ (yK _)) _ fun i => (ofEnv_get eg i).symm⟩
                ·cases hq2
               ·cases hq2
              cases o2 with
              | normal q2 => exact fun b2 => key _ _ _ h10 b2
              | exit j q2 => exact fun b2 => key _ _ _ h10 b2
              | ret q2 => exact fun b2 => key _ _ _ h10 b2
            ·cases h8
           | exit j q => simp [begRdD] at h8
           | ret q => simp [begRdD] at h8
         ·cases hrs
        ·cases hrs
       ·intro h' hh'
        obtain ⟨zs, h4, h5⟩ := h2 h' hh'
        simp only [endLpD] at h4
        split at h4
        ·rename_i t e hk
         split at h4
         ·rename_i hw
          simp only [yB] at hw
          simp only [endLp, rcdK, hk]
          refine ⟨⟨wfEB_ok _ hw.1, wfBB_ok _ hw.2⟩, ?_⟩
          split at h4
          ·simp only [yA] at h4
           subst h4
           exact ⟨_, h5 _ (yK _), fun i => (ofEnv_get e i).symm, rfl⟩
          ·simp only [yA] at h4
           subst h4
           exact ⟨_, h5 _ (yK _), fun i => (ofEnv_get e i).symm, rfl⟩
          ·simp only [yA] at h4
           subst h4
           exact ⟨_, h5 _ (yK _), fun i => (ofEnv_get e i).symm, rfl⟩
          ·cases h4
         ·cases h4
        ·cases h4
      ·cases hd
     ·cases hd
   ·cases hm
  ·cases hm
 | _ => simp [rlC] at hm
theorem cw_sound (hP : P.follows .mixedOrders = true) (hcall : ∀ f zas h0 mv r h', call f zas h0 mv = some (r, h') → Callable P f ∧ Fn P f zas h0 mv (fun r1 h1 => r1 = r ∧ h1 = h')) (hiter : ItOk P iter) : ∀ c : Code, CW P X N call mvf iter c := by
 have hcl : ∀ f zas h0 mv r h', call f zas h0 mv = some (r, h') → (fun f zas h0 mv R => Callable P f ∧ Fn P f zas h0 mv R) f zas h0 mv (fun r1 h1 => r1 = r ∧ h1 = h') := hcall
 have hcx : ∀ (fx : List Nat) (yy : Nat → Yt) (rk : Option Nat), Cx.ok ⟨fun f zas h0 mv R => Callable P f ∧ Fn P f zas h0 mv R, fx, [], fun f zas fx k Y h K => Callable P f ∧ Iter P f zas fx k Y h K, yy, rk⟩ P := fun _ _ _ => ⟨fun f zas h0 mv R h => h, fun f zas fx k Y h K h => h⟩
 intro c
 induction c with
 | skip =>
  intro l0 l hm r fx yy rk ρ0 w0 hrd hro hy n0 yd hfn hyd Q hQo p outs hd hQ a w hg
  simp only [rlC, yA] at hm
  subst hm
  simp only [cw, yA] at hd
  subst hd
  exact wpIn_skip (hQ (.normal p) (by simp) a w hg)
 | label i =>
  intro l0 l hm r fx yy rk ρ0 w0 hrd hro hy n0 yd hfn hyd Q hQo p outs hd hQ a w hg
  simp only [rlC, yA] at hm
  subst hm
  simp only [cw, yA] at hd
  subst hd
  exact wpIn_label (hQ (.normal p) (by simp) a w hg)
 | scope c ih =>
  intro l0 l hm r fx yy rk ρ0 w0 hrd hro hy n0 yd hfn hyd Q hQo p outs hd hQ a w hg
  simp only [rlC] at hm
  rcases hrd with rfl | hrd
  ·refine (wpIn_wide (n := 0)).2 (wp_scope_straight ((wpIn_wide (n := 0)).1 (ih l0 l hm none fx yy rk ρ0 w0 (.inl rfl) hro hy n0 yd hfn hyd (Exit.noGoto Q) (fun ⟨a, w, hq⟩ => hQo ⟨a, w, hq⟩) p outs hd (fun o ho a w h => ?_) a w hg)))
   have := hQ o ho a w h
   cases o <;> exact this
  ·exact absurd hrd.1 (by simp [codeRd])
 | ret =>
  intro l0 l hm r fx yy rk ρ0 w0 hrd hro hy n0 yd hfn hyd Q hQo p outs hd hQ a w hg
  simp only [rlC, yA] at hm
  subst hm
  simp only [cw, yA] at hd
  subst hd
  exact wpIn_ret (hQ (.ret p) (by simp) a w hg)
 | exit i =>
  intro l0 l hm r fx yy rk ρ0 w0 hrd hro hy n0 yd hfn hyd Q hQo p outs hd hQ a w hg
  simp only [rlC, yA] at hm
  subst hm
  simp only [cw, yA] at hd
  subst hd
  exact wpIn_exit (hQ (.exit i p) (by simp) a w hg)
 | region id ops draw =>
  intro l0 l hm r fx yy rk ρ0 w0 hrd hro hy n0 yd hfn hyd Q hQo p outs hd hQ a w hg
  have hdf : r = none ∨ ops.toList.all notDefer = true := hrd.imp (fun h => h) fun h => h.1
  have hN : ∀ {ps : List Pt}, outs = ps.map .normal → ∀ (s : St) a w, (∃ q ∈ ps, (∀ i, get s.e i = q.1.get i) ∧ s.h = q.2) → Good ρ0 X w0 fx N s a w → Q .normal a w := by
   rintro ps rfl s a w ⟨q, hq, h1, h2⟩ hg
   exact hQ (.normal q) (by rw [yJ]; exact ⟨q, hq, rfl⟩) a w ⟨s.e, s.b, h1, by show Good ρ0 X w0 fx N ⟨s.e, q.2, s.b⟩ a w; rw [← h2]; exact hg⟩
  simp only [rlC] at hm
  split at hm
  ·split at hm
   ·rename_i x hr
    simp only [yA] at hm
    subst hm
    simp only [cw, yL] at hd
    obtain ⟨ps, h1, h2⟩ := hd
    obtain ⟨e, he, hgr⟩ := hg.reserve _
    exact wpIn_region_list (listIn hQo _ (hdf.imp (fun h => h) fun h => vE.1 h) _ _ (aOps_sound (hcx fx yy rk) rfl (hN h2.symm) _ _ _ _ a w hr hgr (opsD_ok hcl h1 he fun q hq e' he' => ⟨q, hq, he', rfl⟩)))
   ·cases hm
  ·split at hm
   ·rename_i x hr
    split at hm
    ·rename_i hc
     simp only [yB] at hc
     simp only [yA] at hm
     subst hm
     rcases hrd with rfl | hrd
     ·simp only [cw, yL] at hd
      obtain ⟨ps, h1, h2⟩ := hd
      obtain ⟨e, he, hgr⟩ := hg.reserve _
      exact (wpIn_wide (n := 0)).2 (qui_sound (cx := ⟨fun f zas h0 mv R => Callable P f ∧ Fn P f zas h0 mv R, fx, [], fun f zas fx k Y h K => Callable P f ∧ Iter P f zas fx k Y h K, yy, rk⟩) hP (hN h2.symm) hr hc.1 hc.2 hgr (opsD_ok hcl h1 he fun q hq e' he' => ⟨q, hq, he', rfl⟩))
     ·exact absurd hrd.2 (by simp [inRd])
    ·cases hm
   ·cases hm
  ·split at hm
   ·rename_i x hr
    split at hm
    ·rename_i hc
     simp only [yB] at hc
     simp only [yA] at hm
     subst hm
     rcases hrd with rfl | hrd
     ·simp only [cw, yL] at hd
      obtain ⟨ps, h1, h2⟩ := hd
      obtain ⟨e, he, hgr⟩ := hg.reserve _
      exact (wpIn_wide (n := 0)).2 (tail_sound hP (hcx fx yy rk) rfl (hN h2.symm) hr hc.1 hc.2 hgr (opsD_ok hcl h1 he fun q hq e' he' => ⟨q, hq, he', rfl⟩))
     ·exact absurd hrd.2 (by simp [inRd])
    ·cases hm
   ·cases hm
  ·split at hm
   ·rename_i x hr
    simp only [yA] at hm
    subst hm
    simp only [cw] at hd
    split at hd
    ·cases hd
    ·rename_i ps h1
     simp only [yL] at hd
     obtain ⟨js, h2, h3⟩ := hd
     obtain ⟨e, he, hgr⟩ := hg.reserve _
     refine tree_in hP (hcx fx yy rk) hQo (K := fun s => ∃ q ∈ ps, (∀ i, get s.e i = q.1.get i) ∧ s.h = q.2) ?_ hdf hr hgr (planD_ok hcl h1 he fun q hq e' he' => ⟨q, hq, he', rfl⟩)
     rintro s a w ⟨q, hq, h4, h5⟩ hg
     obtain ⟨j, hj, hgj⟩ := joinD_ok h2 hq (⟨s.e, s.b, h4, by rw [← h5]; exact hg⟩ : GoodT ρ0 X w0 fx N q a w)
     subst h3
     exact hQ (.normal j) (by rw [yJ]; exact ⟨j, hj, rfl⟩) a w hgj
   ·cases hm
  ·split at hm
   ·rename_i x hr
    split at hm
    ·rename_i hc
     simp only [yA] at hm
     subst hm
     rcases hrd with rfl | hrd
     ·simp only [cw, yL] at hd
      obtain ⟨ps, h1, h2⟩ := hd
      obtain ⟨e, he, hgr⟩ := hg.reserve _
      have hops := opsYD_ok (C := fun f zas h0 mv R => Callable P f ∧ Fn P f zas h0 mv R) (it := fun f zas fx k Y h K => Callable P f ∧ Iter P f zas fx k Y h K) (rk := rk) (K := fun s => ∃ q ∈ ps, (∀ i, get s.e i = q.1.get i) ∧ s.h = q.2) hcl hyd h1 he fun q hq e' he' => ⟨q, hq, he', rfl⟩
      cases draw with
      | false => exact wpIn_region_list (aOpsY_sound (hcx fx yy rk) hy (hN h2.symm) _ _ _ _ a w hr hgr hops)
      | true =>
       simp only [Bool.not_true, Bool.false_or, yB] at hc
       exact yreg_in hP (hcx fx yy rk) hy hQo (hN h2.symm) hr hc.1 hc.2 hgr hops
     ·exact absurd hrd.2 (by simp [inRd])
    ·cases hm
   ·cases hm
  ·split at hm
   ·rename_i p' x hpl hr
    split at hm
    ·rename_i hlt
     simp only [yA] at hm
     subst hm
     rcases hrd with rfl | hrd
     ·simp only [cw] at hd
      split at hd
      ·cases hd
      ·rename_i ps h1
       simp only [yL] at hd
       obtain ⟨js, h2, h3⟩ := hd
       obtain ⟨e, he, hgr⟩ := hg.reserve _
       obtain ⟨xs, h4, h5⟩ := bindL_ok h1
       refine ytree_in hP (hcx fx yy none) hy hQo (K := fun s => ∃ q ∈ ps, (∀ i, get s.e i = q.1.get i) ∧ s.h = q.2) ?_ hpl hr hlt hgr (planD_ok hcl h4 he fun q hq e' he' => ?_)
       ·rintro s a w ⟨q, hq, h6, h7⟩ hg
        obtain ⟨j, hj, hgj⟩ := joinD_ok h2 hq (⟨s.e, s.b, h6, by rw [← h7]; exact hg⟩ : GoodT ρ0 X w0 fx N q a w)
        subst h3
        exact hQ (.normal j) (by rw [yJ]; exact ⟨j, hj, rfl⟩) a w hgj
       ·obtain ⟨zs, h6, h7⟩ := h5 q hq
        exact opsYD_ok (C := fun f zas h0 mv R => Callable P f ∧ Fn P f zas h0 mv R) (it := fun f zas fx k Y h K => Callable P f ∧ Iter P f zas fx k Y h K) hcl hyd h6 he' fun z hz e2 he2 => ⟨z, h7 z hz, he2, rfl⟩
     ·exact absurd hrd.2 (by simp [inRd])
    ·cases hm
   ·cases hm
  ·simp only [yA] at hm
   subst hm
   simp [cw] at hd
  ·cases hm
 | seq x y iha ihb =>
  intro l0 l hm r fx yy rk ρ0 w0 hrd hro hy n0 yd hfn hyd Q hQo p outs hd hQ a w hg
  have key : ∀ {x' y' lx ly : LCode} {p : Pt}, rlC P N x lx = some x' → rlC P N y ly = some y' → (r = none ∨ (codeRd x = true ∧ inRd x' = true)) → (r = none ∨ (codeRd y = true ∧ inRd y' = true)) →
    andD (cw call mvf iter x' fx n0 yd rk p) (cw call mvf iter y' fx n0 yd rk) = some outs → GoodT ρ0 X w0 fx N p a w → (Code.seq x y).wpIn (FR r) 0 P Q a w := by
   intro x' y' lx ly p h1 h2 hra hrb hd hg
   unfold andD at hd
   obtain ⟨os, h3, h4⟩ := bindL_ok hd
   refine wpIn_seq (iha _ _ h1 r fx yy rk ρ0 w0 hra hro hy n0 yd hfn hyd _ (LetsOut_then hQo) p os h3 (fun o ho a w h => ?_) a w hg)
   obtain ⟨zs, h5, h6⟩ := h4 o ho
   cases o with
   | normal q => exact ihb _ _ h2 r fx yy rk ρ0 w0 hrb hro hy n0 yd hfn hyd Q hQo q zs h5 (fun o ho => hQ o (h6 o ho)) a w h
   | exit j q =>
    simp only [yA] at h5
    subst h5
    exact hQ _ (h6 _ (by simp)) a w h
   | ret q =>
    simp only [yA] at h5
    subst h5
    exact hQ _ (h6 _ (by simp)) a w h
  simp only [rlC] at hm
  split at hm
  ·split at hm
   ·rename_i x' y' h1 h2
    simp only [yA] at hm
    subst hm
    exact key h1 h2 (hrd.imp (fun h => h) fun h => by simp only [codeRd, inRd, yB] at h; exact ⟨h.1.1, h.2.1⟩) (hrd.imp (fun h => h) fun h => by simp only [codeRd, inRd, yB] at h; exact ⟨h.1.2, h.2.2⟩) hd hg
   ·cases hm
  ·split at hm
   ·rename_i x' y' h1 h2
    simp only [yA] at hm
    subst hm
    simp only [cw] at hd
    split at hd
    ·rename_i q hf
     obtain ⟨e, b, he, hgd⟩ := hg
     obtain ⟨s', ⟨g1, g2⟩, hgd'⟩ := frzP_good (K := fun s => (∀ i, get s.e i = q.1.get i) ∧ s.h = q.2) _ _ (frzD_ok (b := b) _ p.1 p.2 e he hf fun e' he' => ⟨he', rfl⟩) hgd
     exact key h1 h2 (hrd.imp (fun h => h) fun h => by simp only [codeRd, inRd, yB] at h; exact ⟨h.1.1, h.2.1⟩) (hrd.imp (fun h => h) fun h => by simp only [codeRd, inRd, yB] at h; exact ⟨h.1.2, h.2.2⟩) hd ⟨s'.e, s'.b, g1, by rw [← g2]; exact hgd'⟩
    ·cases hd
   ·cases hm
  ·simp only [yA] at hm
   subst hm
   simp [cw] at hd
  ·cases hm
 | cond c x y iha ihb =>
  intro l0 l hm r fx yy rk ρ0 w0 hrd hro hy n0 yd hfn hyd Q hQo p outs hd hQ a w hg
  simp only [rlC] at hm
  split at hm
  ·split at hm
   ·rename_i x' y' h1 h2
    simp only [yA] at hm
    subst hm
    have hra : r = none ∨ (codeRd x = true ∧ inRd x' = true) := hrd.imp (fun h => h) fun h => by simp only [codeRd, inRd, yB] at h; exact ⟨h.1.1, h.2.1⟩
    have hrb : r = none ∨ (codeRd y = true ∧ inRd y' = true) := hrd.imp (fun h => h) fun h => by simp only [codeRd, inRd, yB] at h; exact ⟨h.1.2, h.2.2⟩
    simp only [cw] at hd
    have hev : ∀ t, evT p.1 c = .v (.bool t) → a.eval c = .bool t := by
     intro t ht
     obtain ⟨e, b, he, ρ, _, ⟨_, hre⟩, _⟩ := hg
     have := ev_rep hre c
     rw [ev_ok he, ht] at this
     exact this
    split at hd
    ·rename_i ht
     refine wpIn_cond (hev _ ht) ?_
     exact iha _ _ h1 r fx yy rk ρ0 w0 hra hro hy n0 yd hfn hyd Q hQo p outs hd hQ a w hg
    ·rename_i ht
     refine wpIn_cond (hev _ ht) ?_
     exact ihb _ _ h2 r fx yy rk ρ0 w0 hrb hro hy n0 yd hfn hyd Q hQo p outs hd hQ a w hg
    ·cases hd
   ·cases hm
  ·cases hm
 | block i x iha =>
  intro l0 l hm r fx yy rk ρ0 w0 hrd hro hy n0 yd hfn hyd Q hQo p outs hd hQ a w hg
  simp only [rlC] at hm
  split at hm
  ·split at hm
   ·rename_i x' h1
    simp only [yA] at hm
    subst hm
    simp only [cw, blockD] at hd
    split at hd
    ·cases hd
    ·rename_i os h2
     split at hd
     ·cases hd
     ·rename_i ps h3
      simp only [yA] at hd
      subst hd
      have hnorm : ∀ q a w, Out.normal q ∈ os.map (leave i) → GoodT ρ0 X w0 fx N q a w → Q .normal a w := by
       intro q a w hq hgq
       obtain ⟨j, hj, hgj⟩ := joinD_ok h3 (norms_mem hq) hgq
       exact hQ (.normal j) (by simp only [List.mem_append, yJ]; exact .inl ⟨j, hj, rfl⟩) a w hgj
      refine wpIn_block (iha _ _ h1 r fx yy rk ρ0 w0 hrd hro hy n0 yd hfn hyd (Exit.inBlock i Q) (fun ⟨a, w, hq⟩ => hQo ⟨a, w, hq⟩) p os h2 (fun o ho a w h => ?_) a w hg)
      cases o with
      | normal q => exact hnorm q a w (by rw [yJ]; exact ⟨_, ho, rfl⟩) h
      | exit j q =>
       show if j = i then _ else _
       split
       ·rename_i hj
        exact hnorm q a w (by rw [yJ]; exact ⟨_, ho, by simp [leave, hj]⟩) h
       ·rename_i hj
        exact hQ (.exit j q) (vM _ (others_mem (by rw [yJ]; exact ⟨_, ho, by simp [leave, hj]⟩) (by simp))) a w h
      | ret q => exact hQ (.ret q) (vM _ (others_mem (by rw [yJ]; exact ⟨_, ho, rfl⟩) (by simp))) a w h
   ·cases hm
  ·cases hm
 | loop x iha =>
  intro l0 l hm r fx yy rk ρ0 w0 hrd hro hy n0 yd hfn hyd Q hQo p outs hd hQ a w hg
  simp only [rlC] at hm
  split at hm
  ·split at hm
   ·rename_i x' h1
    simp only [yA] at hm
    subst hm
    simp only [cw] at hd
    refine wpIn_loop_ghost (fun n a w => ∃ q zs, loopD fx n0 (cw call mvf iter x' fx n0 yd rk) n q = some zs ∧ (∀ z ∈ zs, z ∈ outs) ∧ GoodT ρ0 X w0 fx N q a w) 3000 ⟨p, outs, hd, fun _ h => h, hg⟩ ?_
    rintro n a' w' ⟨q, zs, h2, h3, hgq⟩
    cases n with
    | zero => simp [loopD] at h2
    | succ n =>
     simp only [loopD, andD] at h2
     split at h2
     rotate_left
     ·cases h2
     rename_i qg hqg
     have hgq' := gcD_ok hfn hqg hgq
     obtain ⟨os, h4, h5⟩ := bindL_ok h2
     refine iha _ _ h1 r fx yy rk ρ0 w0 hrd hro hy n0 yd hfn hyd _ (LetsOut_then hQo) qg os h4 (fun o ho a w h => ?_) a' w' hgq'
     obtain ⟨ys, h6, h7⟩ := h5 o ho
     cases o with
     | normal q' => exact ⟨n, vF n, q', ys, h6, fun z hz => h3 z (h7 z hz), h⟩
     | exit j q' =>
      simp only [yA] at h6
      subst h6
      exact hQ _ (h3 _ (h7 _ (by simp))) a w h
     | ret q' =>
      simp only [yA] at h6
      subst h6
      exact hQ _ (h3 _ (h7 _ (by simp))) a w h
   ·cases hm
  ·cases hm
 | rangeFunc g ps asg body iha ihb => exact cw_rfn hP hcall hiter iha ihb
 | _ => intro l0 l hm; simp [rlC] at hm
end
theorem resD_ok {p : Pt} {e : Env} (he : ∀ i, get e i = p.1.get i) {K : List V → Prop} : ∀ (ls : List LRes) (acc xs : List V), resD p ls = some xs → K (acc.reverse ++ xs) → resP p.2 e ls acc K
 | [], acc, xs, h, hK => by
  simp only [resD, yA] at h
  subst h
  simpa [resP] using hK
 | .tmp t :: r, acc, xs, h, hK => by
  simp only [resD] at h
  split at h
  ·rename_i ys hy
   simp only [yA] at h
   subst h
   simp only [resP, he]
   exact resD_ok he r _ ys hy (by simpa using hK)
  ·cases h
 | .cell a n :: r, acc, xs, h, hK => by
  simp only [resD] at h
  split at h
  ·rename_i x ys hx hy
   simp only [yA] at h
   subst h
   simp only [resP, he]
   exact load_ok (K := fun x => resP p.2 e r (x :: acc) K) hx (resD_ok he r _ ys hy (by simpa using hK))
  ·cases h
theorem argsT_get : ∀ (i : Nat) (xs : List V) (E : Tr) (j : Nat), (argsT i xs E).get j = if i ≤ j ∧ j < i + xs.length then (xs[j - i]?).getD .any else E.get j
 | i, [], E, j => by
  simp only [argsT, vC, Nat.add_zero]
  rw [if_neg (by omega)]
 | i, x :: r, E, j => by
  simp only [argsT]
  rw [argsT_get (i + 1) r]
  simp only [putT, forceV_eq, yN]
  rw [Tr.get_put _ _ _ _ _ (vF i)]
  by_cases h : j = i
  ·subst h
   rw [if_neg (by omega), if_pos rfl, if_pos (by omega)]
   simp
  ·by_cases h2 : i + 1 ≤ j ∧ j < i + 1 + r.length
   ·rw [if_pos h2, if_pos (by omega), show j - i = (j - (i + 1)) + 1 by omega]
    simp
   ·rw [if_neg h2, if_neg h, if_neg (by omega)]
theorem args_get (xs : List V) (j : Nat) : get (args0 0 xs) j = (argsT 0 xs .lf).get j := by
 rw [args0_get, argsT_get]
 simp only [yT, if_true, Nat.sub_zero, vA, true_and]
 split
 ·rfl
 ·rename_i h
  have : xs[j]? = none := by simpa using h
  rw [this]
  rfl
theorem body_ok (hP : P.follows .mixedOrders = true) {call : CallD} {mvf : FuncId → Option Nat} {iter : ItD} (hcall : ∀ f zas h0 mv r h', call f zas h0 mv = some (r, h') → Callable P f ∧ Fn P f zas h0 mv (fun r1 h1 => r1 = r ∧ h1 = h')) (hiter : ItOk P iter)
  {f : FuncId} {en : Ent} (hl : rlF P f en.code = some (en.code, en.rs, en.nt)) {args : List V} {h0 : List Blk} {mv : List Nat} {r : V} {h' : List Blk}
  (hd : bodyD call mvf iter en args h0 mv ((yP h0.length).filter fun k => !(hasN mv k)) = some (r, h')) : Fn P f args h0 mv (fun r1 h1 => r1 = r ∧ h1 = h') := by
 generalize hfxd : ((yP h0.length).filter fun k => !(hasN mv k)) = fx at hd
 unfold bodyD at hd
 split at hd
 ·rename_i hc
  simp only [yB, decide_eq_true_eq] at hc
  split at hd
  ·rename_i outs hcw
   unfold rlF at hl
   split at hl
   ·rename_i fn hf
    split at hl
    ·rename_i c rs' hb hres ht
     simp only [yB, yV, decide_eq_true_eq] at ht
     cases hm : rlC P fn.ntmps c en.code with
     | none => simp [hm] at hl
     | some l1 =>
      simp only [hm, vG, yA, vB] at hl
      obtain ⟨rfl, hrs, hnt⟩ := hl
      have hfx : keepP fx h0 := keep_of hc.2
      have hmv : ∀ k, k < h0.length → k ∉ mv → k ∈ fx := by
       intro k hk hkm
       rw [← hfxd, List.mem_filter]
       refine ⟨by simpa using hk, ?_⟩
       cases hh : hasN mv k with
       | true => exact absurd (hasN_iff.1 hh) hkm
       | false => rfl
      intro ρ X w vals hr ha
      have hvl := RepL_len ha
      refine (callsIn_wide (n := 0)).1 (callsIn_of_wp_marks hf hb trivial ?_)
      have hg : GoodT ρ X w fx fn.ntmps (argsT 0 args .lf, h0) { tmps := vals.toArray ++ vN (fn.ntmps - vals.toArray.size) undef, defers := [] } w :=
       ⟨args0 0 args, 0, args_get args, ρ, ⟨⟨Fr.refl _ _, fun _ _ => rfl⟩, hfx⟩, ⟨hr, args0_rep ha _⟩, by simp; omega, Marks.nil⟩
      have hend : ∀ p, finD fx h0.length en.rs p = some (r, h') → ∀ s, (∀ i, get s.e i = p.1.get i) → s.h = p.2 → ∀ a w', Good ρ X w fx fn.ntmps s a w' → ∃ v, (results fn a.tmps).run P w' = .ok v w' ∧ ∃ val r1 h1 ρ', Ending.returned v = .returned val ∧ ((r1 = r ∧ h1 = h') ∧ h0.length ≤ h1.length) ∧ Fr ρ w ρ' w' ∧ Rep ρ' X w' h1 ∧ RepV ρ' X w' r1 val ∧
        ∀ k, k < h0.length → k ∉ mv → ρ' k = ρ k := by
       rintro p hfin ⟨e, h, b⟩ he rfl a w' ⟨ρ', ⟨⟨hf1, hfx1⟩, hk1⟩, ⟨hr1, he1⟩, hN1, hd1⟩
       unfold finD at hfin
       split at hfin
       ·cases hfin
       ·rename_i xs hxs
        generalize hL : keepN h0.length p.2 (namesL xs) = L at hfin
        simp only at hfin
        split at hfin
        ·rename_i hcc
         simp only [yB] at hcc
         simp only [yA, vB] at hfin
         obtain ⟨rfl, rfl⟩ := hfin
         obtain ⟨hn, hlt, hle⟩ := numB_ok hcc.1
         obtain ⟨ys, vs, h5, h6, h7⟩ := resP_run hr1 he1 (K := fun ys => ys = xs) fn.results.toList rs' [] [] hres trivial (by rw [hrs]; exact resD_ok he _ [] xs hxs rfl)
         simp only [List.reverse_nil, List.nil_append] at h5
         subst h5
         refine ⟨tupU vs, results_run ht.1 h7, _, _, _, calleeLoc ρ' L, rfl, ⟨⟨rfl, rfl⟩, ?_⟩, hf1.trans gc_fr, gc_rep hr1 hn hlt, gc_val (tup_rep h6), fun k hk hkm => ?_⟩
         ·rw [yW, ← hL]
          simp [keepN]
         ·rw [callee_at (by rw [← hL]; exact keepN_get hk)]
          exact hfx1 k (hmv k hk hkm)
        ·cases hfin
      have hone : ∀ o ∈ outs, (∃ p, o = .normal p ∨ o = .ret p) ∧ finD fx h0.length en.rs o.pt = some (r, h') := by
       intro o ho
       unfold endD at hd
       split at hd
       ·simp only [vL] at ho; subst ho; exact ⟨⟨_, .inl rfl⟩, hd⟩
       ·simp only [vL] at ho; subst ho; exact ⟨⟨_, .inr rfl⟩, hd⟩
       ·cases hd
      refine cw_sound (P := P) (X := X) (N := fn.ntmps) hP hcall hiter c _ _ hm none fx (fun _ _ _ _ => False) none ρ w (.inl rfl) trivial (fun _ => YOk_none) h0.length _ (fun k hk => by rw [← hfxd, List.mem_filter] at hk; simpa using hk.1)
       (fun _ _ _ _ _ _ _ h _ => by simp at h) _ ?_ _ outs hcw (fun o ho a w' hgd => ?_) _ _ hg
      ·rintro ⟨a, w', val, _, _, _, hq, _⟩
       cases hq
      ·obtain ⟨⟨p, hp⟩, hfin⟩ := hone o ho
       obtain ⟨e, b, he, hgd⟩ := hgd
       rcases hp with rfl | rfl
       ·exact leaves_of (hend p hfin ⟨e, p.2, b⟩ he rfl) a.defers a w' rfl hgd
       ·exact leaves_of (hend p hfin ⟨e, p.2, b⟩ he rfl) a.defers a w' rfl hgd
    ·cases hl
   ·cases hl
  ·cases hd
 ·cases hd
theorem heapsD_ok : ∀ {outs : List Out} {hs : List (List Blk)}, heapsD outs = some hs → ∀ o ∈ outs, (∃ p, (o = .normal p ∨ o = .ret p) ∧ p.2 ∈ hs)
 | [], _, _, o, ho => by simp at ho
 | x :: r, hs, h, o, ho => by
  simp only [heapsD] at h
  split at h
  ·rename_i p l hl
   simp only [yA] at h
   subst h
   rcases yQ.1 ho with rfl | ho
   ·exact ⟨p, .inl rfl, by simp⟩
   ·obtain ⟨q, h1, h2⟩ := heapsD_ok hl o ho
    exact ⟨q, h1, by simp [h2]⟩
  ·rename_i p l hl
   simp only [yA] at h
   subst h
   rcases yQ.1 ho with rfl | ho
   ·exact ⟨p, .inr rfl, by simp⟩
   ·obtain ⟨q, h1, h2⟩ := heapsD_ok hl o ho
    exact ⟨q, h1, by simp [h2]⟩
  ·cases h
theorem ibody_ok (hP : P.follows .mixedOrders = true) {call : CallD} {mvf : FuncId → Option Nat} {iter : ItD} (hcall : ∀ f zas h0 mv r h', call f zas h0 mv = some (r, h') → Callable P f ∧ Fn P f zas h0 mv (fun r1 h1 => r1 = r ∧ h1 = h')) (hiter : ItOk P iter)
  {f : FuncId} {en : Ent} (hl : rlF P f en.code = some (en.code, en.rs, en.nt)) {args : List V} {fx : List Nat} {k : Nat} {yd : YtD} {h : List Blk} {hs : List (List Blk)}
  (hd : ibodyD call mvf iter en args fx k yd h = some hs) {Y : Yt} {K : List Blk → Prop}
  (hY : ∀ xs E h b rs Z, yd xs (E, h) = some rs → (∀ r ∈ rs, AT b r.2 (Z r.1)) → Y xs ⟨E.toEnv, h, b⟩ Z) (hK : ∀ h' ∈ hs, K h') : Iter P f args fx k Y h K := by
 unfold ibodyD at hd
 split at hd
 ·rename_i hc
  simp only [yB, decide_eq_true_eq, List.isEmpty_iff, vE, Nat.blt_eq] at hc
  split at hd
  ·rename_i outs hcw
   unfold rlF at hl
   split at hl
   ·rename_i fn hf
    split at hl
    ·rename_i c rs' hb hres ht
     simp only [yB, yV, decide_eq_true_eq] at ht
     cases hm : rlC P fn.ntmps c en.code with
     | none => simp [hm] at hl
     | some l1 =>
      simp only [hm, vG, yA, vB] at hl
      obtain ⟨rfl, hrs, hnt⟩ := hl
      have hnil : fn.results.toList = [] := by
       cases hl : fn.results.toList with
       | nil => rfl
       | cons r rs =>
        rw [hrs, hc.1.2] at hres
        rw [hl] at hres
        simp only [rlRes] at hres
        split at hres <;> simp at hres
      intro ρ X w vals hr ha hfx hYk
      have hvl := RepL_len ha
      refine (callsIn_wide (n := 0)).1 (callsIn_of_wp_marks hf hb trivial ?_)
      have hg : GoodT ρ X w fx fn.ntmps (argsT 0 args .lf, h) { tmps := vals.toArray ++ vN (fn.ntmps - vals.toArray.size) undef, defers := [] } w :=
       ⟨args0 0 args, 0, args_get args, ρ, ⟨⟨Fr.refl _ _, fun _ _ => rfl⟩, hfx⟩, ⟨hr, args0_rep ha _⟩, by simp; omega, Marks.nil⟩
      have hend : ∀ s, K s.h → ∀ a w', Good ρ X w fx fn.ntmps s a w' → ∃ v, (results fn a.tmps).run P w' = .ok v w' ∧ ∃ val h' ρ', Ending.returned v = .returned val ∧ K h' ∧ (Fr ρ w ρ' w' ∧ Rep ρ' X w' h') ∧ (∀ j ∈ fx, ρ' j = ρ j) ∧ keepP fx h' := by
       intro s hK a w' hgood
       obtain ⟨ρ', ⟨⟨hf1, hfx1⟩, hk1⟩, ⟨hr1, he1⟩, hN1, hd1⟩ := hgood
       exact ⟨tupU [], results_run (us := []) (by rw [hnil]; simp) (by rw [hnil]; trivial), _, s.h, ρ', rfl, hK, ⟨hf1, hr1⟩, hfx1, hk1⟩
      refine cw_sound (P := P) (X := X) (N := fn.ntmps) hP hcall hiter c _ _ hm none fx (fun k' xs s Z => k' = k ∧ ∃ E : Tr, (∀ i, get s.e i = E.get i) ∧ Y xs ⟨E.toEnv, s.h, s.b⟩ Z) none ρ w (.inl rfl) trivial (fun k' => ?_) h.length _ hc.2.2 ?_ _ ?_ _ outs hcw (fun o ho a w' hgd => ?_) _ _ hg
      ·intro ρ1 w1 s tmps xs vs Z h1 h2 h3 h5 h6 h7
       obtain ⟨rfl, E, hE, h7⟩ := h7
       exact hYk ρ1 w1 ⟨E.toEnv, s.h, s.b⟩ tmps xs vs Z h1 h2 h3 (fun i => by rw [toEnv_get, ← hE]; exact h5 i) h6 h7
      ·intro k' xs s E rs Z hs hrs hZ
       simp only at hrs
       split at hrs
       ·rename_i hk
        rw [Nat.beq_eq] at hk
        exact ⟨hk, E, hs, hY xs E s.h s.b rs Z hrs hZ⟩
       ·cases hrs
      ·rintro ⟨a, w', val, _, _, hq, _⟩
       cases hq
      ·obtain ⟨p, hp, hin⟩ := heapsD_ok hd o ho
       obtain ⟨e, b, he, hgd⟩ := hgd
       rcases hp with rfl | rfl
       ·exact leaves_of (hend ⟨e, p.2, b⟩ (hK _ hin)) a.defers a w' rfl hgd
       ·exact leaves_of (hend ⟨e, p.2, b⟩ (hK _ hin)) a.defers a w' rfl hgd
    ·cases hl
   ·cases hl
  ·cases hd
 ·cases hd
theorem findM_ok {f : FuncId} {zas : List V} {h0 : List Blk} {r : V} {h : List Blk} : ∀ {M : List Memo}, findM f zas h0 M = some (r, h) → ∃ m ∈ M, m.f = f ∧ m.zas = zas ∧ m.h0 = h0 ∧ m.r = r ∧ m.h = h
 | [], hf => by simp [findM] at hf
 | m :: l, hf => by
  simp only [findM] at hf
  split at hf
  ·rename_i hc
   simp only [yB, Nat.beq_eq] at hc
   simp only [yA, vB] at hf
   exact ⟨m, by simp, hc.1, eqL_ok hc.2.1, eqBs_ok hc.2.2, hf.1, hf.2⟩
  ·obtain ⟨m', h1, h2⟩ := findM_ok hf
   exact ⟨m', by simp [h1], h2⟩
def okL (P : Program) : Nat → List (Option Ent) → Prop
 | _, [] => True
 | i, none :: r => okL P (i + 1) r
 | i, some en :: r => rlF P i en.code = some (en.code, en.rs, en.nt) ∧ okL P (i + 1) r
theorem okL_get : ∀ {T : List (Option Ent)} {i : Nat}, okL P i T → ∀ (f : Nat) (en : Ent), T[f]? = some (some en) → rlF P (i + f) en.code = some (en.code, en.rs, en.nt)
 | none :: r, i, h, 0, en, he => by simp at he
 | some e :: r, i, h, 0, en, he => by
  simp only [vH, yA] at he
  subst he
  exact h.1
 | none :: r, i, h, f + 1, en, he => by
  have := okL_get (i := i + 1) h f en (by simpa using he)
  rwa [show i + (f + 1) = i + 1 + f by omega]
 | some e :: r, i, h, f + 1, en, he => by
  have := okL_get (i := i + 1) h.2 f en (by simpa using he)
  rwa [show i + (f + 1) = i + 1 + f by omega]
 | [], _, _, _, _, he => by simp at he
def Memo.ok (P : Program) (m : Memo) : Prop := Callable P m.f ∧ Fn P m.f m.zas m.h0 [] (fun r h => r = m.r ∧ h = m.h)
theorem fiD_ok (hP : P.follows .mixedOrders = true) {T : List (Option Ent)} (hT : okL P 0 T) {M : List Memo} (hM : ∀ m ∈ M, m.ok P) : ∀ d : Nat,
  (∀ (f : FuncId) (zas : List V) (h0 : List Blk) (mv : List Nat) (r : V) (h' : List Blk), (fiD T M d).1 f zas h0 mv = some (r, h') → Callable P f ∧ Fn P f zas h0 mv (fun r1 h1 => r1 = r ∧ h1 = h')) ∧ ItOk P (fiD T M d).2
 | 0 => ⟨fun _ _ _ _ _ _ h => by simp [fiD] at h, fun _ _ _ _ _ _ _ h => by simp [fiD] at h⟩
 | d + 1 => by
  obtain ⟨ih1, ih2⟩ := fiD_ok hP hT hM d
  refine ⟨fun f zas h0 mv r h' h => ?_, fun f zas fx k yd h hs hd => ?_⟩
  ·simp only [fiD] at h
   split at h
   ·rename_i x hx
    simp only [yA] at h
    subst h
    split at hx
    ·rename_i hmv
     have hmv' : mv = [] := by simpa using hmv
     subst hmv'
     obtain ⟨m, h1, rfl, rfl, rfl, rfl, rfl⟩ := findM_ok hx
     exact hM m h1
    ·cases hx
   ·split at h
    ·rename_i en hen
     have hl := okL_get hT f en hen
     rw [vA] at hl
     exact ⟨rlF_callable hl, body_ok hP ih1 ih2 hl h⟩
    ·cases h
  ·simp only [fiD] at hd
   split at hd
   ·rename_i en hen
    have hl := okL_get hT f en hen
    rw [vA] at hl
    exact ⟨rlF_callable hl, fun Y K hY hK => ibody_ok hP ih1 ih2 hl hd hY hK⟩
   ·cases hd
theorem fnD_ok (hP : P.follows .mixedOrders = true) {T : List (Option Ent)} (hT : okL P 0 T) {M : List Memo} (hM : ∀ m ∈ M, m.ok P) (d : Nat) (f : FuncId) (zas : List V) (h0 : List Blk) (mv : List Nat) (r : V) (h' : List Blk)
  (h : fnD T M d f zas h0 mv = some (r, h')) : Callable P f ∧ Fn P f zas h0 mv (fun r1 h1 => r1 = r ∧ h1 = h') := (fiD_ok hP hT hM d).1 f zas h0 mv r h' h
end
end Go.Fx
