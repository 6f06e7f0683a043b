import Derived.Test.YtemlboicdekgbaaFxFrz
import Derived.Test.YtemlboicdekgbaaFxRun
import Derived.Test.YtemlboicdekgbaaPLow
set_option linter.unusedVariables false
set_option linter.unusedSimpArgs false
set_option linter.unusedSectionVars false
open Option.some renaming injEq → yA
open List renaming replicate → yB, mem_map → yF, mem_singleton_self → yG, length_map → yH, mem_cons → yI, append_nil → yM, map_append → yN, length_append → yO, length_cons → yP, length_take → yS, map_nil → yT, take → yU, getD_eq_getElem?_getD → yX, getElem?_cons_zero → yY, length_nil → yZ, map_cons → vA, nil_append → vB, reverse_nil → vC, range → vE, take_of_length_le → vF, all_eq_true → vG, all_cons → vL, all_nil → vM, cons_append → vN, drop_nil → vO, drop_zero → vP, getElem_map → vQ, length_replicate → vR, not_mem_nil → vS, reverse_cons → vT, set_cons_zero → vU, take_nil → vV, take_zero → vW, getElem?_eq_getElem → uA, getElem_mem → uB, range_zero → uC, mem_append_right → uD, mem_filter → uF, take_succ_eq_append_getElem → uG, mem_singleton → uH, getElem?_map → uI, getElem_of_mem → uJ, getElem?_eq_none → uK, mem_append_left → uL, mem_cons_of_mem → uM, getElem?_eq_some_iff → uN
open Bool renaming and_eq_true → yC, false_eq_true → yV, not_true → yW, and_self → vI, and_true → vJ, not_false → vK
open Int renaming toNat_natCast → yD, natCast_zero → yE
open Nat renaming zero_add → yJ, le_refl → yL, add_zero → vD, lt_succ_self → vH
open Option renaming map_eq_some_iff → yK, map_some → yQ, getD_none → vX, getD_some → vY, map_none → vZ
open Prod.mk renaming injEq → uE
namespace Go.Fx
def rdK (x : V) (bn : List Nat) : List Nat :=
 match x with
 | .ptr k _ _ => k :: bn
 | _ => bn
def tupK (x : V) (K : List V → Prop) : Prop :=
 match x with
 | .tup vs => K vs
 | _ => False
def nilK (x : V) (K : V → Prop) : Prop :=
 match x with
 | .ptr k i f => K (.ptr k i f)
 | .clo f cs => K (.clo f cs)
 | _ => False
def cloK (x : V) (K : FuncId → List V → Prop) : Prop :=
 match x with
 | .clo g cs => K g cs
 | _ => False
def lookM (h : List Blk) (kd : TypeDesc) (key : Value) (z : Value) (ok : Bool) (m : V) (K : V → Prop) : Prop :=
 match m with
 | .v (.map none) => lookK (some none) z ok K
 | m => mapK h m fun _ es _ => lookK (mfind kd key es 0) z ok K
mutual
theorem kill_nil : ∀ x : V, kill [] x = x
 | .any => rfl
 | .v _ => rfl
 | .ro _ _ => rfl
 | .bro _ _ => rfl
 | .full _ _ => rfl
 | .rp _ _ _ _ => rfl
 | .sl _ _ _ => by simp [kill]
 | .ptr _ _ _ => by simp [kill]
 | .mp _ => by simp [kill]
 | .itr _ => by simp [kill]
 | .agg cs => by simp [kill, kills_nil cs]
 | .tup cs => by simp [kill, kills_nil cs]
 | .clo _ cs => by simp [kill, kills_nil cs]
theorem kills_nil : ∀ xs : List V, kills [] xs = xs
 | [] => rfl
 | x :: r => by simp [kills, kill_nil x, kills_nil r]
end
theorem killE_nil : ∀ e : Env, killE [] e = e
 | [] => rfl
 | (_, x) :: r => by simp [killE, kill_nil x, killE_nil r]
theorem killB_nil (l : List Blk) : l.map (killB []) = l := by
 have : killB [] = id := by
  funext b
  cases b <;> simp [killB, kills_nil, kill_nil, killE_nil, funext kills_nil]
 simp [this]
section
variable {cx : Cx} {e : Env} {h : List Blk} {b : Nat} {K : V → St → Prop} {Ks : St → Prop} {N R : St → Prop} {X : Nat → St → Prop} {d : Option Nat} {op : LOp}
theorem kC {d : Nat} {x : V} : St.put ⟨e, h, b⟩ (some d) x = ⟨(d, x) :: e, h, b⟩ := rfl
theorem kD {x : V} : St.put ⟨e, h, b⟩ none x = ⟨e, h, b⟩ := rfl
theorem zg : aOps cx [] ⟨e, h, b⟩ Ks = Ks ⟨e, h, b⟩ := rfl
theorem zh {r : List LOper} : aOps cx (⟨d, op, none⟩ :: r) ⟨e, h, b⟩ Ks = aOp cx op ⟨e, h, b⟩ fun x s' => aOps cx r (s'.put d x) Ks := rfl
theorem zi {g : Nat} {w : Bool} {r : List LOper} : aOps cx (⟨d, op, some (g, w)⟩ :: r) ⟨e, h, b⟩ Ks = guardP (get e g) w
   (aOp cx op ⟨(g, .b w) :: e, h, b⟩ fun x s' => aOps cx r (s'.put d x) Ks)
   (aOps cx r (St.put ⟨(g, .b !w) :: e, h, b⟩ d (.v (.tuple #[]))) Ks)
   (aOps cx r (St.put ⟨e, h, b⟩ d (.v (.tuple #[]))) Ks) := rfl
theorem qa {x : Operand} {bn : List Nat} : rdB (.mov x) e bn = bn := rfl
theorem zj {x : Operand} : aOp cx (.mov x) ⟨e, h, b⟩ K = K (ev e x) ⟨e, h, b⟩ := rfl
theorem qb {c x y : Operand} {bn : List Nat} : rdB (.pick c x y) e bn = bn := rfl
theorem zk {c x y : Operand} : aOp cx (.pick c x y) ⟨e, h, b⟩ K = brV (ev e c) (K (ev e x) ⟨e, h, b⟩) (K (ev e y) ⟨e, h, b⟩) := rfl
theorem zl {j : Nat} {x : Operand} : aOp cx (.box j x) ⟨e, h, b⟩ K = optK (cells? (ev e x)) fun cs => freshP h (b + j) ∧ K (.ptr (b + j) 0 0) ⟨e, h.set (b + j) (.var cs), b⟩ := rfl
theorem zm {j : Nat} {z : Value} : aOp cx (.alloc j z) ⟨e, h, b⟩ K = optK (cells? (ofConst z)) fun cs => freshP h (b + j) ∧ K (.ptr (b + j) 0 0) ⟨e, h.set (b + j) (.var cs), b⟩ := rfl
theorem zn {n : Option Nat} {x : Operand} : aOp cx (.load n x) ⟨e, h, b⟩ K = loadP h n (ev e x) fun y => K y ⟨e, h, b⟩ := rfl
theorem zo {n : Nat} {x y : Operand} : aOp cx (.store n x y) ⟨e, h, b⟩ K = optK (cells? (ev e y)) fun cs => storeP cx.bn h n (ev e x) cs fun h => K (.v (.tuple #[])) ⟨e, h, b⟩ := rfl
theorem qc {n : Nat} {x : Operand} {bn : List Nat} : rdB (.fld n x) e bn = bn := rfl
theorem zp {n : Nat} {x : Operand} : aOp cx (.fld n x) ⟨e, h, b⟩ K = fldP n (ev e x) fun y => K y ⟨e, h, b⟩ := rfl
theorem qd {n : Nat} {x i : Operand} {bn : List Nat} : rdB (.idx n x i) e bn = bn := rfl
theorem zq {n : Nat} {x i : Operand} : aOp cx (.idx n x i) ⟨e, h, b⟩ K = intK (ev e i) fun _ m => idxP h n m (ev e x) fun y => K y ⟨e, h, b⟩ := rfl
theorem qe {o : BinOp} {ex : Bool} {x y : Operand} {bn : List Nat} : rdB (.bin o ex x y) e bn = bn := rfl
theorem zr {o : BinOp} {ex : Bool} {x y : Operand} : aOp cx (.bin o ex x y) ⟨e, h, b⟩ K = intK (ev e x) fun k a => intK (ev e y) fun k' c => k' = k ∧ binInt o ex k a c fun z => K z ⟨e, h, b⟩ := rfl
theorem qf {x : Operand} {bn : List Nat} : rdB (.len x) e bn = bn := rfl
theorem zt {x : Operand} : aOp cx (.len x) ⟨e, h, b⟩ K = lenP (ev e x) fun y => K y ⟨e, h, b⟩ := rfl
theorem qh {x : Operand} {bn : List Nat} : rdB (.lens x) e bn = bn := rfl
theorem zu {x : Operand} : aOp cx (.lens x) ⟨e, h, b⟩ K = lensP (ev e x) fun y => K y ⟨e, h, b⟩ := rfl
theorem qi {x : Operand} {bn : List Nat} : rdB (.not x) e bn = bn := rfl
theorem zv {x : Operand} : aOp cx (.not x) ⟨e, h, b⟩ K = boolK (ev e x) fun t => K (.b (!t)) ⟨e, h, b⟩ := rfl
theorem qj {x : Operand} {bn : List Nat} : rdB (.neg x) e bn = bn := rfl
theorem zw {x : Operand} : aOp cx (.neg x) ⟨e, h, b⟩ K = intK (ev e x) fun k a => K (.v (.int k (k.wrap (-a)))) ⟨e, h, b⟩ := rfl
theorem qk {ex : Bool} {k : IntKind} {x : Operand} {bn : List Nat} : rdB (.conv ex k x) e bn = bn := rfl
theorem zx {ex : Bool} {k : IntKind} {x : Operand} : aOp cx (.conv ex k x) ⟨e, h, b⟩ K = intK (ev e x) fun _ a => if ex then (lo k ≤ a ∧ a ≤ hi k) ∧ K (.v (.int k a)) ⟨e, h, b⟩ else K (.v (.int k (k.wrap a))) ⟨e, h, b⟩ := rfl
theorem qm {mx : Bool} {x y : Operand} {bn : List Nat} : rdB (.minmax mx x y) e bn = bn := rfl
theorem zy {mx : Bool} {x y : Operand} : aOp cx (.minmax mx x y) ⟨e, h, b⟩ K = intK (ev e x) fun k a => intK (ev e y) fun k' c => k' = k ∧ K (.v (.int k (if mx then max a c else min a c))) ⟨e, h, b⟩ := rfl
theorem qn {f : FuncId} {cs : List Operand} {bn : List Nat} : rdB (.fn f cs) e bn = bn := rfl
theorem zz {f : FuncId} {cs : List Operand} : aOp cx (.fn f cs) ⟨e, h, b⟩ K = K (.clo f (cs.map (ev e))) ⟨e, h, b⟩ := rfl
theorem qo {off : Nat} {n : Option Nat} {x : Operand} {bn : List Nat} : rdB (.field off n x) e bn = bn := rfl
theorem zA {off : Nat} {n : Option Nat} {x : Operand} : aOp cx (.field off n x) ⟨e, h, b⟩ K = aggK (ev e x) fun cs => loadCs n off cs fun y => K y ⟨e, h, b⟩ := rfl
theorem qp {z : Nat} {x : Operand} {l u m : Option Operand} {bn : List Nat} : rdB (.slice z x l u m) e bn = bn := rfl
theorem zB {z : Nat} {x : Operand} {l u m : Option Operand} : aOp cx (.slice z x l u m) ⟨e, h, b⟩ K = optI (l.map (ev e)) fun l => optI (u.map (ev e)) fun u => optI (m.map (ev e)) fun m => slcP h z (ev e x) l u m fun y => K y ⟨e, h, b⟩ := rfl
theorem qq {z : List Value} {ps : List (Nat × Nat × Operand)} {bn : List Nat} : rdB (.build z ps) e bn = bn := rfl
theorem zC {z : List Value} {ps : List (Nat × Nat × Operand)} : aOp cx (.build z ps) ⟨e, h, b⟩ K = buildP e (z.map .v) ps fun y => K y ⟨e, h, b⟩ := rfl
theorem qr {neg : Bool} {x y : Operand} {bn : List Nat} : rdB (.eqb neg x y) e bn = bn := rfl
theorem zD {neg : Bool} {x y : Operand} : aOp cx (.eqb neg x y) ⟨e, h, b⟩ K = boolK (ev e x) fun a => boolK (ev e y) fun c => K (.b (if neg then a != c else a == c)) ⟨e, h, b⟩ := rfl
theorem qs {neg : Bool} {ks : List (Nat × TypeDesc)} {x y : Operand} {bn : List Nat} : rdB (.eqf neg ks x y) e bn = bn := rfl
theorem zE {neg : Bool} {ks : List (Nat × TypeDesc)} {x y : Operand} : aOp cx (.eqf neg ks x y) ⟨e, h, b⟩ K = optK (aggC (ev e x)) fun xs => optK (aggC (ev e y)) fun ys => eqFs xs ys ks fun t => K (.b (if neg then !t else t)) ⟨e, h, b⟩ := rfl
theorem qt {o : BinOp} {x y : Operand} {bn : List Nat} : rdB (.shift o x y) e bn = bn := rfl
theorem zF {o : BinOp} {x y : Operand} : aOp cx (.shift o x y) ⟨e, h, b⟩ K = intK (ev e x) fun k a => intK (ev e y) fun _ c => shiftInt o k a c fun z => K z ⟨e, h, b⟩ := rfl
theorem zG {neg : Bool} {x : Operand} {v : Value} : aOp cx (.eqn neg x (.const v)) ⟨e, h, b⟩ K = match ofConst v with | .v _ => eqnP (ev e x) fun t => K (.b (if neg then !t else t)) ⟨e, h, b⟩ | _ => False := rfl
theorem zH {j sz n : Nat} {z : List Value} {ps : List (Nat × Operand)} : aOp cx (.lits j sz n z ps) ⟨e, h, b⟩ K = litsP e sz (yB n (z.map .v)) ps fun els => freshP h (b + j) ∧ K (.sl (b + j) 0 n) ⟨e, h.set (b + j) (.arr sz els), b⟩ := rfl
theorem zJ {j sz bytes : Nat} {z : List Value} {l c : Operand} : aOp cx (.mk j sz bytes z l c) ⟨e, h, b⟩ K = intK (ev e l) fun _ a => intK (ev e c) fun _ d => ((0 ≤ a ∧ a ≤ d) ∧ (bytes : Int) * d ≤ 281474976710656 ∧ d ≤ 9223372036854775807) ∧ freshP h (b + j) ∧ K (.sl (b + j) 0 a.toNat) ⟨e, h.set (b + j) (.arr sz (yB a.toNat (z.map .v))), b⟩ := rfl
theorem zK {j sz bytes : Nat} {x y : Operand} : aOp cx (.append j sz bytes x y) ⟨e, h, b⟩ K = viewK h (ev e y) fun sz' new => (new = [] ∨ sz' = sz) ∧ appP cx.fx cx.bn (b + j) sz bytes ⟨e, h, b⟩ (ev e x) new K := rfl
theorem zL {sz : Nat} {x y : Operand} : aOp cx (.copy sz x y) ⟨e, h, b⟩ K = viewK h (ev e y) fun sz' new => (new = [] ∨ sz' = sz) ∧ copyP cx.bn sz ⟨e, h, b⟩ (ev e x) new K := rfl
theorem zM {j sz bytes : Nat} {z : List Value} {l c : Operand} : aOp cx (.mkv j sz bytes z l c) ⟨e, h, b⟩ K = intK (ev e l) fun _ a => intK (ev e c) fun _ c => ((0 ≤ a ∧ a ≤ c) ∧ (bytes : Int) * c ≤ 281474976710656 ∧ c ≤ 9223372036854775807) ∧ freshP h (b + j) ∧ K (.sl (b + j) 0 a.toNat) ⟨e, h.set (b + j) (.arv sz (yB a.toNat (z.map .v))), b⟩ := rfl
theorem zN {kd : TypeDesc} {m k x : Operand} : aOp cx (.mset kd m k x) ⟨e, h, b⟩ K = keyK kd (ev e k) fun key => mapK h (ev e m) fun c es t => c ∉ cx.bn ∧ msetK (mfind kd key es 0) key (ev e x) es t fun B => K (.v (.tuple #[])) ⟨e, h.set c B, b⟩ := rfl
theorem zO {j : Nat} : aOp cx (.mkmap j none) ⟨e, h, b⟩ K = (True ∧ freshP h (b + j) ∧ K (.mp (b + j)) ⟨e, h.set (b + j) (.map [] 0), b⟩) := rfl
theorem zP {kd : TypeDesc} {z : Value} {ok : Bool} {m k : Operand} : aOp cx (.lookup kd z ok m k) ⟨e, h, b⟩ K = keyK kd (ev e k) fun key => lookM h kd key z ok (ev e m) fun x => K x ⟨e, h, b⟩ := rfl
theorem zQ {m : Operand} : aOp cx (.mlen m) ⟨e, h, b⟩ K = mapK h (ev e m) fun _ es _ => K (.i es.length) ⟨e, h, b⟩ := rfl
theorem zR {j : Nat} {m : Operand} : aOp cx (.range j m) ⟨e, h, b⟩ K = mapK h (ev e m) fun _ _ c => freshP h (b + j) ∧ K (.ptr (b + j) 0 0) ⟨e, h.set (b + j) (.it (ev e m) c [] c), b⟩ := rfl
theorem zS {i : Operand} : aOp cx (.next i) ⟨e, h, b⟩ K = itK h (ev e i) fun c m since seen last => mapK h m fun _ es t => c ∉ cx.bn ∧ nextK es since seen last (K (.tup [.b false]) ⟨e, h, b⟩) fun key x born => K (.tup [.b true, .v key, x]) ⟨e, h.set c (.it m since (seen ++ [born]) t), b⟩ := rfl
theorem zT {i : Operand} : aOp cx (.entry i) ⟨e, h, b⟩ K = itK h (ev e i) fun _ m _ seen last => mapK h m fun _ es c => last = c ∧ optK seen.getLast? fun st => entK (es.find? fun q => q.2.2 == st) fun x => K x ⟨e, h, b⟩ := rfl
theorem qu {n sz : Nat} {x i : Operand} {bn : List Nat} : rdB (.prim (.pidx n sz) [x, i]) e bn = bn := rfl
theorem zU {n sz : Nat} {x i : Operand} : aOp cx (.prim (.pidx n sz) [x, i]) ⟨e, h, b⟩ K = intK (ev e i) fun _ j => (0 ≤ j ∧ j < n) ∧ fldP (j.toNat * sz) (ev e x) fun y => K y ⟨e, h, b⟩ := rfl
theorem qv {n : Nat} {x : Operand} {bn : List Nat} : rdB (.prim (.pslc n false false false) [x]) e bn = bn := rfl
theorem zV {n : Nat} {x : Operand} : aOp cx (.prim (.pslc n false false false) [x]) ⟨e, h, b⟩ K = slcAP h n (ev e x) none none none fun y => K y ⟨e, h, b⟩ := rfl
theorem qw {n : Nat} {x l : Operand} {bn : List Nat} : rdB (.prim (.pslc n true false false) [x, l]) e bn = bn := rfl
theorem zW {n : Nat} {x l : Operand} : aOp cx (.prim (.pslc n true false false) [x, l]) ⟨e, h, b⟩ K = intK (ev e l) fun _ l => slcAP h n (ev e x) (some l) none none fun y => K y ⟨e, h, b⟩ := rfl
theorem qx {n : Nat} {x u : Operand} {bn : List Nat} : rdB (.prim (.pslc n false true false) [x, u]) e bn = bn := rfl
theorem zX {n : Nat} {x u : Operand} : aOp cx (.prim (.pslc n false true false) [x, u]) ⟨e, h, b⟩ K = intK (ev e u) fun _ u => slcAP h n (ev e x) none (some u) none fun y => K y ⟨e, h, b⟩ := rfl
theorem qy {n : Nat} {x l u : Operand} {bn : List Nat} : rdB (.prim (.pslc n true true false) [x, l, u]) e bn = bn := rfl
theorem zY {n : Nat} {x l u : Operand} : aOp cx (.prim (.pslc n true true false) [x, l, u]) ⟨e, h, b⟩ K = intK (ev e l) fun _ l => intK (ev e u) fun _ u => slcAP h n (ev e x) (some l) (some u) none fun y => K y ⟨e, h, b⟩ := rfl
theorem qz {n : Nat} {x l u m : Operand} {bn : List Nat} : rdB (.prim (.pslc n true true true) [x, l, u, m]) e bn = bn := rfl
theorem zZ {n : Nat} {x l u m : Operand} : aOp cx (.prim (.pslc n true true true) [x, l, u, m]) ⟨e, h, b⟩ K = intK (ev e l) fun _ l => intK (ev e u) fun _ u => intK (ev e m) fun _ m => slcAP h n (ev e x) (some l) (some u) (some m) fun y => K y ⟨e, h, b⟩ := rfl
theorem qA {neg : Bool} {x y : Operand} {bn : List Nat} : rdB (.prim (.peq neg) [x, y]) e bn = bn := rfl
theorem ka {neg : Bool} {x y : Operand} : aOp cx (.prim (.peq neg) [x, y]) ⟨e, h, b⟩ K = peqP (ev e x) (ev e y) fun t => K (.b (if neg then !t else t)) ⟨e, h, b⟩ := rfl
theorem qB {n sz : Nat} {x i : Operand} {bn : List Nat} : rdB (.prim (.aidx n sz true) [x, i]) e bn = bn := rfl
theorem kc {n sz : Nat} {x i : Operand} : aOp cx (.prim (.aidx n sz true) [x, i]) ⟨e, h, b⟩ K = intK (ev e i) fun _ j => (0 ≤ j ∧ j < n) ∧ aggK (ev e x) fun cs => loadCs (some sz) (j.toNat * sz) cs fun y => K y ⟨e, h, b⟩ := rfl
theorem qC {n sz : Nat} {x i : Operand} {bn : List Nat} : rdB (.prim (.aidx n sz false) [x, i]) e bn = bn := rfl
theorem ke {n sz : Nat} {x i : Operand} : aOp cx (.prim (.aidx n sz false) [x, i]) ⟨e, h, b⟩ K = intK (ev e i) fun _ j => (0 ≤ j ∧ j < n) ∧ aggK (ev e x) fun cs => loadCs none (j.toNat * sz) cs fun y => K y ⟨e, h, b⟩ := rfl
theorem qD {neg : Bool} {ks : List (Nat × TypeDesc)} {x y : Operand} {bn : List Nat} : rdB (.prim (.aeq neg ks) [x, y]) e bn = bn := rfl
theorem kf {neg : Bool} {ks : List (Nat × TypeDesc)} {x y : Operand} : aOp cx (.prim (.aeq neg ks) [x, y]) ⟨e, h, b⟩ K = optK (aggC (ev e x)) fun xs => optK (aggC (ev e y)) fun ys => eqFs xs ys ks fun t => K (.b (if neg then !t else t)) ⟨e, h, b⟩ := rfl
theorem qE {x i : Operand} {bn : List Nat} : rdB (.prim .sidx [x, i]) e bn = bn := rfl
theorem kg {x i : Operand} : aOp cx (.prim .sidx [x, i]) ⟨e, h, b⟩ K = strK (ev e x) fun t => intK (ev e i) fun _ j => 0 ≤ j ∧ optK t[j.toNat]? fun c => K (.v (.int .u8 c.toNat)) ⟨e, h, b⟩ := rfl
theorem qF {x : Operand} {bn : List Nat} : rdB (.prim (.sslc false false) [x]) e bn = bn := rfl
theorem kh {x : Operand} : aOp cx (.prim (.sslc false false) [x]) ⟨e, h, b⟩ K = strK (ev e x) fun t => sslcP t none none fun y => K y ⟨e, h, b⟩ := rfl
theorem qG {x l : Operand} {bn : List Nat} : rdB (.prim (.sslc true false) [x, l]) e bn = bn := rfl
theorem ki {x l : Operand} : aOp cx (.prim (.sslc true false) [x, l]) ⟨e, h, b⟩ K = strK (ev e x) fun t => intK (ev e l) fun _ l => sslcP t (some l) none fun y => K y ⟨e, h, b⟩ := rfl
theorem qH {x u : Operand} {bn : List Nat} : rdB (.prim (.sslc false true) [x, u]) e bn = bn := rfl
theorem kj {x u : Operand} : aOp cx (.prim (.sslc false true) [x, u]) ⟨e, h, b⟩ K = strK (ev e x) fun t => intK (ev e u) fun _ u => sslcP t none (some u) fun y => K y ⟨e, h, b⟩ := rfl
theorem qI {x l u : Operand} {bn : List Nat} : rdB (.prim (.sslc true true) [x, l, u]) e bn = bn := rfl
theorem kk {x l u : Operand} : aOp cx (.prim (.sslc true true) [x, l, u]) ⟨e, h, b⟩ K = strK (ev e x) fun t => intK (ev e l) fun _ l => intK (ev e u) fun _ u => sslcP t (some l) (some u) fun y => K y ⟨e, h, b⟩ := rfl
theorem qJ {o : BinOp} {x y : Operand} {bn : List Nat} : rdB (.prim (.sbin o) [x, y]) e bn = bn := rfl
theorem kn {o : BinOp} {x y : Operand} : aOp cx (.prim (.sbin o) [x, y]) ⟨e, h, b⟩ K = strK (ev e x) fun t => strK (ev e y) fun u => sbinP o t u fun y => K y ⟨e, h, b⟩ := rfl
theorem qK {mx : Bool} {x : Operand} {xr : List Operand} {bn : List Nat} : rdB (.prim (.mm mx) (x :: xr)) e bn = bn := rfl
theorem ko {mx : Bool} {x : Operand} {xr : List Operand} : aOp cx (.prim (.mm mx) (x :: xr)) ⟨e, h, b⟩ K = mmP mx (ev e x) (xr.map (ev e)) fun y => K y ⟨e, h, b⟩ := rfl
theorem kp {sz j : Nat} {z : List Value} {x : Operand} : aOp cx (.eff (.clr sz z) j [x]) ⟨e, h, b⟩ K = clrP cx.bn sz z (ev e x) ⟨e, h, b⟩ K := rfl
theorem kq {ks : List (Nat × TypeDesc)} {z : Value} {ok : Bool} {j : Nat} {m k : Operand} : aOp cx (.eff (.look ks z ok) j [m, k]) ⟨e, h, b⟩ K = keyA ks (ev e k) fun us => lookMA h ks us z ok (ev e m) fun x => K x ⟨e, h, b⟩ := rfl
theorem kr {ks : List (Nat × TypeDesc)} {j : Nat} {m k x : Operand} : aOp cx (.eff (.mset ks) j [m, k, x]) ⟨e, h, b⟩ K = keyA ks (ev e k) fun us => mapK h (ev e m) fun c es t => (c ∉ cx.bn ∧ keysA ks es) ∧ msetK (some (mfindA us es 0)) (.agg us.toArray) (ev e x) es t fun B => K (.v (.tuple #[])) ⟨e, h.set c B, b⟩ := rfl
theorem kv {j : Nat} {x : Operand} : aOp cx (.eff .b2s j [x]) ⟨e, h, b⟩ K = viewK h (ev e x) fun sz els => (els = [] ∨ sz = 1) ∧ optK (bytesOf els) fun l => K (.v (.string ⟨l.toArray⟩)) ⟨e, h, b⟩ := rfl
theorem kw {sz n j : Nat} {z : List Value} {ix : List Nat} {xs : List Operand} : aOp cx (.eff (.litv sz n z ix) j xs) ⟨e, h, b⟩ K = ((xs.map (ev e)).length = ix.length ∧ litvP sz (yB n (z.map .v)) (ix.zip (xs.map (ev e))) fun els => freshP h (b + j) ∧ K (.sl (b + j) 0 n) ⟨e, h.set (b + j) (.arv sz els), b⟩) := rfl
theorem kx {sz bytes j : Nat} {x y : Operand} : aOp cx (.eff (.appv sz bytes) j [x, y]) ⟨e, h, b⟩ K = viewVK h (ev e y) fun sz' new => (sz' = sz ∧ new ≠ [] ∧ (new.all fun r => r.all isC) = true) ∧ appVP cx.fx cx.bn (b + j) sz bytes ⟨e, h, b⟩ (ev e x) new K := rfl
theorem ky {f : FuncId} {xs : List Operand} : aOp cx (.call f xs) ⟨e, h, b⟩ K = callP cx f (xs.map (ev e)) ⟨e, h, b⟩ K := rfl
theorem qL {x : Operand} {i : Nat} {bn : List Nat} : rdB (.ext x i) e bn = bn := rfl
theorem qM {x : Operand} {bn : List Nat} : rdB (.nilc x) e bn = bn := rfl
theorem qN {t : Bool} {x y : Operand} {bn : List Nat} : rdB (.eqn t x y) e bn = bn := rfl
theorem qO {n : Option Nat} {x : Operand} {bn : List Nat} : rdB (.load n x) e bn = rdK (ev e x) bn := by
 show (match ev e x with | .ptr k _ _ => k :: bn | _ => bn) = _
 unfold rdK
 cases ev e x <;> rfl
theorem kz {x : Operand} {i : Nat} : aOp cx (.ext x i) ⟨e, h, b⟩ K = tupK (ev e x) fun vs => optK vs[i]? fun y => K y ⟨e, h, b⟩ := by
 simp only [aOp, tupK]; split <;> simp_all
theorem kA {x : Operand} : aOp cx (.nilc x) ⟨e, h, b⟩ K = nilK (ev e x) fun y => K y ⟨e, h, b⟩ := by
 simp only [aOp, nilK]; split <;> simp_all
theorem kB {f : Operand} {xs : List Operand} : aOp cx (.callv f xs) ⟨e, h, b⟩ K = cloK (ev e f) fun g cs => callP cx g (xs.map (ev e) ++ cs) ⟨e, h, b⟩ K := by
 simp only [aOp, cloK]; split <;> simp_all
theorem qW : aw cx .skip N X R ⟨e, h, b⟩ = N ⟨e, h, b⟩ := rfl
theorem qX {n : Nat} {l : List LOper} : aw cx (.reg n l) N X R ⟨e, h, b⟩ = aOps cx l ⟨e, h ++ yB n .dead, h.length⟩ N := rfl
theorem qY {m n : Nat} {l : List LOper} : aw cx (.tail m n l) N X R ⟨e, h, b⟩ = aOps cx l ⟨e, h ++ yB n .dead, h.length⟩ N := rfl
theorem qZ {n : Nat} {l : List LOper} : aw cx (.qui n l) N X R ⟨e, h, b⟩ = aOps cx l ⟨e, h ++ yB n .dead, h.length⟩ N := rfl
theorem qP {n : Nat} {p : LPlan} : aw cx (.tree n p) N X R ⟨e, h, b⟩ = awP cx p [] N ⟨e, h ++ yB n .dead, h.length⟩ := rfl
theorem qQ {bn : List Nat} : awP cx .done bn Ks ⟨e, h, b⟩ = Ks ⟨e, h, b⟩ := rfl
theorem qR {bn : List Nat} : awP cx .none bn Ks ⟨e, h, b⟩ = True := rfl
theorem qS {i : Nat} {D bn : List Nat} {p : LPlan} : awP cx (.take i D ⟨d, op, none⟩ p) bn Ks ⟨e, h, b⟩ = aOp cx op ⟨e, h, b⟩ fun x s' => awP cx p (rdB op e bn) Ks (s'.put d x) := rfl
theorem qT {i g : Nat} {w : Bool} {D bn : List Nat} {p : LPlan} : awP cx (.take i D ⟨d, op, some (g, w)⟩ p) bn Ks ⟨e, h, b⟩ = guardP (get e g) w
   (aOp cx op ⟨(g, .b w) :: e, h, b⟩ fun x s' => awP cx p (rdB op e bn) Ks (s'.put d x))
   (awP cx p (rdB op e bn) Ks (St.put ⟨(g, .b !w) :: e, h, b⟩ d (.v (.tuple #[]))))
   (awP cx p (rdB op e bn) Ks (St.put ⟨e, h, b⟩ d (.v (.tuple #[])))) := rfl
theorem qU {i : Nat} {r : Bool} {bn : List Nat} {p q : LPlan} : awP cx (.alt i ⟨d, op, none⟩ r p q) bn Ks ⟨e, h, b⟩ =
   ((aOp ⟨cx.C, cx.fx, if r then bn else [], cx.it, cx.y, cx.rk⟩ op ⟨e, h, b⟩ fun x s' => awP cx p (if r then bn else []) Ks (s'.put d x)) ∧ awP cx q bn Ks ⟨e, h, b⟩) := rfl
theorem qV {i g : Nat} {w r : Bool} {bn : List Nat} {p q : LPlan} : awP cx (.alt i ⟨d, op, some (g, w)⟩ r p q) bn Ks ⟨e, h, b⟩ =
   ((guardP (get e g) w
     (aOp ⟨cx.C, cx.fx, if r then bn else [], cx.it, cx.y, cx.rk⟩ op ⟨(g, .b w) :: e, h, b⟩ fun x s' => awP cx p (if r then bn else []) Ks (s'.put d x))
     (awP cx p (if r then bn else []) Ks (St.put ⟨(g, .b !w) :: e, h, b⟩ d (.v (.tuple #[]))))
     (awP cx p (if r then bn else []) Ks (St.put ⟨e, h, b⟩ d (.v (.tuple #[]))))) ∧ awP cx q bn Ks ⟨e, h, b⟩) := rfl
theorem za {x y : LCode} : aw cx (.seq x y) N X R ⟨e, h, b⟩ = aw cx x (fun s' => aw cx y N X R s') X R ⟨e, h, b⟩ := rfl
theorem zb {c : Operand} {x y : LCode} : aw cx (.cond c x y) N X R ⟨e, h, b⟩ = brV (ev e c) (aw cx x N X R ⟨e, h, b⟩) (aw cx y N X R ⟨e, h, b⟩) := rfl
theorem zc {i : Nat} {x : LCode} : aw cx (.block i x) N X R ⟨e, h, b⟩ = aw cx x N (fun j s' => if j = i then N s' else X j s') R ⟨e, h, b⟩ := rfl
theorem zd {x : LCode} : aw cx (.loop x) N X R ⟨e, h, b⟩ = loopP cx.fx (fun N => aw cx x N X R) ⟨e, h, b⟩ := rfl
theorem ze {i : Nat} : aw cx (.exit i) N X R ⟨e, h, b⟩ = X i ⟨e, h, b⟩ := rfl
theorem zf : aw cx .ret N X R ⟨e, h, b⟩ = R ⟨e, h, b⟩ := rfl
theorem kO {A B : Prop} : br true A B = A := by simp [br]
theorem kP {A B : Prop} : br false A B = B := by simp [br]
theorem kN {t : Bool} {A B : Prop} : brV (.v (.bool t)) A B = br t A B := rfl
theorem kQ {t : Bool} {w : Bool} {A B C : Prop} : guardP (.v (.bool t)) w A B C = if w then br t A B else br t B A := rfl
theorem kR {w : Bool} {A B C : Prop} : guardP (.v (.tuple #[])) w A B C = C := rfl
theorem kL {k : IntKind} {a : Int} {K : IntKind → Int → Prop} : intK (.v (.int k a)) K = K k a := rfl
theorem kM {a : Bool} {K : Bool → Prop} : boolK (.v (.bool a)) K = K a := rfl
theorem retP_eq {fx : List Nat} {n : Nat} {rs : List LRes} {R : V → List Blk → Prop} : retP fx n rs R ⟨e, h, b⟩ = resP h e rs [] fun xs => ∃ p, (leH h p ∧ keepP fx p ∧ n ≤ p.length ∧ wfV p (tupV xs) ∧ wfB p p) ∧ R (tupV xs) p := rfl
theorem kT {fx : List Nat} {p : Env} {q : List Blk} {b' : Nat} : leS fx ⟨e, h, b⟩ ⟨p, q, b'⟩ = (leE e p ∧ leH h q ∧ keepP fx q ∧ wfE q p ∧ wfB q q) := rfl
end
section
variable {cx : Cx} {h : List Blk} {e : Env} {s : St} {fx bn : List Nat}
def Is (x : V) : V → List Blk → Prop := fun r h => r = x ∧ h = []
theorem kS {e : Env} {h : List Blk} {b : Nat} {rs : List LRes} {x : V} : retP [] 0 rs (Is x) ⟨e, h, b⟩ = resP h e rs [] fun xs => wfV [] (tupV xs) ∧ tupV xs = x := by
 unfold retP Is
 simp only
 congr 1
 funext xs
 apply propext
 constructor
 ·rintro ⟨p, ⟨_, _, _, h4, _⟩, h5, rfl⟩
  exact ⟨h4, h5⟩
 ·rintro ⟨h4, h5⟩
  exact ⟨[], ⟨by unfold leH; trivial, trivial, yL _, h4, trivial⟩, h5, rfl⟩
theorem kF {t : Nat} : ev e (.tmp t) = get e t := rfl
theorem kG {c : Value} : ev e (.const c) = ofConst c := rfl
theorem kH {f : FuncId} : ev e (.func f) = .clo f [] := rfl
theorem kI {i : Nat} : get [] i = .any := rfl
theorem kJ {j i : Nat} {x : V} {r : Env} : get ((j, x) :: r) i = if i = j then x else get r i := rfl
theorem kK {k : Nat} : blk h k = h.getD k .dead := rfl
@[congr] theorem c_optK {α : Type} {o o' : Option α} {K : α → Prop} (q : o = o') : optK o K = optK o' K := by rw [q]
@[congr] theorem c_intK {x x' : V} {K : IntKind → Int → Prop} (q : x = x') : intK x K = intK x' K := by rw [q]
@[congr] theorem c_boolK {x x' : V} {K : Bool → Prop} (q : x = x') : boolK x K = boolK x' K := by rw [q]
@[congr] theorem c_brV {x x' : V} {A B : Prop} (q : x = x') : brV x A B = brV x' A B := by rw [q]
@[congr] theorem c_guardP {x x' : V} {w : Bool} {A B C : Prop} (q : x = x') : guardP x w A B C = guardP x' w A B C := by rw [q]
@[congr] theorem c_loadP {n : Option Nat} {p p' : V} {K : V → Prop} (q : p = p') : loadP h n p K = loadP h n p' K := by rw [q]
@[congr] theorem c_loadB {n : Option Nat} {i f : Nat} {b b' : Blk} {K : V → Prop} (q : b = b') : loadB n i f b K = loadB n i f b' K := by rw [q]
@[congr] theorem c_loadCs {n : Option Nat} {f : Nat} {cs cs' : List V} {K : V → Prop} (q : cs = cs') : loadCs n f cs K = loadCs n f cs' K := by rw [q]
@[congr] theorem c_storeP {n : Nat} {p p' : V} {cs cs' : List V} {K : List Blk → Prop} (q : p = p') (q2 : cs = cs') : storeP bn h n p cs K = storeP bn h n p' cs' K := by rw [q, q2]
@[congr] theorem c_storeB {n i f : Nat} {cs : List V} {b b' : Blk} {K : Blk → Prop} (q : b = b') : storeB n i f cs b K = storeB n i f cs b' K := by rw [q]
@[congr] theorem c_fldP {n : Nat} {x x' : V} {K : V → Prop} (q : x = x') : fldP n x K = fldP n x' K := by rw [q]
@[congr] theorem c_idxP {z : Nat} {n n' : Int} {x x' : V} {K : V → Prop} (q : x = x') (q2 : n = n') : idxP h z n x K = idxP h z n' x' K := by rw [q, q2]
@[congr] theorem c_lenP {x x' : V} {K : V → Prop} (q : x = x') : lenP x K = lenP x' K := by rw [q]
@[congr] theorem c_lensP {x x' : V} {K : V → Prop} (q : x = x') : lensP x K = lensP x' K := by rw [q]
@[congr] theorem c_viewK {x x' : V} {K : Nat → List (List V) → Prop} (q : x = x') : viewK h x K = viewK h x' K := by rw [q]
@[congr] theorem c_optI {x x' : Option V} {K : Option Int → Prop} (q : x = x') : optI x K = optI x' K := by rw [q]
@[congr] theorem c_slcP {z : Nat} {x x' : V} {l u m : Option Int} {K : V → Prop} (q : x = x') : slcP h z x l u m K = slcP h z x' l u m K := by rw [q]
@[congr] theorem c_buildP {acc acc' : List V} {ps : List (Nat × Nat × Operand)} {K : V → Prop} (q : acc = acc') : buildP e acc ps K = buildP e acc' ps K := by rw [q]
@[congr] theorem c_litsP {sz : Nat} {acc acc' : List (List V)} {ps : List (Nat × Operand)} {K : List (List V) → Prop} (q : acc = acc') : litsP e sz acc ps K = litsP e sz acc' ps K := by rw [q]
@[congr] theorem c_eqnP {x x' : V} {K : Bool → Prop} (q : x = x') : eqnP x K = eqnP x' K := by rw [q]
@[congr] theorem c_appP {id sz bytes : Nat} {x x' : V} {new new' : List (List V)} {K : V → St → Prop} (q : x = x') (q2 : new = new') : appP fx bn id sz bytes s x new K = appP fx bn id sz bytes s x' new' K := by rw [q, q2]
@[congr] theorem c_appB {k i n sz bytes : Nat} {new : List (List V)} {b b' : Blk} {K : V → St → Prop} (q : b = b') : appB fx bn k i n sz bytes s new b K = appB fx bn k i n sz bytes s new b' K := by rw [q]
@[congr] theorem c_appNew {id sz bytes : Nat} {old old' new : List (List V)} {K : V → St → Prop} (q : old = old') : appNew id sz bytes s old new K = appNew id sz bytes s old' new K := by rw [q]
@[congr] theorem c_copyP {sz : Nat} {x x' : V} {new : List (List V)} {K : V → St → Prop} (q : x = x') : copyP bn sz s x new K = copyP bn sz s x' new K := by rw [q]
@[congr] theorem c_tupK {x x' : V} {K : List V → Prop} (q : x = x') : tupK x K = tupK x' K := by rw [q]
@[congr] theorem c_nilK {x x' : V} {K : V → Prop} (q : x = x') : nilK x K = nilK x' K := by rw [q]
@[congr] theorem c_cloK {x x' : V} {K : FuncId → List V → Prop} (q : x = x') : cloK x K = cloK x' K := by rw [q]
@[congr] theorem c_aggK {x x' : V} {K : List V → Prop} (q : x = x') : aggK x K = aggK x' K := by rw [q]
@[congr] theorem c_callP {f : FuncId} {xs xs' : List V} {s s' : St} {K : V → St → Prop} (q : xs = xs') (q2 : s = s') : callP cx f xs s K = callP cx f xs' s' K := by rw [q, q2]
@[congr] theorem c_binInt {op : BinOp} {ex : Bool} {k : IntKind} {a a' b b' : Int} {K : V → Prop} (q : a = a') (q2 : b = b') : binInt op ex k a b K = binInt op ex k a' b' K := by rw [q, q2]
@[congr] theorem c_eqFs {xs xs' ys ys' : List V} {ks : List (Nat × TypeDesc)} {K : Bool → Prop} (q : xs = xs') (q2 : ys = ys') : eqFs xs ys ks K = eqFs xs' ys' ks K := by rw [q, q2]
@[congr] theorem c_eqC {kd : TypeDesc} {x x' y y' : Option V} {K : Bool → Prop} (q : x = x') (q2 : y = y') : eqC kd x y K = eqC kd x' y' K := by rw [q, q2]
@[congr] theorem c_resP {ls : List LRes} {acc acc' : List V} {K : List V → Prop} (q : acc = acc') : resP h e ls acc K = resP h e ls acc' K := by rw [q]
@[congr] theorem c_awP {p : LPlan} {s s' : St} {Ks : St → Prop} (q : s = s') : awP cx p bn Ks s = awP cx p bn Ks s' := by rw [q]
@[congr] theorem c_aOps {l : List LOper} {s s' : St} {Ks : St → Prop} (q : s = s') : aOps cx l s Ks = aOps cx l s' Ks := by rw [q]
@[congr] theorem c_aw {c : LCode} {s s' : St} {N R : St → Prop} {X : Nat → St → Prop} (q : s = s') : aw cx c N X R s = aw cx c N X R s' := by rw [q]
@[congr] theorem c_aOp {o : LOp} {s s' : St} {K : V → St → Prop} (q : s = s') : aOp cx o s K = aOp cx o s' K := by rw [q]
end
theorem loopP_intro {fx : List Nat} {f : (St → Prop) → St → Prop} {s : St} {G : Type} (pat : G → St) (I : G → Prop) (μ : G → Nat) (g : G) (h0 : I g) (h1 : leS fx s (pat g))
  (h : ∀ g, I g → f (fun s' => ∃ g', (I g' ∧ μ g' < μ g) ∧ leS fx s' (pat g')) (pat g)) : loopP fx f s :=
 ⟨G, pat, I, μ, leS fx, fun a _ h => ⟨a, .refl a, h⟩, ⟨g, h0, _, .refl s, h1⟩, h⟩
theorem loopP_ghost {fx : List Nat} {f : (St → Prop) → St → Prop} {s s0 : St} {G : Type} (hg : Ghost fx s s0) (pat : G → St) (I : G → Prop) (μ : G → Nat) (g : G) (h0 : I g) (h1 : leS fx s0 (pat g))
  (h : ∀ g, I g → f (fun s' => ∃ g', (I g' ∧ μ g' < μ g) ∧ leS fx s' (pat g')) (pat g)) : loopP fx f s :=
 ⟨G, pat, I, μ, leS fx, fun a _ h => ⟨a, .refl a, h⟩, ⟨g, h0, s0, hg, h1⟩, h⟩
theorem loopP_back {fx : List Nat} {f : (St → Prop) → St → Prop} {s : St} {G : Type} (pat : G → St) (I : G → Prop) (μ : G → Nat) (g : G) (h0 : I g) (h1 : leG fx s (pat g))
  (h : ∀ g, I g → f (fun s' => ∃ g', (I g' ∧ μ g' < μ g) ∧ leG fx s' (pat g')) (pat g)) : loopP fx f s :=
 ⟨G, pat, I, μ, leG fx, fun _ _ h => h, ⟨g, h0, h1⟩, h⟩
theorem callP_pure {cx : Cx} {f : FuncId} {args : List V} {e : Env} {h : List Blk} {b : Nat} {K : V → St → Prop} (zas : List V) (R : V → List Blk → Prop) (h1 : lendsOk h (fun _ => none) args ∧ wkL zas (lends h (fun _ => none) args)) (h2 : cx.C f zas [] [] R)
  (h3 : ∀ r h', R r h' → keepP cx.fx (h ++ h'.map (renB (fun j => some (h.length + j)))) ∧ K (ren (fun j => some (h.length + j)) r) ⟨e, h ++ h'.map (renB (fun j => some (h.length + j))), b⟩) : callP cx f args ⟨e, h, b⟩ K := by
 have hp : pos [] = fun _ => none := rfl
 have hb : back [] h.length = fun j => some (h.length + j) := by funext j; simp [back]
 have hk : ∀ l : List Blk, l.map (killB []) = l := killB_nil
 refine ⟨[], zas, [], R, ⟨⟨List.nodup_nil, by simp⟩, by simp⟩, ?_, ?_, by simpa using h2, ?_⟩
 ·rw [hp]; exact h1.1
 ·rw [hp]; exact h1.2
 ·intro r h' hR _
  have := h3 r h' hR
  simp only [hb, setAll, List.filterMap_nil, hk, killE_nil]
  exact this
section
variable {h : List Blk} {e : Env} {s : St} {fx bn : List Nat} {b : Nat}
def viewB (b : Blk) (i n : Nat) (K : Nat → List (List V) → Prop) : Prop :=
 match b with
 | .arr sz els => i + n ≤ els.length ∧ K sz ((els.drop i).take n)
 | .var cs => (i + n ≤ cs.length ∧ ((cs.drop i).take n).all isD = true) ∧ K 1 (((cs.drop i).take n).map fun c => [c])
 | _ => False
theorem qaa {α : Type} {x : α} {K : α → Prop} : optK (some x) K = K x := rfl
theorem qab {α : Type} {K : α → Prop} : optK none K = False := rfl
theorem qac {n : Option Nat} {k i f : Nat} {K : V → Prop} : loadP h n (.ptr k i f) K = loadB n i f (blk h k) K := rfl
theorem qad {n : Option Nat} {z i f : Nat} {els : List (List V)} {K : V → Prop} : loadP h n (.rp z els i f) K = ∃ hi : i < els.length, loadCs n f (els[i]'hi) K := rfl
theorem qae {n : Option Nat} {f : Nat} {cs : List V} {K : V → Prop} : loadB n 0 f (.var cs) K = loadCs n f cs K := by
 show loadCs n (0 + f) cs K = _
 rw [yJ]
theorem qaf {n : Option Nat} {i : Nat} {cs : List V} {K : V → Prop} : loadB n i 0 (.var cs) K = loadCs n i cs K := rfl
theorem qag {n : Option Nat} {i f z : Nat} {els : List (List V)} {K : V → Prop} : loadB n i f (.arr z els) K = ∃ hi : i < els.length, loadCs n f (els[i]'hi) K := rfl
theorem qah {n : Option Nat} {i f z : Nat} {els : List (List V)} {K : V → Prop} : loadB n i f (.arv z els) K = ∃ hi : i < els.length, loadCs n f (els[i]'hi) K := rfl
theorem qai {f : Nat} {cs : List V} {K : V → Prop} : loadCs none f cs K = optK cs[f]? K := rfl
theorem qaj {m f : Nat} {cs : List V} {K : V → Prop} : loadCs (some m) f cs K = (f + m ≤ cs.length ∧ K (.agg ((cs.drop f).take m))) := rfl
theorem qak {n k i f : Nat} {cs : List V} {K : List Blk → Prop} : storeP bn h n (.ptr k i f) cs K = ((cs.length = n ∧ k ∉ bn) ∧ cs.all isC = true ∧ storeB n i f cs (blk h k) fun b => K (h.set k b)) := rfl
theorem qal {n f : Nat} {cs old : List V} {K : Blk → Prop} : storeB n 0 f cs (.var old) K = ((f + n ≤ old.length) ∧ K (.var (splice old f cs))) := by
 show ((0 + f + n ≤ old.length) ∧ K (.var (splice old (0 + f) cs))) = _
 rw [yJ]
theorem qam {n i : Nat} {cs old : List V} {K : Blk → Prop} : storeB n i 0 cs (.var old) K = ((i + n ≤ old.length) ∧ K (.var (splice old i cs))) := rfl
theorem qan {n i f z : Nat} {cs : List V} {els : List (List V)} {K : Blk → Prop} : storeB n i f cs (.arr z els) K = ((f + n ≤ z ∧ cs.all isD = true) ∧ ∃ hi : i < els.length, K (.arr z (els.set i (splice (els[i]'hi) f cs)))) := rfl
theorem qao {n i f z : Nat} {cs : List V} {els : List (List V)} {K : Blk → Prop} : storeB n i f cs (.arv z els) K = ((f + n ≤ z) ∧ ∃ hi : i < els.length, K (.arv z (els.set i (splice (els[i]'hi) f cs)))) := rfl
theorem qap {o k i f : Nat} {K : V → Prop} : fldP o (.ptr k i f) K = K (.ptr k i (f + o)) := rfl
theorem qaq {o z i f : Nat} {els : List (List V)} {K : V → Prop} : fldP o (.rp z els i f) K = K (.rp z els i (f + o)) := rfl
theorem qar {z k i m : Nat} {n : Int} {K : V → Prop} : idxP h z n (.sl k i m) K = (arrSz z (blk h k) ∧ (0 ≤ n ∧ n < m) ∧ K (.ptr k (i + n.toNat) 0)) := rfl
theorem qas {z y : Nat} {els : List (List V)} {n : Int} {K : V → Prop} : idxP h z n (.ro y els) K = (y = z ∧ (0 ≤ n ∧ n < els.length) ∧ K (.rp y els n.toNat 0)) := rfl
theorem qat {z y : Nat} {els : List (List V)} {n : Int} {K : V → Prop} : idxP h z n (.bro y els) K = (y = z ∧ (0 ≤ n ∧ n < els.length) ∧ K (.rp y els n.toNat 0)) := rfl
theorem qau {z y : Nat} {els : List (List V)} {n : Int} {K : V → Prop} : idxP h z n (.full y els) K = (y = z ∧ (0 ≤ n ∧ n < els.length) ∧ K (.rp y els n.toNat 0)) := rfl
theorem qav {z : Nat} {n : Int} {K : V → Prop} : idxP h z n (.v (.slice none 0 0)) K = False := rfl
theorem qaw {k i n : Nat} {K : V → Prop} : lenP (.sl k i n) K = (n ≤ maxLen → K (.i n)) := rfl
theorem qax {y : Nat} {els : List (List V)} {K : V → Prop} : lenP (.ro y els) K = (els.length ≤ maxLen → K (.i els.length)) := rfl
theorem qay {y : Nat} {els : List (List V)} {K : V → Prop} : lenP (.bro y els) K = (els.length ≤ maxLen → K (.i els.length)) := rfl
theorem qaz {y : Nat} {els : List (List V)} {K : V → Prop} : lenP (.full y els) K = (els.length ≤ maxLen → K (.i els.length)) := rfl
theorem qaA {K : V → Prop} : lenP (.v (.slice none 0 0)) K = K (.i 0) := rfl
theorem qaB {t : ByteArray} {K : V → Prop} : lensP (.v (.string t)) K = K (.i t.size) := rfl
theorem qaC {vs : List V} {K : List V → Prop} : tupK (.tup vs) K = K vs := rfl
theorem qaD {k i f : Nat} {K : V → Prop} : nilK (.ptr k i f) K = K (.ptr k i f) := rfl
theorem qaE {f : FuncId} {cs : List V} {K : V → Prop} : nilK (.clo f cs) K = K (.clo f cs) := rfl
theorem qaF {f : FuncId} {cs : List V} {K : FuncId → List V → Prop} : cloK (.clo f cs) K = K f cs := rfl
theorem qaG {cs : List V} {K : List V → Prop} : aggK (.agg cs) K = K cs := rfl
theorem qaH {k i n : Nat} {K : Nat → List (List V) → Prop} : viewK h (.sl k i n) K = viewB (blk h k) i n K := rfl
theorem qaI {i n z : Nat} {els : List (List V)} {K : Nat → List (List V) → Prop} : viewB (.arr z els) i n K = (i + n ≤ els.length ∧ K z ((els.drop i).take n)) := rfl
theorem qaJ {z : Nat} {els : List (List V)} {K : Nat → List (List V) → Prop} : viewK h (.ro z els) K = K z els := rfl
theorem qaK {z : Nat} {els : List (List V)} {K : Nat → List (List V) → Prop} : viewK h (.bro z els) K = K z els := rfl
theorem qaL {z : Nat} {els : List (List V)} {K : Nat → List (List V) → Prop} : viewK h (.full z els) K = K z els := rfl
theorem qaM {K : Nat → List (List V) → Prop} : viewK h (.v (.slice none 0 0)) K = K 0 [] := rfl
theorem qaN {K : Option Int → Prop} : optI none K = K none := rfl
theorem qaO {k : IntKind} {n : Int} {K : Option Int → Prop} : optI (some (.v (.int k n))) K = K (some n) := rfl
theorem qaP {z k i n : Nat} {l u m : Option Int} {K : V → Prop} : slcP h z (.sl k i n) l u m K = (arrSz z (blk h k) ∧ slcOk n l u m ∧ K (.sl k (i + (l.getD 0).toNat) ((u.getD n).toNat - (l.getD 0).toNat))) := rfl
theorem qaQ {z y : Nat} {els : List (List V)} {l u m : Option Int} {K : V → Prop} : slcP h z (.ro y els) l u m K = (y = z ∧ slcOk els.length l u m ∧ K (.ro y ((els.drop (l.getD 0).toNat).take ((u.getD els.length).toNat - (l.getD 0).toNat)))) := rfl
theorem qaR {z y : Nat} {els : List (List V)} {l u m : Option Int} {K : V → Prop} : slcP h z (.bro y els) l u m K = (y = z ∧ slcOk els.length l u m ∧ K (.bro y ((els.drop (l.getD 0).toNat).take ((u.getD els.length).toNat - (l.getD 0).toNat)))) := rfl
theorem qaS {z : Nat} {l u m : Option Int} {K : V → Prop} : slcP h z (.v (.slice none 0 0)) l u m K = (slcOk 0 l u m ∧ K (.v (.slice none 0 0))) := rfl
theorem qaT {k i n : Nat} {K : Bool → Prop} : eqnP (.sl k i n) K = ((0 < n → K false) ∧ (n = 0 → K true ∧ K false)) := rfl
theorem qaU {z : Nat} {els : List (List V)} {K : Bool → Prop} : eqnP (.ro z els) K = ((els ≠ [] → K false) ∧ (els = [] → K true ∧ K false)) := rfl
theorem qaV {z : Nat} {els : List (List V)} {K : Bool → Prop} : eqnP (.bro z els) K = ((els ≠ [] → K false) ∧ (els = [] → K true ∧ K false)) := rfl
theorem qaW {K : Bool → Prop} : eqnP (.v (.slice none 0 0)) K = K true := rfl
theorem qaX {id sz bytes : Nat} {old new : List (List V)} {K : V → St → Prop} : appNew id sz bytes ⟨e, h, b⟩ old new K = ((old.length + new.length) * bytes ≤ 140737488355328 ∧ freshP h id ∧ K (.sl id 0 (old.length + new.length)) ⟨e, h.set id (.arr sz (old ++ new)), b⟩) := rfl
theorem qaY {k i n sz bytes z : Nat} {new els : List (List V)} {K : V → St → Prop} : appB fx bn k i n sz bytes ⟨e, h, b⟩ new (.arr z els) K = ((z = sz ∧ i + n ≤ els.length ∧ (n + new.length) * bytes ≤ 140737488355328) ∧ (k ∉ fx ∧ k ∉ bn) ∧ K (.sl k 0 (n + new.length)) ⟨killE [k] e, (h.map (killB [k])).set k (.arr sz ((els.drop i).take n ++ new)), b⟩) := rfl
theorem qaZ {k i n id sz bytes : Nat} {new : List (List V)} {K : V → St → Prop} : appP fx bn id sz bytes ⟨e, h, b⟩ (.sl k i n) new K = appB fx bn k i n sz bytes ⟨e, h, b⟩ new (blk h k) K := rfl
theorem qba {id sz bytes : Nat} {new : List (List V)} {K : V → St → Prop} : appP fx bn id sz bytes s (.v (.slice none 0 0)) new K = appNew id sz bytes s [] new K := rfl
theorem qbb {id sz bytes z : Nat} {els new : List (List V)} {K : V → St → Prop} : appP fx bn id sz bytes s (.full z els) new K = ((z = sz ∧ new ≠ []) ∧ appNew id sz bytes s els new K) := rfl
theorem qbc {k i n sz z : Nat} {new els : List (List V)} {K : V → St → Prop} : copyB bn k i n sz ⟨e, h, b⟩ new (.arr z els) K = ((z = sz ∧ i + n ≤ els.length ∧ k ∉ bn) ∧ K (.i (min new.length n : Nat)) ⟨e, h.set k (.arr sz (els.take i ++ new.take n ++ els.drop (i + min new.length n))), b⟩) := rfl
theorem qbd {k i n sz : Nat} {new : List (List V)} {cs : List V} {K : V → St → Prop} : copyB bn k i n sz ⟨e, h, b⟩ new (.var cs) K = ((1 = sz ∧ i + n ≤ cs.length ∧ k ∉ bn) ∧ K (.i (min new.length n : Nat)) ⟨e, h.set k (.var (splice cs i (new.take n).flatten)), b⟩) := rfl
theorem qbe {i n : Nat} {cs : List V} {K : Nat → List (List V) → Prop} : viewB (.var cs) i n K = ((i + n ≤ cs.length ∧ ((cs.drop i).take n).all isD = true) ∧ K 1 (((cs.drop i).take n).map fun c => [c])) := rfl
theorem qbf {n k i f : Nat} {l u m : Option Int} {K : V → Prop} : slcAP h n (.ptr k i f) l u m K = slcAB n k (i + f) (blk h k) l u m K := rfl
theorem qbg {n z i f : Nat} {els : List (List V)} {l u m : Option Int} {K : V → Prop} : slcAP h n (.rp z els i f) l u m K = (slcOk n l u m ∧ ∃ hi : i < els.length, f + n ≤ (els[i]'hi).length ∧
   K (.bro 1 (((((els[i]'hi).drop f).drop (l.getD 0).toNat).take ((u.getD n).toNat - (l.getD 0).toNat)).map fun c => [c]))) := rfl
theorem qbh {n k i : Nat} {cs : List V} {l u m : Option Int} {K : V → Prop} : slcAB n k i (.var cs) l u m K = ((i + n ≤ cs.length ∧ slcOk n l u m) ∧ K (.sl k (i + (l.getD 0).toNat) ((u.getD n).toNat - (l.getD 0).toNat))) := rfl
theorem qbi {K : Bool → Prop} : peqP (.v (.pointer none)) (.v (.pointer none)) K = K true := rfl
theorem qbj {k i f : Nat} {K : Bool → Prop} : peqP (.ptr k i f) (.v (.pointer none)) K = K false := rfl
theorem qbk {z i f : Nat} {els : List (List V)} {K : Bool → Prop} : peqP (.rp z els i f) (.v (.pointer none)) K = K false := rfl
theorem qbl {t : ByteArray} {K : ByteArray → Prop} : strK (.v (.string t)) K = K t := rfl
theorem qbm {t : ByteArray} {l u : Option Int} {K : V → Prop} : sslcP t l u K = (slcOk t.size l u none ∧ K (.v (.string (t.extract (l.getD 0).toNat (u.getD t.size).toNat)))) := rfl
theorem qbn {t u : ByteArray} {K : V → Prop} : sbinP .add t u K = (t.size + u.size ≤ 9223372036854775807 ∧ K (.v (.string (t ++ u)))) := rfl
theorem qbo {t u : ByteArray} {K : V → Prop} : sbinP .eql t u K = K (.b (t.toList == u.toList)) := rfl
theorem qbp {t u : ByteArray} {K : V → Prop} : sbinP .neq t u K = K (.b (!(t.toList == u.toList))) := rfl
theorem qbq {t u : ByteArray} {K : V → Prop} : sbinP .lss t u K = K (.b (Op.bytesLess t.toList u.toList)) := rfl
theorem qbr {t u : ByteArray} {K : V → Prop} : sbinP .leq t u K = K (.b (Op.bytesLess t.toList u.toList || t.toList == u.toList)) := rfl
theorem qbs {t u : ByteArray} {K : V → Prop} : sbinP .gtr t u K = K (.b (!(Op.bytesLess t.toList u.toList || t.toList == u.toList))) := rfl
theorem qbt {t u : ByteArray} {K : V → Prop} : sbinP .geq t u K = K (.b (!(Op.bytesLess t.toList u.toList))) := rfl
theorem qbu {mx : Bool} {x : V} {K : V → Prop} : mmP mx x [] K = K x := rfl
theorem qbv {mx : Bool} {k k' : IntKind} {a c : Int} {r : List V} {K : V → Prop} : mmP mx (.v (.int k a)) (.v (.int k' c) :: r) K = (k' = k ∧ mmP mx (.v (.int k (if mx then max a c else min a c))) r K) := rfl
theorem qbw {sz k i n : Nat} {z : List Value} {K : V → St → Prop} : clrP bn sz z (.sl k i n) ⟨e, h, b⟩ K = clrB bn k i n sz z ⟨e, h, b⟩ (blk h k) K := rfl
theorem qbx {sz : Nat} {z : List Value} {K : V → St → Prop} : clrP bn sz z (.v (.slice none 0 0)) s K = K (.v (.tuple #[])) s := rfl
theorem qby {k i n sz y : Nat} {z : List Value} {els : List (List V)} {K : V → St → Prop} : clrB bn k i n sz z ⟨e, h, b⟩ (.arr y els) K = ((y = sz ∧ i + n ≤ els.length ∧ k ∉ bn) ∧ K (.v (.tuple #[])) ⟨e, h.set k (.arr sz (els.take i ++ yB n (z.map .v) ++ els.drop (i + n))), b⟩) := rfl
theorem qbz {ks : List (Nat × TypeDesc)} {x y : Value} {K : List Value → Prop} : keyA ks (.agg [.v x, .v y]) K = (([x, y].length = ks.length ∧ ([x, y].zip ks).all (fun p => isKey p.2.2 p.1) = true) ∧ K [x, y]) := rfl
theorem qbA {ks : List (Nat × TypeDesc)} {x y z : Value} {K : List Value → Prop} : keyA ks (.agg [.v x, .v y, .v z]) K = (([x, y, z].length = ks.length ∧ ([x, y, z].zip ks).all (fun p => isKey p.2.2 p.1) = true) ∧ K [x, y, z]) := rfl
theorem qbB {ks : List (Nat × TypeDesc)} {us : List Value} {z : Value} {ok : Bool} {k : Nat} {K : V → Prop} : lookMA h ks us z ok (.mp k) K = mapB (blk h k) fun es _ => keysA ks es ∧ lookK (some (mfindA us es 0)) z ok K := rfl
theorem qbC {ks : List (Nat × TypeDesc)} {us : List Value} {z : Value} {ok : Bool} {K : V → Prop} : lookMA h ks us z ok (.v (.map none)) K = lookK (some none) z ok K := rfl
theorem qbD {k i n sz : Nat} {new : List (List V)} {K : V → St → Prop} : copyP bn sz ⟨e, h, b⟩ (.sl k i n) new K = copyB bn k i n sz ⟨e, h, b⟩ new (blk h k) K := rfl
theorem qbE {kd : TypeDesc} {y : Value} {K : Value → Prop} : keyK kd (.v y) K = (isKey kd y = true ∧ K y) := rfl
theorem qbF {k : Nat} {K : Nat → List (Value × V × Nat) → Nat → Prop} : mapK h (.mp k) K = mapB (blk h k) (K k) := rfl
theorem qbG {es : List (Value × V × Nat)} {c : Nat} {K : List (Value × V × Nat) → Nat → Prop} : mapB (.map es c) K = K es c := rfl
theorem qbH {kd : TypeDesc} {key z : Value} {ok : Bool} {k : Nat} {K : V → Prop} : lookM h kd key z ok (.mp k) K = mapB (blk h k) fun es _ => lookK (mfind kd key es 0) z ok K := rfl
theorem qbI {kd : TypeDesc} {key z : Value} {ok : Bool} {K : V → Prop} : lookM h kd key z ok (.v (.map none)) K = lookK (some none) z ok K := rfl
theorem qbJ {i : Nat} {x : V} {z : Value} {K : V → Prop} : lookK (some (some (i, x))) z true K = K (.tup [x, .b true]) := rfl
theorem qbK {i : Nat} {x : V} {z : Value} {K : V → Prop} : lookK (some (some (i, x))) z false K = K x := rfl
theorem qbL {z : Value} {K : V → Prop} : lookK (some none) z true K = K (.tup [ofConst z, .b false]) := rfl
theorem qbM {z : Value} {K : V → Prop} : lookK (some none) z false K = K (ofConst z) := rfl
theorem qbN {i c : Nat} {y x : V} {key : Value} {es : List (Value × V × Nat)} {K : Blk → Prop} : msetK (some (some (i, y))) key x es c K = K (.map (es.modify i fun e => (key, x, e.2.2)) c) := rfl
theorem qbO {c : Nat} {x : V} {key : Value} {es : List (Value × V × Nat)} {K : Blk → Prop} : msetK (some none) key x es c K = K (.map (es ++ [(key, x, c)]) (c + 1)) := rfl
theorem qbP {q : Value × V × Nat} {K : V → Prop} : entK (some q) K = K (.tup [.v q.1, q.2.1]) := rfl
theorem qbQ {kd : TypeDesc} {key : Value} {i : Nat} : mfind kd key [] i = some none := rfl
theorem qbR {k : IntKind} {a : Int} : isKey (.int k) (.int k a) = true := by simp [isKey]
theorem qbS {k : Nat} {K : Nat → V → Nat → List Nat → Nat → Prop} : itK h (.ptr k 0 0) K = itB (blk h k) (K k) := rfl
theorem qbT {m : V} {si la : Nat} {se : List Nat} {K : V → Nat → List Nat → Nat → Prop} : itB (.it m si se la) K = K m si se la := rfl
section
variable {k : IntKind} {a c : Int} {K : V → Prop}
theorem qbU : binInt .add true k a c K = ((lo k ≤ a + c ∧ a + c ≤ hi k) ∧ K (.v (.int k (a + c)))) := rfl
theorem qbV : binInt .add false k a c K = K (.v (.int k (k.wrap (a + c)))) := rfl
theorem qbW : binInt .sub true k a c K = ((lo k ≤ a - c ∧ a - c ≤ hi k) ∧ K (.v (.int k (a - c)))) := rfl
theorem qbX : binInt .sub false k a c K = K (.v (.int k (k.wrap (a - c)))) := rfl
theorem qbY : binInt .mul true k a c K = ((lo k ≤ a * c ∧ a * c ≤ hi k) ∧ K (.v (.int k (a * c)))) := rfl
theorem qbZ : binInt .mul false k a c K = K (.v (.int k (k.wrap (a * c)))) := rfl
theorem qca {x : Bool} : binInt .eql x k a c K = K (.b (a == c)) := rfl
theorem qcb {x : Bool} : binInt .neq x k a c K = K (.b (a != c)) := rfl
theorem qcc {x : Bool} : binInt .lss x k a c K = K (.b (decide (a < c))) := rfl
theorem qcd {x : Bool} : binInt .leq x k a c K = K (.b (decide (a ≤ c))) := rfl
theorem qce {x : Bool} : binInt .gtr x k a c K = K (.b (decide (c < a))) := rfl
theorem qcf {x : Bool} : binInt .geq x k a c K = K (.b (decide (c ≤ a))) := rfl
theorem qcg : binInt .quo true k a c K = (c ≠ 0 ∧ (lo k ≤ a.tdiv c ∧ a.tdiv c ≤ hi k) ∧ K (.v (.int k (a.tdiv c)))) := rfl
theorem qch : binInt .quo false k a c K = (c ≠ 0 ∧ K (.v (.int k (k.wrap (a.tdiv c))))) := rfl
theorem qci {x : Bool} : binInt .rem x k a c K = (c ≠ 0 ∧ K (.v (.int k (a.tmod c)))) := rfl
end
@[congr] theorem c_slcAP {n : Nat} {x x' : V} {l u m : Option Int} {K : V → Prop} (q : x = x') : slcAP h n x l u m K = slcAP h n x' l u m K := by rw [q]
@[congr] theorem c_slcAB {n k i i' : Nat} {b b' : Blk} {l u m : Option Int} {K : V → Prop} (q : b = b') (q2 : i = i') : slcAB n k i b l u m K = slcAB n k i' b' l u m K := by rw [q, q2]
@[congr] theorem c_peqP {x x' y y' : V} {K : Bool → Prop} (q : x = x') (q2 : y = y') : peqP x y K = peqP x' y' K := by rw [q, q2]
@[congr] theorem c_strK {x x' : V} {K : ByteArray → Prop} (q : x = x') : strK x K = strK x' K := by rw [q]
@[congr] theorem c_sslcP {t t' : ByteArray} {l u : Option Int} {K : V → Prop} (q : t = t') : sslcP t l u K = sslcP t' l u K := by rw [q]
@[congr] theorem c_sbinP {o : BinOp} {t t' u u' : ByteArray} {K : V → Prop} (q : t = t') (q2 : u = u') : sbinP o t u K = sbinP o t' u' K := by rw [q, q2]
@[congr] theorem c_mmP {mx : Bool} {x x' : V} {r r' : List V} {K : V → Prop} (q : x = x') (q2 : r = r') : mmP mx x r K = mmP mx x' r' K := by rw [q, q2]
@[congr] theorem c_clrP {sz : Nat} {z : List Value} {x x' : V} {K : V → St → Prop} (q : x = x') : clrP bn sz z x s K = clrP bn sz z x' s K := by rw [q]
@[congr] theorem c_clrB {k i n sz : Nat} {z : List Value} {b b' : Blk} {K : V → St → Prop} (q : b = b') : clrB bn k i n sz z s b K = clrB bn k i n sz z s b' K := by rw [q]
@[congr] theorem c_keyA {ks : List (Nat × TypeDesc)} {x x' : V} {K : List Value → Prop} (q : x = x') : keyA ks x K = keyA ks x' K := by rw [q]
@[congr] theorem c_lookMA {ks : List (Nat × TypeDesc)} {us : List Value} {z : Value} {ok : Bool} {m m' : V} {K : V → Prop} (q : m = m') : lookMA h ks us z ok m K = lookMA h ks us z ok m' K := by rw [q]
@[congr] theorem c_copyB {k i n sz : Nat} {new : List (List V)} {b b' : Blk} {K : V → St → Prop} (q : b = b') : copyB bn k i n sz s new b K = copyB bn k i n sz s new b' K := by rw [q]
@[congr] theorem c_keyK {kd : TypeDesc} {x x' : V} {K : Value → Prop} (q : x = x') : keyK kd x K = keyK kd x' K := by rw [q]
@[congr] theorem c_mapK {x x' : V} {K : Nat → List (Value × V × Nat) → Nat → Prop} (q : x = x') : mapK h x K = mapK h x' K := by rw [q]
@[congr] theorem c_mapB {x x' : Blk} {K : List (Value × V × Nat) → Nat → Prop} (q : x = x') : mapB x K = mapB x' K := by rw [q]
@[congr] theorem c_lookM {kd : TypeDesc} {key key' z : Value} {ok : Bool} {m m' : V} {K : V → Prop} (q : m = m') (q2 : key = key') : lookM h kd key z ok m K = lookM h kd key' z ok m' K := by rw [q, q2]
@[congr] theorem c_lookK {r r' : Option (Option (Nat × V))} {z : Value} {ok : Bool} {K : V → Prop} (q : r = r') : lookK r z ok K = lookK r' z ok K := by rw [q]
@[congr] theorem c_msetK {r r' : Option (Option (Nat × V))} {key key' : Value} {x x' : V} {es es' : List (Value × V × Nat)} {c c' : Nat} {K : Blk → Prop} (q : r = r') (q1 : key = key') (q2 : x = x') (q3 : es = es') (q4 : c = c') : msetK r key x es c K = msetK r' key' x' es' c' K := by rw [q, q1, q2, q3, q4]
@[congr] theorem c_nextK {es es' : List (Value × V × Nat)} {si si' la la' : Nat} {se se' : List Nat} {D : Prop} {K : Value → V → Nat → Prop} (q : es = es') (q1 : si = si') (q2 : se = se') (q3 : la = la') : nextK es si se la D K = nextK es' si' se' la' D K := by rw [q, q1, q2, q3]
@[congr] theorem c_entK {r r' : Option (Value × V × Nat)} {K : V → Prop} (q : r = r') : entK r K = entK r' K := by rw [q]
@[congr] theorem c_itK {x x' : V} {K : Nat → V → Nat → List Nat → Nat → Prop} (q : x = x') : itK h x K = itK h x' K := by rw [q]
@[congr] theorem c_itB {x x' : Blk} {K : V → Nat → List Nat → Nat → Prop} (q : x = x') : itB x K = itB x' K := by rw [q]
@[congr] theorem c_viewB {i n : Nat} {x x' : Blk} {K : Nat → List (List V) → Prop} (q : x = x') : viewB x i n K = viewB x' i n K := by rw [q]
end
section
variable {α : Type} {a : α} {l : List α} {x : α} {y : Nat}
theorem lg0 : (a :: l)[1]? = l[0]? := rfl
theorem kU : (a :: l).set 1 x = a :: l.set 0 x := rfl
theorem kV : (a :: l).drop 1 = l.drop 0 := rfl
theorem kW : (a :: l).take 1 = a :: l.take 0 := rfl
theorem kX : yB 1 x = x :: yB 0 x := rfl
theorem lg1 : (a :: l)[2]? = l[1]? := rfl
theorem kY : (a :: l).set 2 x = a :: l.set 1 x := rfl
theorem kZ : (a :: l).drop 2 = l.drop 1 := rfl
theorem wa : (a :: l).take 2 = a :: l.take 1 := rfl
theorem wb : yB 2 x = x :: yB 1 x := rfl
theorem lg2 : (a :: l)[3]? = l[2]? := rfl
theorem wc : (a :: l).set 3 x = a :: l.set 2 x := rfl
theorem wd : (a :: l).drop 3 = l.drop 2 := rfl
theorem we : (a :: l).take 3 = a :: l.take 2 := rfl
theorem wg : yB 3 x = x :: yB 2 x := rfl
theorem lg3 : (a :: l)[4]? = l[3]? := rfl
theorem wh : (a :: l).set 4 x = a :: l.set 3 x := rfl
theorem wi : (a :: l).drop 4 = l.drop 3 := rfl
theorem wj : (a :: l).take 4 = a :: l.take 3 := rfl
theorem wl : yB 4 x = x :: yB 3 x := rfl
theorem lg4 : (a :: l)[5]? = l[4]? := rfl
theorem wm : (a :: l).set 5 x = a :: l.set 4 x := rfl
theorem wn : (a :: l).drop 5 = l.drop 4 := rfl
theorem wo : (a :: l).take 5 = a :: l.take 4 := rfl
theorem wq : yB 5 x = x :: yB 4 x := rfl
theorem lg5 : (a :: l)[6]? = l[5]? := rfl
theorem wr : (a :: l).set 6 x = a :: l.set 5 x := rfl
theorem wt : (a :: l).drop 6 = l.drop 5 := rfl
theorem wu : (a :: l).take 6 = a :: l.take 5 := rfl
theorem wv : yB 6 x = x :: yB 5 x := rfl
theorem lg6 : (a :: l)[7]? = l[6]? := rfl
theorem ww : (a :: l).set 7 x = a :: l.set 6 x := rfl
theorem wx : (a :: l).drop 7 = l.drop 6 := rfl
theorem wy : (a :: l).take 7 = a :: l.take 6 := rfl
theorem wz : yB 7 x = x :: yB 6 x := rfl
theorem lg7 : (a :: l)[8]? = l[7]? := rfl
theorem wB : (a :: l).set 8 x = a :: l.set 7 x := rfl
theorem wC : (a :: l).drop 8 = l.drop 7 := rfl
theorem wD : (a :: l).take 8 = a :: l.take 7 := rfl
theorem wE : yB 8 x = x :: yB 7 x := rfl
theorem lg8 : (a :: l)[9]? = l[8]? := rfl
theorem wF : (a :: l).set 9 x = a :: l.set 8 x := rfl
theorem wG : (a :: l).drop 9 = l.drop 8 := rfl
theorem wH : (a :: l).take 9 = a :: l.take 8 := rfl
theorem wI : yB 9 x = x :: yB 8 x := rfl
theorem lg9 : (a :: l)[10]? = l[9]? := rfl
theorem wJ : (a :: l).set 10 x = a :: l.set 9 x := rfl
theorem wK : (a :: l).drop 10 = l.drop 9 := rfl
theorem wL : (a :: l).take 10 = a :: l.take 9 := rfl
theorem wM : yB 10 x = x :: yB 9 x := rfl
theorem wN : (a :: l)[11]? = l[10]? := rfl
theorem wO : (a :: l).set 11 x = a :: l.set 10 x := rfl
theorem wP : (a :: l).drop 11 = l.drop 10 := rfl
theorem wQ : (a :: l).take 11 = a :: l.take 10 := rfl
theorem wR : yB 11 x = x :: yB 10 x := rfl
theorem wS : (a :: l)[12]? = l[11]? := rfl
theorem wT : (a :: l).set 12 x = a :: l.set 11 x := rfl
theorem wU : (a :: l).drop 12 = l.drop 11 := rfl
theorem wV : (a :: l).take 12 = a :: l.take 11 := rfl
theorem wW : yB 12 x = x :: yB 11 x := rfl
theorem wX : (a :: l)[13]? = l[12]? := rfl
theorem wY : (a :: l).set 13 x = a :: l.set 12 x := rfl
theorem wZ : (a :: l).drop 13 = l.drop 12 := rfl
theorem ja : (a :: l).take 13 = a :: l.take 12 := rfl
theorem jb : yB 13 x = x :: yB 12 x := rfl
theorem jc : (a :: l)[14]? = l[13]? := rfl
theorem jd : (a :: l).set 14 x = a :: l.set 13 x := rfl
theorem je : (a :: l).drop 14 = l.drop 13 := rfl
theorem jf : (a :: l).take 14 = a :: l.take 13 := rfl
theorem jg : yB 14 x = x :: yB 13 x := rfl
theorem jh : (a :: l)[15]? = l[14]? := rfl
theorem ji : (a :: l).set 15 x = a :: l.set 14 x := rfl
theorem jj : (a :: l).drop 15 = l.drop 14 := rfl
theorem jk : (a :: l).take 15 = a :: l.take 14 := rfl
theorem jl : yB 15 x = x :: yB 14 x := rfl
theorem jm : (a :: l)[16]? = l[15]? := rfl
theorem jn : (a :: l).set 16 x = a :: l.set 15 x := rfl
theorem jo : (a :: l).drop 16 = l.drop 15 := rfl
theorem jp : (a :: l).take 16 = a :: l.take 15 := rfl
theorem jq : yB 16 x = x :: yB 15 x := rfl
theorem jr : (a :: l)[17]? = l[16]? := rfl
theorem jt : (a :: l).set 17 x = a :: l.set 16 x := rfl
theorem ju : (a :: l)[18]? = l[17]? := rfl
theorem jv : (a :: l).set 18 x = a :: l.set 17 x := rfl
theorem jx : (a :: l)[19]? = l[18]? := rfl
theorem jy : (a :: l).set 19 x = a :: l.set 18 x := rfl
theorem jz : (a :: l)[20]? = l[19]? := rfl
theorem jA : (a :: l).set 20 x = a :: l.set 19 x := rfl
theorem jB : (a :: l)[21]? = l[20]? := rfl
theorem jC : (a :: l).set 21 x = a :: l.set 20 x := rfl
theorem jD : (a :: l)[22]? = l[21]? := rfl
theorem jE : (a :: l).set 22 x = a :: l.set 21 x := rfl
theorem jF : (a :: l)[23]? = l[22]? := rfl
theorem jG : (a :: l).set 23 x = a :: l.set 22 x := rfl
theorem jH : (a :: l)[24]? = l[23]? := rfl
theorem jI : (a :: l).set 24 x = a :: l.set 23 x := rfl
theorem jJ : (a :: l)[25]? = l[24]? := rfl
theorem jK : (a :: l)[26]? = l[25]? := rfl
theorem jL : (a :: l)[27]? = l[26]? := rfl
theorem jM : (a :: l)[28]? = l[27]? := rfl
theorem jN : (a :: l)[29]? = l[28]? := rfl
theorem jO : (a :: l)[30]? = l[29]? := rfl
theorem jP : (a :: l)[31]? = l[30]? := rfl
theorem jQ : (a :: l)[32]? = l[31]? := rfl
theorem jR : (a :: l)[33]? = l[32]? := rfl
theorem jS : (a :: l)[34]? = l[33]? := rfl
theorem jT : (a :: l)[35]? = l[34]? := rfl
theorem jU : (a :: l)[36]? = l[35]? := rfl
theorem jV : (a :: l)[37]? = l[36]? := rfl
theorem jW : (a :: l)[38]? = l[37]? := rfl
theorem jX : (a :: l)[39]? = l[38]? := rfl
theorem jY : (a :: l)[40]? = l[39]? := rfl
theorem jZ : yB 0 x = [] := rfl
end
end Go.Fx
namespace Go.Fx
open Go.RowKit
theorem rep_none {ρ : Nat → Loc} {X : Nat → Prop} {w : World} {h : List Blk} (hr : Rep ρ X w h) : Rep (gvLoc ρ fun _ => true) X w [] :=
 ⟨fun j k _ h1 => by simp [gvLoc] at h1, fun k _ => by simp [gvLoc], fun k b hb => by simp at hb, fun b ho => hr.disj b (gv_own ho), fun k h1 => by simp [gvLoc] at h1, hr.xlt⟩
theorem Fn_give {P : Program} {f : FuncId} {args : List V} {mv : List Nat} {R : V → List Blk → Prop} {y : V} (h : Fn P f args [] mv R) (hy : ∀ r hs, R r hs → wk y (gvV (fun _ => true) hs r)) : Fn P f args [] mv (Is y) := by
 intro ρ X w vals h1 h2
 refine Calls.mono (h ρ X w vals h1 h2) ?_
 rintro e w' ⟨val, r, h', ρ', q1, q2, q3, q4, q5, q6⟩
 exact ⟨val, y, [], _, q1, ⟨⟨rfl, rfl⟩, yL _⟩, q3.trans gv_fr, rep_none q4, wk_rep _ _ _ (hy r h' q2.1) (gv_rep q4 _ _ q5), fun k hk => by simp at hk⟩
theorem Fn_ghost {P : Program} {f : FuncId} {args : List V} {mv : List Nat} {R R' : V → List Blk → Prop} (h : Fn P f args [] mv R) (hR : ∀ r hs, R r hs → ∃ r' hs', R' r' hs' ∧ leG [] ⟨[(0, r)], hs, 0⟩ ⟨[(0, r')], hs', 0⟩) : Fn P f args [] mv R' := by
 intro ρ X w vals h1 h2
 refine Calls.mono (h ρ X w vals h1 h2) ?_
 rintro e w' ⟨val, r, h', ρ', q1, q2, q3, q4, q5, q6⟩
 obtain ⟨r', hs', g1, g2⟩ := hR r h' q2.1
 have hg : Good ρ X w [] 1 ⟨[(0, r)], h', 0⟩ ⟨#[val], []⟩ w' := by
  refine ⟨ρ', ⟨⟨q3, fun k hk => by simp at hk⟩, trivial⟩, ⟨q4, fun i => ?_⟩, rfl, Marks.nil⟩
  by_cases hi : i = 0
  ·subst hi; exact q5
  ·have : get [(0, r)] i = .any := by simp [get, hi]
   rw [this]; trivial
 obtain ⟨ρ2, ⟨⟨p1, _⟩, _⟩, ⟨p2, p3⟩, _⟩ := hg.leG g2
 exact ⟨val, r', hs', ρ2, q1, ⟨g1, Nat.zero_le _⟩, p1, p2, p3 0, fun k hk => by simp at hk⟩
end Go.Fx
namespace Go.Fx
open Go.RowKit
section
variable (P : Program)
def C0 : Ctr := fun f xs h0 mv R => Callable P f ∧ Fn P f xs h0 mv R
def I0 : Itr := fun f zas fx k Y h K => Callable P f ∧ Iter P f zas fx k Y h K
def Y0 : Nat → Yt := fun _ _ _ _ => False
def cxN (fx : List Nat) : Cx := ⟨C0 P, fx, [], I0 P, Y0, none⟩
theorem cxN_ok (fx : List Nat) : (cxN P fx).ok P := ⟨fun _ _ _ _ _ h => h, fun _ _ _ _ _ _ _ h => h⟩
def OkN (f : FuncId) (xs : List V) (h0 : List Blk) (mv : List Nat) (R : V → List Blk → Prop) : Prop := C0 P f xs h0 mv R
variable {P}
theorem okN_of (hP : P.follows .mixedOrders = true) {f : FuncId} {l0 l : LCode} {rs : List LRes} {nt : Nat} (fx : List Nat) (hl : rlF P f l0 = some (l, rs, nt)) {args : List V} {h0 : List Blk} {mv : List Nat} {R : V → List Blk → Prop} (hlen : args.length ≤ nt) (hb : keepP fx h0)
  (hfx : ∀ k, k < h0.length → k ∉ mv → k ∈ fx) (h : aw (cxN P fx) l (retP fx h0.length rs R) (fun _ _ => False) (retP fx h0.length rs R) ⟨args0 0 args, h0, 0⟩) : OkN P f args h0 mv R :=
 ⟨rlF_callable hl, Fn_rl hP (cxN_ok P fx) hl hlen hb hfx h⟩
theorem itN_of (hP : P.follows .mixedOrders = true) {f : FuncId} {l0 l : LCode} {nt : Nat} (fx : List Nat) (hl : rlF P f l0 = some (l, [], nt)) {args : List V} {h0 : List Blk} {k : Nat} {Y : Yt} {K : List Blk → Prop} (hlen : args.length ≤ nt)
  (h : aw ⟨C0 P, fx, [], I0 P, fun k' xs s Z => k' = k ∧ Y xs s Z, none⟩ l (fun s => K s.h) (fun _ _ => False) (fun s => K s.h) ⟨args0 0 args, h0, 0⟩) : I0 P f args fx k Y h0 K :=
 ⟨rlF_callable hl, Iter_rl (cx := ⟨C0 P, fx, [], I0 P, fun k' xs s Z => k' = k ∧ Y xs s Z, none⟩) hP ⟨fun _ _ _ _ _ h => h, fun _ _ _ _ _ _ _ h => h⟩ hl hlen h rfl rfl⟩
theorem okN_post {f : FuncId} {xs : List V} {h0 : List Blk} {mv : List Nat} {R R' : V → List Blk → Prop} (h : OkN P f xs h0 mv R) (hR : ∀ r h', R r h' → R' r h') : OkN P f xs h0 mv R' := by
 refine ⟨h.1, ?_⟩
 intro ρ X w vals h1 h2
 refine Calls.mono (h.2 ρ X w vals h1 h2) ?_
 rintro e w' ⟨val, r, h', ρ', q1, q2, q3, q4, q5, q6⟩
 exact ⟨val, r, h', ρ', q1, ⟨hR r h' q2.1, q2.2⟩, q3, q4, q5, q6⟩
theorem okN_give {f : FuncId} {xs : List V} {y : V} {R : V → List Blk → Prop} (h : OkN P f xs [] [] R) (hy : ∀ r hs, R r hs → wk y (gvV (fun _ => true) hs r)) : OkN P f xs [] [] (Is y) := ⟨h.1, Fn_give h.2 hy⟩
end
def IsA (x : V) (h0 : List Blk) : V → List Blk → Prop := fun r h => r = x ∧ h = h0
theorem retP_isA {fx : List Nat} {n : Nat} {e : Env} {h : List Blk} {b : Nat} {rs : List LRes} {x : V} {h0 : List Blk} : retP fx n rs (IsA x h0) ⟨e, h, b⟩ = resP h e rs [] fun xs => (leH h h0 ∧ keepP fx h0 ∧ n ≤ h0.length ∧ wfV h0 (tupV xs) ∧ wfB h0 h0) ∧ tupV xs = x := by
 rw [retP_eq]
 congr 1
 funext xs
 apply propext
 constructor
 ·rintro ⟨p, h1, h2, rfl⟩
  exact ⟨h1, h2⟩
 ·rintro ⟨h1, h2⟩
  exact ⟨h0, h1, h2, rfl⟩
def IsQ {G : Type} (Q : G → Prop) (x : G → V) (h0 : G → List Blk) : V → List Blk → Prop := fun r h => ∃ g, Q g ∧ r = x g ∧ h = h0 g
theorem retP_isQ {G : Type} {Q : G → Prop} {fx : List Nat} {n : Nat} {e : Env} {h : List Blk} {b : Nat} {rs : List LRes} {x : G → V} {h0 : G → List Blk} (g : G) (hq : Q g)
  (hr : resP h e rs [] fun xs => (leH h (h0 g) ∧ keepP fx (h0 g) ∧ n ≤ (h0 g).length ∧ wfV (h0 g) (tupV xs) ∧ wfB (h0 g) (h0 g)) ∧ tupV xs = x g) : retP fx n rs (IsQ Q x h0) ⟨e, h, b⟩ := by
 have hm : ∀ {h : List Blk} {e : Env} (rs : List LRes) (acc : List V) {K K' : List V → Prop}, (∀ xs, K xs → K' xs) → resP h e rs acc K → resP h e rs acc K' := by
  intro h e rs
  induction rs with
  | nil => intro acc K K' hk h; exact hk _ h
  | cons r rs ih =>
   intro acc K K' hk hh
   cases r with
   | tmp t => exact ih _ hk hh
   | cell a n =>
    simp only [resP] at hh ⊢
    have hcs : ∀ (n : Option Nat) (f : Nat) (cs : List V) {A B : V → Prop}, (∀ x, A x → B x) → loadCs n f cs A → loadCs n f cs B := by
     intro n f cs A B hab hl
     unfold loadCs at hl ⊢
     split at hl
     ·unfold optK at hl ⊢
      split at hl
      ·exact hab _ hl
      ·exact hl.elim
     ·exact ⟨hl.1, hab _ hl.2⟩
    unfold loadP at hh ⊢
    split at hh
    ·unfold loadB at hh ⊢
     split at hh
     ·exact hcs _ _ _ (fun x => ih _ hk) hh
     ·obtain ⟨hi, hh⟩ := hh; exact ⟨hi, hcs _ _ _ (fun x => ih _ hk) hh⟩
     ·obtain ⟨hi, hh⟩ := hh; exact ⟨hi, hcs _ _ _ (fun x => ih _ hk) hh⟩
     ·exact hh.elim
    ·obtain ⟨hi, hh⟩ := hh; exact ⟨hi, hcs _ _ _ (fun x => ih _ hk) hh⟩
    ·exact hh.elim
 rw [retP_eq]
 refine hm rs [] ?_ hr
 rintro xs ⟨h1, h2⟩
 exact ⟨h0 g, h1, g, hq, h2, rfl⟩
section
variable {cx : Cx} {f : FuncId} {args : List V} {e : Env} {h : List Blk} {b : Nat} {K : V → St → Prop}
theorem call_is {xs : List V} {x : V} (hC : cx.C f xs [] [] (Is x)) (h1 : lendsOk h (fun _ => none) args ∧ wkL xs (lends h (fun _ => none) args)) (hx : ren (fun j => some (h.length + j)) x = x) (keep : keepP cx.fx h) (h3 : K x ⟨e, h, b⟩) : callP cx f args ⟨e, h, b⟩ K := by
 refine callP_pure xs (Is x) h1 hC ?_
 rintro r h' ⟨rfl, rfl⟩
 simp only [yT, yM]
 exact ⟨keep, by rw [hx]; exact h3⟩
theorem call_isA (xs : List V) (x x' : V) (h0 h0' : List Blk) (hC : cx.C f xs [] [] (IsA x h0)) (h1 : lendsOk h (fun _ => none) args ∧ wkL xs (lends h (fun _ => none) args))
  (hx : ren (fun j => some (h.length + j)) x = x') (hh : h0.map (renB (fun j => some (h.length + j))) = h0') (keep : keepP cx.fx (h ++ h0')) (h3 : K x' ⟨e, h ++ h0', b⟩) : callP cx f args ⟨e, h, b⟩ K := by
 refine callP_pure xs (IsA x h0) h1 hC ?_
 rintro r h' ⟨rfl, rfl⟩
 rw [hx, hh]
 exact ⟨keep, h3⟩
theorem call_isN (ι : List Nat) (xs : List V) (x x' : V) (h0 h1 h' : List Blk) (hC : cx.C f xs h0 [] (IsA x h1))
  (hι : ι.Nodup ∧ ∀ k ∈ ι, k < h.length ∧ k ∉ cx.bn) (r0 : ι.map (fun k => renB (pos ι) (blk h k)) = h0) (ha : lendsOk h (pos ι) args ∧ wkL xs (lends h (pos ι) args)) (hlen : ι.length ≤ h1.length)
  (hh : setAll ι (h1.map (renB (back ι h.length))) h = h') (hx : ren (back ι h.length) x = x') (keep : keepP cx.fx h') (h3 : K x' ⟨e, h', b⟩) : callP cx f args ⟨e, h, b⟩ K := by
 have hkb : ∀ l : List Blk, l.map (killB []) = l := killB_nil
 refine ⟨ι, xs, [], IsA x h1, ⟨hι, by simp⟩, ha.1, ha.2, by rw [r0]; exact hC, ?_⟩
 rintro r h2 ⟨rfl, rfl⟩ _
 simp only [List.filterMap_nil, hkb, killE_nil, hh, hx]
 exact ⟨keep, h3⟩
theorem call_isM {G : Type} (Q : G → Prop) (ι mv M : List Nat) (xs : List V) (x : G → V) (h0 : List Blk) (h1 : G → List Blk) (hC : cx.C f xs h0 mv (IsQ Q x h1))
  (hι : ι.Nodup ∧ ∀ k ∈ ι, k < h.length ∧ k ∉ cx.bn) (hM : mv.filterMap (ι[·]?) = M ∧ ∀ j ∈ mv, ∀ k, ι[j]? = some k → k ∉ cx.fx) (r0 : ι.map (fun k => renB (pos ι) (blk h k)) = h0) (ha : lendsOk h (pos ι) args ∧ wkL xs (lends h (pos ι) args))
  (h3 : ∀ g, Q g → keepP cx.fx (setAll ι ((h1 g).map (renB (back ι h.length))) (h.map (killB M))) ∧ K (ren (back ι h.length) (x g)) ⟨killE M e, setAll ι ((h1 g).map (renB (back ι h.length))) (h.map (killB M)), b⟩) : callP cx f args ⟨e, h, b⟩ K := by
 refine ⟨ι, xs, mv, IsQ Q x h1, ⟨hι, hM.2⟩, ha.1, ha.2, by rw [r0]; exact hC, ?_⟩
 rintro r h2 ⟨g, hq, rfl, rfl⟩ _
 rw [hM.1]
 exact h3 g hq
end
end Go.Fx
namespace Go.Fx
open Go.RowKit
end Go.Fx
namespace Go.Fx
open Go.RowKit
theorem I0_le {P : Program} {f : FuncId} {zas : List V} {fx : List Nat} {k : Nat} {Y : Yt} {h h' : List Blk} {K : List Blk → Prop} (hle : leH h h') (hk : keepP fx h') (hw : wfB h' h') (ha : wfL h' zas) (hi : I0 P f zas fx k Y h' K) : I0 P f zas fx k Y h K := by
 refine ⟨hi.1, ?_⟩
 intro ρ X w vals hr hv hkp hY
 have := hi.2 (dropLoc ρ h') X w vals (dropRep hr hle hw) (drops_rep _ _ ha hv) hk (by
  intro ρ1 w1 s tmps xs vs Z ⟨hf, hfx⟩ g1 g2 g3 g4 g5
  exact hY ρ1 w1 s tmps xs vs Z ⟨drop_fr.trans hf, fun j hj => (hfx j hj).trans (live_loc (keepP_get hk j hj))⟩ g1 g2 g3 g4 g5)
 refine this.mono ?_
 rintro e w' ⟨val, h1, ρ', rfl, hK, ⟨hf, hr'⟩, hfx, hkp'⟩
 exact ⟨val, h1, ρ', rfl, hK, ⟨drop_fr.trans hf, hr'⟩, fun j hj => (hfx j hj).trans (live_loc (keepP_get hk j hj)), hkp'⟩
end Go.Fx
namespace Go.Fx
open Go.RowKit
def rcdB (b : Option Blk) (K : RS → Env → Prop) : Prop :=
 match b with
 | some (.rcd t e) => K t e
 | _ => False
theorem rcdB_s {t : RS} {e : Env} {K : RS → Env → Prop} : rcdB (some (.rcd t e)) K = K t e := rfl
@[congr] theorem c_rcdB {b b' : Option Blk} {K : RS → Env → Prop} (q : b = b') : rcdB b K = rcdB b' K := by rw [q]
theorem rcdK_b {h : List Blk} {k : Nat} {K : RS → Env → Prop} : rcdK h k K = rcdB h[k]? K := by
 unfold rcdK rcdB; rfl
def itrK (x : V) (K : Nat → Prop) : Prop :=
 match x with
 | .itr k => K k
 | _ => False
theorem itrK_i {k : Nat} {K : Nat → Prop} : itrK (.itr k) K = K k := rfl
@[congr] theorem c_itrK {x x' : V} {K : Nat → Prop} (q : x = x') : itrK x K = itrK x' K := by rw [q]
def callY (Y : Nat → Yt) (k : Nat) (xs : List V) (s : St) (K : V → St → Prop) : Prop := Y k xs s K
@[congr] theorem c_callY {Y : Nat → Yt} {k : Nat} {xs xs' : List V} {s s' : St} {K : V → St → Prop} (q : xs = xs') (q2 : s = s') : callY Y k xs s K = callY Y k xs' s' K := by rw [q, q2]
def endT (t : RS) (A : Prop) (B : Nat → Prop) (C : Prop) : Prop :=
 match t with
 | .ready => A
 | .out none => C
 | .out (some j) => B j
 | _ => False
theorem endT_r {A C : Prop} {B : Nat → Prop} : endT .ready A B C = A := rfl
theorem endT_n {A C : Prop} {B : Nat → Prop} : endT (.out none) A B C = C := rfl
@[congr] theorem c_endT {t t' : RS} {A C : Prop} {B : Nat → Prop} (q : t = t') : endT t A B C = endT t' A B C := by rw [q]
section
variable {cx : Cx} {e : Env} {h : List Blk} {b : Nat} {K : V → St → Prop} {Ks : St → Prop} {N R : St → Prop} {X : Nat → St → Prop} {d : Option Nat} {op : LOp}
@[congr] theorem c_aOpsY {l : List LOper} {s s' : St} {Ks : St → Prop} (q : s = s') : aOpsY cx l s Ks = aOpsY cx l s' Ks := by rw [q]
theorem aw_ytree {n m : Nat} {p : LPlan} {l : List LOper} : aw cx (.ytree n p m l) N X R ⟨e, h, b⟩ = awP cx p [] (fun s' => aOpsY cx l s' N) ⟨e, h ++ yB n .dead, h.length⟩ := rfl
theorem aOpsY_nil : aOpsY cx [] ⟨e, h, b⟩ Ks = Ks ⟨e, h, b⟩ := rfl
theorem yo_yld {f : Operand} {xs : List Operand} {r : List LOper} : aOpsY cx (⟨d, .yld f xs, none⟩ :: r) ⟨e, h, b⟩ Ks = itrK (ev e f) fun k => callY cx.y k (xs.map (ev e)) ⟨e, h, b⟩ fun x s' => aOpsY cx r (s'.put d x) Ks := by
 show yieldP cx f xs ⟨e, h, b⟩ _ = _
 unfold yieldP itrK callY; rfl
theorem yo_not {x : Operand} {r : List LOper} : aOpsY cx (⟨d, (.not x), none⟩ :: r) ⟨e, h, b⟩ Ks = aOp cx (.not x) ⟨e, h, b⟩ fun x s' => aOpsY cx r (s'.put d x) Ks := rfl
theorem begRd_e {k : Nat} : begRd k Ks ⟨e, h, b⟩ = rcdB h[k]? fun t e' => t = .ready ∧ Ks ⟨e, h.set k (.rcd .busy e'), b⟩ := rcdK_b
theorem endRd_e {k kE bI : Nat} {t : RS} {y : Bool} : endRd k kE bI K y t ⟨e, h, b⟩ = rcdB h[k]? fun t2 e2 => t2 = .busy ∧ rcdB h[kE]? fun t3 eI => t3 = .ghost ∧ K (.b y) ⟨eI, (h.set k (.rcd t e2)).set kE .dead, bI⟩ := by
 unfold endRd
 simp only [rcdK_b]
theorem endLp_e {k : Nat} : endLp k N X R h = rcdB h[k]? fun t e => (wfE (h.set k .dead) e ∧ wfB (h.set k .dead) (h.set k .dead)) ∧ endT t (N ⟨e, h.set k .dead, 0⟩) (fun j => X j ⟨e, h.set k .dead, 0⟩) (R ⟨e, h.set k .dead, 0⟩) := by
 unfold endLp
 simp only [rcdK_b]
 rfl
@[congr] theorem c_begRd {k : Nat} {s s' : St} (q : s = s') : begRd k Ks s = begRd k Ks s' := by rw [q]
@[congr] theorem c_endRd {k kE bI : Nat} {t : RS} {y : Bool} {s s' : St} (q : s = s') : endRd k kE bI K y t s = endRd k kE bI K y t s' := by rw [q]
@[congr] theorem c_endLp {k : Nat} {h h' : List Blk} (q : h = h') : endLp k N X R h = endLp k N X R h' := by rw [q]
def yR (cx : Cx) (ps : List Nat) (asg body : LCode) (k : Nat) : Yt := fun xs sI K => rcdK sI.h k fun t e => t = .ready ∧ xs.length = ps.length ∧
 aw { cx with fx := sI.h.length :: k :: cx.fx, y := fun _ _ _ _ => False, rk := some k } asg
  (begRd k fun s1 => aw { cx with fx := sI.h.length :: k :: cx.fx, y := fun _ _ _ _ => False, rk := some k } body
   (endRd k sI.h.length sI.b K true .ready) (fun j => endRd k sI.h.length sI.b K false (.out (some j))) (endRd k sI.h.length sI.b K false (.out none)) s1)
  (fun _ _ => False) (fun _ => False) ⟨setPs ps xs e, sI.h ++ [.rcd .ghost sI.e], sI.b⟩
theorem rfn_go {g : Operand} {ps : List Nat} {asg body : LCode} {gf : FuncId} {caps : List V} (n : Nat) (hn : h.length = n) (hg : ev e g = .clo gf caps) (hrk : inRdP cx.rk h)
  (hit : cx.it gf (.itr n :: caps) (n :: cx.fx) n (yR cx ps asg body n) (h ++ [.rcd .ready e]) (endLp n N X R)) : aw cx (.rfn g ps asg body) N X R ⟨e, h, b⟩ := by
 subst hn
 simp only [aw, hg]
 exact ⟨hrk, hit⟩
theorem yR_go {ps : List Nat} {asg body : LCode} {k : Nat} {xs : List V} {e0 : Env} (n : Nat) (hn : h.length = n) (hk : h[k]? = some (.rcd .ready e0)) (hl : xs.length = ps.length)
  (hgo : aw ⟨cx.C, n :: k :: cx.fx, cx.bn, cx.it, Y0, some k⟩ asg (begRd k fun s1 => aw ⟨cx.C, n :: k :: cx.fx, cx.bn, cx.it, Y0, some k⟩ body
   (endRd k n b K true .ready) (fun j => endRd k n b K false (.out (some j))) (endRd k n b K false (.out none)) s1) (fun _ _ => False) (fun _ => False) ⟨setPs ps xs e0, h ++ [.rcd .ghost e], b⟩) :
  yR cx ps asg body k xs ⟨e, h, b⟩ K := by
 subst hn
 unfold yR rcdK
 rw [show (⟨e, h, b⟩ : St).h[k]? = some (.rcd .ready e0) from hk]
 exact ⟨rfl, hl, hgo⟩
end
end Go.Fx
namespace Go.Fx.P
open Go Go.Fx Go.Proofs
structure Arc where
 from_ : Int
 to : Int
 cap : Int
 cost : Int
 deriving Inhabited
def Arc.enc (a : Arc) : List V := [.i a.from_, .i a.to, .i a.cap, .i a.cost]
def encI (x : Int) : List V := [.i x]
def encB (x : Bool) : List V := [.b x]
def net (n : Int) (arcs : List Arc) : V := .agg [.i n, .ro 4 (arcs.map Arc.enc)]
def li (l : List Int) : V := .ro 1 (l.map encI)
structure Fr where
 sent : Int
 cost : Int
 flow : List Int
 price : List Int
 cut : List Int
def Fr.enc (f : Fr) : V := .agg [.i f.sent, .i f.cost, li f.flow, li f.price, li f.cut]
structure Allot where
 gate : Int
 origin : Int
 n : Int
 deriving Inhabited, DecidableEq
def Allot.enc (a : Allot) : List V := [.i a.gate, .i a.origin, .i a.n]
structure Spot where
 kind : Int
 num : Int
 cap : Int
 deriving Inhabited, DecidableEq
def Spot.enc (a : Spot) : List V := [.i a.kind, .i a.num, .i a.cap]
structure Road where
 from_ : Int
 to : Int
 cap : Int
 cost : Int
 deriving Inhabited
def Road.enc (a : Road) : List V := [.i a.from_, .i a.to, .i a.cap, .i a.cost]
def sps (l : List Spot) : V := .ro 3 (l.map Spot.enc)
def rds (l : List Road) : V := .ro 4 (l.map Road.enc)
def plant (ps : List Spot) (rs : List Road) : V := .agg [sps ps, rds rs]
abbrev Ok (f : FuncId) (xs : List V) (R : V → List Blk → Prop) : Prop := OkN Try.prog f xs [] [] R
theorem ok_of {f : FuncId} {l0 l : LCode} {rs : List LRes} {nt : Nat} (hl : rlF Try.prog f l0 = some (l, rs, nt)) {args : List V} {R : V → List Blk → Prop} (hlen : args.length ≤ nt)
  (h : aw (cxN Try.prog []) l (retP [] 0 rs R) (fun _ _ => False) (retP [] 0 rs R) ⟨args0 0 args, [], 0⟩) : Ok f args R :=
 okN_of pol [] hl hlen trivial (fun k hk => by simp at hk) h
theorem enc_len (a : Arc) : a.enc.length = 4 := rfl
theorem enc_take (a : Arc) : yU 4 a.enc = a.enc := rfl
theorem enc_0 (a : Arc) : a.enc[0]? = some (.i a.from_) := rfl
theorem enc_1 (a : Arc) : a.enc[1]? = some (.i a.to) := rfl
theorem enc_2 (a : Arc) : a.enc[2]? = some (.i a.cap) := rfl
theorem enc_3 (a : Arc) : a.enc[3]? = some (.i a.cost) := rfl
theorem enc_isC (a : Arc) : a.enc.all isC = true := rfl
theorem enc_isD (a : Arc) : a.enc.all isD = true := rfl
theorem al_len (a : Allot) : a.enc.length = 3 := rfl
theorem al_take (a : Allot) : yU 3 a.enc = a.enc := rfl
theorem al_0 (a : Allot) : a.enc[0]? = some (.i a.gate) := rfl
theorem al_1 (a : Allot) : a.enc[1]? = some (.i a.origin) := rfl
theorem al_2 (a : Allot) : a.enc[2]? = some (.i a.n) := rfl
theorem al_isC (a : Allot) : a.enc.all isC = true := rfl
theorem al_isD (a : Allot) : a.enc.all isD = true := rfl
theorem sp_len (a : Spot) : a.enc.length = 3 := rfl
theorem sp_take (a : Spot) : yU 3 a.enc = a.enc := rfl
theorem sp_0 (a : Spot) : a.enc[0]? = some (.i a.kind) := rfl
theorem sp_1 (a : Spot) : a.enc[1]? = some (.i a.num) := rfl
theorem sp_2 (a : Spot) : a.enc[2]? = some (.i a.cap) := rfl
theorem sp_isC (a : Spot) : a.enc.all isC = true := rfl
theorem sp_isD (a : Spot) : a.enc.all isD = true := rfl
theorem rd_len (a : Road) : a.enc.length = 4 := rfl
theorem rd_take (a : Road) : yU 4 a.enc = a.enc := rfl
theorem rd_0 (a : Road) : a.enc[0]? = some (.i a.from_) := rfl
theorem rd_1 (a : Road) : a.enc[1]? = some (.i a.to) := rfl
theorem rd_2 (a : Road) : a.enc[2]? = some (.i a.cap) := rfl
theorem rd_3 (a : Road) : a.enc[3]? = some (.i a.cost) := rfl
theorem rd_isC (a : Road) : a.enc.all isC = true := rfl
theorem rd_isD (a : Road) : a.enc.all isD = true := rfl
theorem encI_len (x : Int) : (encI x).length = 1 := rfl
theorem encI_0 (x : Int) : (encI x)[0]? = some (.i x) := rfl
theorem encI_drop (x : Int) : List.drop 1 (encI x) = [] := rfl
theorem encB_drop (x : Bool) : List.drop 1 (encB x) = [] := rfl
theorem encB_len (x : Bool) : (encB x).length = 1 := rfl
theorem encB_0 (x : Bool) : (encB x)[0]? = some (.b x) := rfl
open And renaming intro → aI
set_option linter.defProp false
def rX := aI (aI (aI (aI (aI (aI (aI (@vI) (aI (@vJ) (@yV))) (aI (@vK) (aI (@yW) (@yD)))) (aI (aI (@vL.{0}) (aI (@vM.{0}) (@yM.{0}))) (aI (@vN.{0}) (aI (@vO.{0}) (@vP.{0}))))) (aI (aI (aI (@yX.{0}) (aI (@yY.{0}) (@vQ.{0,0}))) (aI (@yO.{0}) (aI (@yP.{0}) (@yH.{0,0})))) (aI (aI (@yZ.{0}) (aI (@vR.{0}) (@vA.{0,0}))) (aI (@yT.{0,0}) (aI (@yI.{0}) (@vB.{0})))))) (aI (aI (aI (aI (@vS.{0}) (aI (@vT.{0}) (@vC.{0}))) (aI (@vU.{0}) (aI (@vV.{0}) (@vW.{0})))) (aI (aI (@vD) (aI (@yL) (@yJ))) (aI (@vX.{0}) (aI (@vY.{0}) (@vZ.{0,0}))))) (aI (aI (aI (@yQ.{0,0}) (aI (@V.v.injEq) (@Value.bool.injEq))) (aI (@Value.int.injEq) (aI (@aOpsY_nil) (@zg)))) (aI (aI (@zh) (aI (@zi) (@and_self))) (aI (@and_true) (aI (@qU) (@qV))))))) (aI (aI (aI (aI (aI (@qQ) (aI (@qR) (@qS))) (aI (@qT) (aI (@zc) (@zb)))) (aI (aI (@ze) (aI (@zd) (@qZ))) (aI (@qX) (aI (@zf) (@za))))) (aI (aI (aI (@qW) (aI (@qY) (@qP))) (aI (@aw_ytree) (aI (@begRd_e) (@kK)))) (aI (aI (@kM) (aI (@kN) (@endLp_e))) (aI (@endRd_e) (aI (@kG) (@kF)))))) (aI (aI (aI (aI (@false_or) (aI (@kJ) (@kQ))) (aI (@kR) (aI (@kL) (@qbR)))) (aI (aI (@kV) (aI (@kZ) (@wd))) (aI (@wi) (aI (@kT) (@lg0))))) (aI (aI (aI (@lg1) (aI (@wN) (@wS))) (aI (@wX) (aI (@jc) (@jh)))) (aI (aI (@jm) (aI (@jr) (@lg2))) (aI (@lg3) (aI (@lg4) (@lg5)))))))) (aI (aI (aI (aI (aI (aI (@lg6) (aI (@lg7) (@lg8))) (aI (@lg9) (aI (@qbL) (@qbK)))) (aI (aI (@qbJ) (aI (@qbH) (@kX))) (aI (@wb) (aI (@wg) (@wl))))) (aI (aI (aI (@wq) (aI (@jZ) (@kU))) (aI (@kY) (aI (@wO) (@wT)))) (aI (aI (@wY) (aI (@jd) (@ji))) (aI (@jn) (aI (@jt) (@wc)))))) (aI (aI (aI (aI (@wh) (aI (@wm) (@wr))) (aI (@ww) (aI (@wB) (@wF)))) (aI (aI (@wJ) (aI (@kW) (@wa))) (aI (@we) (aI (@wj) (@wo))))) (aI (aI (aI (@qbQ) (aI (@qbO) (@qbN))) (aI (@not_false_eq_true) (aI (@zm) (@zK)))) (aI (aI (@kx) (aI (@zr) (@zl))) (aI (@zC) (aI (@ky) (@kB))))))) (aI (aI (aI (aI (aI (@kp) (aI (@zT) (@zG))) (aI (@kz) (aI (@zp) (@zz)))) (aI (aI (@zq) (aI (@zt) (@zH))) (aI (@kw) (aI (@zn) (@kq))))) (aI (aI (aI (@zP) (aI (@zy) (@zJ))) (aI (@zO) (aI (@zM) (@ko)))) (aI (aI (@zj) (aI (@zN) (@kr))) (aI (@zw) (aI (@zS) (@zv)))))) (aI (aI (aI (aI (@zk) (aI (@zU) (@zR))) (aI (@zB) (aI (@zo) (@or_false)))) (aI (aI (@kD) (aI (@kC) (@qe))) (aI (@qq) (aI (@qc) (@qn))))) (aI (aI (aI (@qd) (aI (@qf) (@qO))) (aI (@qa) (aI (@qj) (@qi)))) (aI (aI (@qb) (aI (@qu) (@kS))) (aI (@true_and) (aI (@yo_not) (@yo_yld))))))))
def rY := aI (aI (aI (aI (aI (aI (@qaY) (@qaX)) (aI (@qba) (@qaZ))) (aI (aI (@qbU) (@qca)) (aI (@qcf) (aI (@qce) (@qcd))))) (aI (aI (aI (@qcc) (@qbY)) (aI (@qcb) (@qbW))) (aI (aI (@kP) (@kO)) (aI (@qaF) (aI (@qby) (@qbw)))))) (aI (aI (aI (aI (@endT_n) (@endT_r)) (aI (@qbP) (@qaV))) (aI (aI (@qap) (@qaq)) (aI (@qat) (aI (@qas) (@qar))))) (aI (aI (aI (@qbR) (@qbT)) (aI (@qbS) (aI (@itrK_i) (@qbz)))) (aI (aI (@qbA) (@qbE)) (aI (@qay) (aI (@qaA) (@qax))))))) (aI (aI (aI (aI (aI (@qaw) (@qag)) (aI (@qae) (@qaf))) (aI (aI (@qah) (@qai)) (aI (@qaj) (aI (@qac) (@qad))))) (aI (aI (aI (@qbL) (@qbK)) (aI (@qbJ) (@qbB))) (aI (aI (@qbH) (@qbG)) (aI (@qbF) (aI (@qbQ) (@qbv)))))) (aI (aI (aI (aI (@qbu) (@qbO)) (aI (@qbN) (@qaN))) (aI (aI (@qaO) (@qaa)) (aI (@rcdB_s) (aI (@qaQ) (@qaP))))) (aI (aI (aI (@qan) (@qal)) (aI (@qam) (aI (@qao) (@qak)))) (aI (aI (@qaC) (@qaI)) (aI (@qaK) (aI (@qaJ) (@qaH)))))))
def rZ := aI (aI (aI (aI (@al_2) (aI (@al_isC) (@al_len))) (aI (aI (@al_take) (@encB_0)) (aI (@encB_drop) (@encI_0)))) (aI (aI (@encI_drop) (aI (@enc_0) (@enc_1))) (aI (aI (@enc_2) (@enc_3)) (aI (@enc_isC) (@enc_len))))) (aI (aI (aI (@enc_take) (aI (@rd_0) (@rd_1))) (aI (aI (@rd_2) (@rd_3)) (aI (@rd_isC) (@rd_len)))) (aI (aI (@rd_take) (aI (@sp_0) (@sp_1))) (aI (aI (@sp_2) (@sp_isC)) (aI (@sp_len) (@sp_take)))))
set_option maxRecDepth 20000
theorem leH_rf : ∀ h : List Blk, leH h h
 | [] => trivial
 | b :: h => by
  refine ⟨?_, leH_rf h⟩
  cases b <;> simp [leB]
  ·rename_i cs
   induction cs with
   | nil => trivial
   | cons x cs ih => exact ⟨by cases x <;> simp [leV], ih⟩
def RightP (x : Spot) : Prop := (0 ≤ x.cap ∧ x.cap ≤ 1073741824) ∧ ((x.kind = 1 ∧ 0 ≤ x.num ∧ x.num < 64) ∨ ((x.kind = 2 ∨ x.kind = 3) ∧ 1 ≤ x.num ∧ x.num ≤ 1073741824))
instance (x : Spot) : Decidable (RightP x) := by unfold RightP; infer_instance
def rightB (x : Spot) : Bool := decide (RightP x)
theorem right_iff {x : Spot} {t : Bool} : (t = true ↔ RightP x) → t = rightB x := fun h => by
 rw [Bool.eq_iff_iff, h]; simp [rightB]
theorem ok44 (x : Spot) : Ok 44 [.agg x.enc] (Is (.b (rightB x))) := by
 refine ok_of lw44 (by simp) ?_
 unfold c44 Spot.enc
 simp -implicitDefEqProofs only [rX,↓rY,ofConst,cells?,↓reduceIte,Nat.reduceEqDiff,freshP,resP,tupV,wfV,cxN,args0]
 simp only [br, decide_eq_true_eq, decide_eq_false_iff_not, beq_iff_eq, beq_eq_false_iff_ne]
 have e : ∀ t : Bool, (t = true ↔ RightP x) → t = rightB x := fun t => right_iff
 simp only [RightP] at e
 repeat' (first | (refine ⟨(0 : _), ?_⟩) | (refine ⟨by omega, ?_⟩) | (refine And.intro ?_ ?_) | (refine (fun _ => ?_)))
 all_goals (apply e; first | omega | (simp only [yV, false_iff, decide_eq_true_eq]; omega))
def SoundP (ps : List Spot) (r : Road) : Prop := ∃ (h1 : 0 ≤ r.from_ ∧ r.from_ < ps.length) (h2 : 0 ≤ r.to ∧ r.to < ps.length), r.from_ ≠ r.to ∧ (0 ≤ r.cap ∧ r.cap ≤ 1073741824) ∧ (0 ≤ r.cost ∧ r.cost ≤ 1048576) ∧ (ps[r.from_.toNat]'(by omega)).kind ≠ 3 ∧ (ps[r.to.toNat]'(by omega)).kind ≠ 1
open Classical in
noncomputable def soundB (ps : List Spot) (r : Road) : Bool := decide (SoundP ps r)
theorem sound_iff {ps : List Spot} {x : Road} {t : Bool} : (t = true ↔ SoundP ps x) → t = soundB ps x := fun h => by
 rw [Bool.eq_iff_iff, h]; simp [soundB]
theorem ok45 (ps : List Spot) (rs : List Road) (r : Road) : Ok 45 [plant ps rs, .agg r.enc] (Is (.b (soundB ps r))) := by
 refine ok_of lw45 (by simp) ?_
 unfold c45 plant sps rds Road.enc
 simp -implicitDefEqProofs only [rX,↓rY,rZ,ofConst,cells?,↓reduceIte,Nat.reduceEqDiff,Nat.reduceAdd,reduceCtorEq,freshP,resP,tupV,wfV,cxN,args0]
 simp only [br, decide_eq_true_eq, decide_eq_false_iff_not, beq_iff_eq, beq_eq_false_iff_ne]
 have e : ∀ t : Bool, (t = true ↔ SoundP ps r) → t = soundB ps r := fun t => sound_iff
 have bad : ¬ SoundP ps r → false = soundB ps r := fun h => by simp [soundB, h]
 repeat' (first | (refine ⟨(0 : _), ?_⟩) | (refine ⟨by omega, ?_⟩) | (refine And.intro ?_ ?_) | (refine (fun _ => ?_)))
 all_goals first
  | omega
  | (apply bad; rintro ⟨h1, h2, h3, h4, h5, h6, h7⟩; omega)
  | skip
 ·rename_i h1 h2 h3 h4 h5 h6 h7 h8 h9 h10 h11
  apply e
  simp only [bne_iff_ne] at *
  exact ⟨fun h => ⟨⟨by omega, by omega⟩, ⟨by omega, by omega⟩, by omega, ⟨by omega, by omega⟩, ⟨by omega, by omega⟩, by assumption, h⟩, fun ⟨_, _, _, _, _, _, h⟩ => h⟩
 ·rename_i hb
  apply bad
  rintro ⟨_, _, _, _, _, h, _⟩
  simp only [bne_eq_false_iff_eq] at hb
  exact h hb
set_option maxRecDepth 20000
def firstE (f : Nat → Int) : Nat → Nat → Int
 | 0, _ => 0
 | n + 1, k => if f k = 0 then firstE f n (k + 1) else f k
theorem firstE_0 {f : Nat → Int} : ∀ {n k : Nat}, (∀ j, k ≤ j → j < k + n → f j = 0) → firstE f n k = 0
 | 0, _, _ => rfl
 | n + 1, k, h => by
  rw [firstE, if_pos (h k (by omega) (by omega))]
  exact firstE_0 fun j h1 h2 => h j (by omega) (by omega)
theorem firstE_at {f : Nat → Int} : ∀ {n k i : Nat}, k ≤ i → i < k + n → (∀ j, k ≤ j → j < i → f j = 0) → f i ≠ 0 → firstE f n k = f i
 | 0, _, _, h1, h2, _, _ => by omega
 | n + 1, k, i, h1, h2, h, hi => by
  rw [firstE]
  by_cases hk : k = i
  ·subst hk; rw [if_neg hi]
  ·rw [if_pos (h k (by omega) (by omega))]
   exact firstE_at (by omega) (by omega) (fun j h3 h4 => h j (by omega) h4) hi
def sameS (x y : Spot) : Bool := x.kind == y.kind && x.num == y.num
def twB (l : List Spot) (x : Spot) : Bool := l.any (sameS x)
def eAt (ps : List Spot) (i : Nat) : Int :=
 match ps[i]? with
 | some x => if rightB x = false then 400 else if twB (ps.take i) x then 6 else 0
 | none => 0
theorem eAt_lt {ps : List Spot} {i : Nat} (h : i < ps.length) : eAt ps i = if rightB ps[i] = false then 400 else if twB (ps.take i) ps[i] then 6 else 0 := by
 rw [eAt, uA h]
open Classical in
noncomputable def chkP (ps : List Spot) (rs : List Road) : Int :=
 if 100 < ps.length ∨ 1500 < rs.length then 2 else if firstE (eAt ps) ps.length 0 ≠ 0 then firstE (eAt ps) ps.length 0 else if ∀ r ∈ rs, SoundP ps r then 0 else 400
structure PInv (ps : List Spot) (k : Nat) : Prop where
 h : ∀ j, j < k → eAt ps j = 0
structure RInv (ps : List Spot) (rs : List Road) (k : Nat) : Prop where
 h : ∀ j (h : j < rs.length), j < k → SoundP ps rs[j]
theorem chk_2 {ps : List Spot} {rs : List Road} (h : 100 < ps.length ∨ 1500 < rs.length) : chkP ps rs = 2 := by rw [chkP, if_pos h]
theorem chk_p {ps : List Spot} {rs : List Road} (h1 : ¬ 100 < ps.length) (h2 : ¬ 1500 < rs.length) {k : Nat} (hk : k < ps.length) (hv : PInv ps k) (h : eAt ps k ≠ 0) : chkP ps rs = eAt ps k := by
 have : firstE (eAt ps) ps.length 0 = eAt ps k := firstE_at (by omega) (by omega) (fun j _ hj => hv.h j hj) h
 rw [chkP, if_neg (by omega), this, if_pos h]
theorem chk_r {ps : List Spot} {rs : List Road} (h1 : ¬ 100 < ps.length) (h2 : ¬ 1500 < rs.length) (hv : PInv ps ps.length) {k : Nat} (hk : k < rs.length) (h : ¬ SoundP ps rs[k]) : chkP ps rs = 400 := by
 have : firstE (eAt ps) ps.length 0 = 0 := firstE_0 fun j _ hj => hv.h j (by omega)
 rw [chkP, if_neg (by omega), this, if_neg (by simp), if_neg]
 intro h3
 exact h (h3 _ (uB hk))
theorem chk_0 {ps : List Spot} {rs : List Road} (h1 : ¬ 100 < ps.length) (h2 : ¬ 1500 < rs.length) (hv : PInv ps ps.length) (hr : RInv ps rs rs.length) : chkP ps rs = 0 := by
 have : firstE (eAt ps) ps.length 0 = 0 := firstE_0 fun j _ hj => hv.h j (by omega)
 rw [chkP, if_neg (by omega), this, if_neg (by simp), if_pos]
 intro r hr2
 obtain ⟨j, hj, rfl⟩ := uJ hr2
 exact hr.h j hj hj
theorem PInv.next {ps : List Spot} {k : Nat} (hv : PInv ps k) (h : eAt ps k = 0) : PInv ps (k + 1) := ⟨fun j hj => by
 by_cases h2 : j = k
 ·subst h2; exact h
 ·exact hv.h j (by omega)⟩
theorem RInv.next {ps : List Spot} {rs : List Road} {k : Nat} (hv : RInv ps rs k) (hk : k < rs.length) (h : SoundP ps rs[k]) : RInv ps rs (k + 1) := ⟨fun j hj hjk => by
 by_cases h2 : j = k
 ·subst h2; exact h
 ·exact hv.h j hj (by omega)⟩
set_option maxRecDepth 20000
structure TInv (ps : List Spot) (n k : Nat) : Prop where
 h : ∀ j (hn : n < ps.length) (h : j < ps.length), j < k → sameS ps[n] ps[j] = false
theorem tw_false {ps : List Spot} {n : Nat} (hn : n < ps.length) (h : TInv ps n n) : twB (ps.take n) ps[n] = false := by
 rw [twB, List.any_eq_false]
 intro y hy
 obtain ⟨j, hj, rfl⟩ := uJ hy
 have := yS (l := ps) (i := n)
 rw [List.getElem_take, h.h j hn (by omega) (by omega)]
 simp
theorem tw_true {ps : List Spot} {n k : Nat} (hn : n < ps.length) (hk : k < n) (h : sameS ps[n] ps[k] = true) : twB (ps.take n) ps[n] = true := by
 rw [twB, List.any_eq_true]
 have h2 : k < (ps.take n).length := by rw [yS]; omega
 exact ⟨(ps.take n)[k], uB h2, by rw [List.getElem_take]; exact h⟩
theorem ok12 (ps : List Spot) (rs : List Road) : Ok 12 [plant ps rs] (Is (.i (chkP ps rs))) := by
 refine ok_of lw12 (by simp) ?_
 unfold c12 plant sps rds
 simp -implicitDefEqProofs only [rX,↓rY,ofConst,cells?,↓reduceIte,Nat.reduceEqDiff,freshP,resP,tupV,wfV,cxN,args0]
 simp only [br, decide_eq_true_eq, decide_eq_false_iff_not]
 refine fun hm => ⟨fun h => (chk_2 (.inl (by omega))).symm, fun h1 hm2 => ⟨fun h => (chk_2 (.inr (by omega))).symm, fun h2 => ?_⟩⟩
 refine loopP_intro (fun k : Nat => ⟨[(3, .i k), (1, .ptr 0 0 0)], [.var [.ro 3 (ps.map Spot.enc), .ro 4 (rs.map Road.enc)]], 0⟩) (fun k => k ≤ ps.length ∧ PInv ps k) (fun k => ps.length - k) 0 ⟨by omega, ⟨by simp⟩⟩ ?_ ?_
 ·simp -implicitDefEqProofs only [rX,↓reduceIte,Nat.reduceEqDiff,leE,leH,leB,leV,leVs,keepP,liveP,wfE,wfB,wfV,wfL,yE]
 rintro n ⟨hn, hv⟩
 unfold c12l0
 simp -implicitDefEqProofs only [rX,↓rY,rZ,ofConst,↓reduceIte,Nat.reduceEqDiff]
 simp only [br, decide_eq_true_eq, decide_eq_false_iff_not, yD]
 refine fun _ => ⟨fun h => ?_, fun h => ?_⟩
 ·have hnl : n < ps.length := by omega
  refine ⟨⟨by omega, by omega⟩, hnl, ?_⟩
  refine call_is (ok44 ps[n]) (by simp [lendsOk, lendOk, lends, lend, wkL, wk, Spot.enc, wkR]) rfl trivial ?_
  have he := eAt_lt hnl
  cases hr : rightB ps[n] with
  | false =>
   rw [if_pos hr] at he
   simp -implicitDefEqProofs only [rX,↓rY,ofConst,↓reduceIte,resP,tupV,wfV]
   rw [chk_p (by omega) (by omega) hnl hv (by omega), he]
  | true =>
   rw [if_neg (by simp [hr])] at he
   simp -implicitDefEqProofs only [rX,↓rY,ofConst,↓reduceIte]
   refine loopP_intro (fun k : Nat => ⟨[(5, .i k), (3, .i n), (1, .ptr 0 0 0)], [.var [.ro 3 (ps.map Spot.enc), .ro 4 (rs.map Road.enc)]], 0⟩) (fun k => k ≤ n ∧ TInv ps n k) (fun k => n - k) 0 ⟨by omega, ⟨by simp⟩⟩ ?_ ?_
   ·simp -implicitDefEqProofs only [rX,↓reduceIte,Nat.reduceEqDiff,leE,leH,leB,leV,leVs,keepP,liveP,wfE,wfB,wfV,wfL,yE]
   rintro k ⟨hk, hw⟩
   unfold c12l1
   simp -implicitDefEqProofs only [rX,↓rY,rZ,ofConst,↓reduceIte,Nat.reduceEqDiff,resP,tupV,leE,leH,leB,leV,leVs,keepP,liveP,wfE,wfB,wfV,wfL]
   simp only [br, decide_eq_true_eq, decide_eq_false_iff_not, yD]
   refine ⟨fun h2 => ?_, fun h2 => ?_⟩
   ·have hkn : k < n := by omega
    have bad : sameS ps[n] ps[k] = true → 6 = chkP ps rs := fun h3 => by
     rw [if_pos (tw_true hnl hkn h3)] at he
     rw [chk_p (by omega) (by omega) hnl hv (by omega), he]
    have good : sameS ps[n] ps[k] = false → TInv ps n (k + 1) := by
     intro h3
     refine ⟨fun j h5 h6 h7 => ?_⟩
     by_cases h8 : j = k
     ·subst h8; exact h3
     ·exact hw.h j h5 h6 (by omega)
    simp only [sameS] at bad good
    simp only [beq_iff_eq, beq_eq_false_iff_ne, yC, Bool.and_eq_false_iff, lo, hi, maxLen] at *
    repeat' (first | (refine ⟨(k + 1 : _), ?_⟩) | (refine ⟨by omega, ?_⟩) | (refine And.intro ?_ ?_) | (refine (fun _ => ?_)))
    all_goals first
     | omega
     | (apply bad; exact ⟨by omega, by omega⟩)
     | skip
    all_goals (apply good; first | (left; omega) | (right; omega))
   ·have hkn : k = n := by omega
    subst hkn
    rw [if_neg (by simp [tw_false hnl hw])] at he
    exact ⟨by simp only [lo, hi, maxLen] at *; omega, k + 1, ⟨⟨by omega, hv.next he⟩, by omega⟩, by omega⟩
 have hk : n = ps.length := by omega
 subst hk
 refine loopP_intro (fun k : Nat => ⟨[(6, .i k), (1, .ptr 0 0 0)], [.var [.ro 3 (ps.map Spot.enc), .ro 4 (rs.map Road.enc)]], 0⟩) (fun k => k ≤ rs.length ∧ RInv ps rs k) (fun k => rs.length - k) 0 ⟨by omega, ⟨by simp⟩⟩ ?_ ?_
 ·simp -implicitDefEqProofs only [rX,↓reduceIte,Nat.reduceEqDiff,leE,leH,leB,leV,leVs,keepP,liveP,wfE,wfB,wfV,wfL,yE]
 rintro k ⟨hk, hw⟩
 unfold c12l2
 simp -implicitDefEqProofs only [rX,↓rY,rZ,ofConst,↓reduceIte,Nat.reduceEqDiff,Nat.reduceAdd,resP,tupV,wfV]
 simp only [br, decide_eq_true_eq, decide_eq_false_iff_not, yD]
 refine fun _ => ⟨fun h => ?_, fun h => ?_⟩
 ·have hkl : k < rs.length := by omega
  refine ⟨⟨by omega, by omega⟩, hkl, ?_⟩
  refine call_is (ok45 ps rs rs[k]) (by simp [plant, sps, rds, lendsOk, lendOk, lends, lend, wkL, wk, Road.enc, wkR]) rfl trivial ?_
  cases hs : soundB ps rs[k] with
  | true =>
   have hS : SoundP ps rs[k] := by simpa [soundB] using hs
   simp -implicitDefEqProofs only [rX,↓rY,ofConst,↓reduceIte,Nat.reduceEqDiff,leE,leH,leB,leV,leVs,keepP,liveP,wfE,wfB,wfV,wfL]
   exact ⟨by simp only [lo, hi, maxLen] at *; omega, k + 1, ⟨⟨by omega, hw.next hkl hS⟩, by omega⟩, by omega⟩
  | false =>
   have hS : ¬ SoundP ps rs[k] := by simpa [soundB] using hs
   simp -implicitDefEqProofs only [rX,↓rY,ofConst,↓reduceIte,resP,tupV,wfV]
   exact (chk_r (by omega) (by omega) hv hkl hS).symm
 ·have hkl : k = rs.length := by omega
  subst hkl
  exact (chk_0 (by omega) (by omega) hv hw).symm
set_option maxRecDepth 20000
def isK (ps : List Spot) (kind : Int) (i : Nat) : Bool :=
 match ps[i]? with
 | some x => x.kind == kind
 | none => false
theorem isK_lt {ps : List Spot} {kind : Int} {i : Nat} (h : i < ps.length) : isK ps kind i = (ps[i].kind == kind) := by
 rw [isK, uA h]
def ofN (ps : List Spot) (kind : Int) (n : Nat) : List Nat := (vE n).filter (isK ps kind)
theorem ofN_succ {ps : List Spot} {kind : Int} {n : Nat} : ofN ps kind (n + 1) = ofN ps kind n ++ (if isK ps kind n then [n] else []) := by
 rw [ofN, List.range_succ, List.filter_append]
 by_cases h : isK ps kind n = true <;> simp [ofN, h]
theorem ofN_len {ps : List Spot} {kind : Int} {n : Nat} : (ofN ps kind n).length ≤ n := by
 have := List.length_filter_le (isK ps kind) (vE n)
 rw [List.length_range] at this
 exact this
theorem ofN_mem {ps : List Spot} {kind : Int} {n i : Nat} (h : i ∈ ofN ps kind n) : i < n := by
 have := (uF.1 h).1
 exact List.mem_range.1 this
def nE (n : Nat) : List V := [.i n]
theorem nE_0 (x : Nat) : (nE x)[0]? = some (.i x) := rfl
def lnat (l : List Nat) : V := .ro 1 (l.map nE)
theorem ok47 (ps : List Spot) (rs : List Road) (kind : Int) (hl : ps.length ≤ 100) : Ok 47 [plant ps rs, .i kind] (Is (lnat (ofN ps kind ps.length))) := by
 refine okN_give (R := fun r hs => wk (lnat (ofN ps kind ps.length)) (gvV (fun _ => true) hs r)) ?_ fun _ _ h => h
 refine ok_of lw47 (by simp) ?_
 unfold c47 plant sps rds
 simp -implicitDefEqProofs only [rX,↓rY,ofConst,cells?,↓reduceIte,Nat.reduceEqDiff,freshP,cxN,args0]
 intro hm
 refine loopP_ghost (.virt 1 1 (by decide) (.nilE 5 1 rfl (.refl _))) (fun k : Nat => ⟨[(11, .i k), (10, .i ps.length), (9, .ro 3 (ps.map Spot.enc)), (5, .sl 1 0 (ofN ps kind k).length), (2, .ptr 0 0 0), (1, .i kind)], [.var [.ro 3 (ps.map Spot.enc), .ro 4 (rs.map Road.enc)], .arr 1 ((ofN ps kind k).map nE)], 0⟩) (fun k => k ≤ ps.length) (fun k => ps.length - k) 0 (by omega) ?_ ?_
 ·simp -implicitDefEqProofs only [rX,↓reduceIte,Nat.reduceEqDiff,reduceCtorEq,leE,leH,leB,leV,leVs,keepP,liveP,wfE,wfB,wfV,wfL,yE,ofN,uC,List.filter_nil]
 rintro k hk
 unfold c47l0
 simp -implicitDefEqProofs only [rX,↓rY,rZ,ofConst,cells?,splice,↓reduceIte,Nat.reduceEqDiff,Nat.reduceAdd,reduceCtorEq,freshP,litsP,leE,leH,leB,leV,leVs,keepP,liveP,wfE,wfB,wfV,wfL,killE,killB,kill,kills,St.kill,isD,Nat.reduceLT]
 simp only [br, yD, decide_eq_true_eq, decide_eq_false_iff_not]
 refine ⟨fun h => ⟨⟨by omega, h⟩, by omega, ?_⟩, fun h => ?_⟩
 ·have hk : k < ps.length := by omega
  have hs := ofN_succ (ps := ps) (kind := kind) (n := k)
  have hl2 := ofN_len (ps := ps) (kind := kind) (n := k)
  rw [isK_lt hk] at hs
  refine ⟨fun h3 => ⟨by omega, by simp only [lo, hi, maxLen] at *; omega, k + 1, ⟨by omega, by omega⟩, ⟨by omega, ?_⟩, ?_⟩, fun h3 => ⟨by simp only [lo, hi, maxLen] at *; omega, k + 1, ⟨by omega, by omega⟩, ⟨by omega, ?_⟩, ?_⟩⟩
  ·rw [hs, h3]; simp
  ·rw [hs, h3, vF (by simp)]; simp [nE]
  ·rw [hs, h3]; simp
  ·rw [hs, h3]; simp
 ·have hk : k = ps.length := by omega
  subst hk
  simp [qa, qb, qc, qd, qe, qf, qh, qi, qj, qk, qm, qn, qo, qp, qq, qr, qs, qt, qu, qv, qw, qx, qy, qz, qA, qB, qC, qD, qE, qF, qG, qH, qI, qJ, qK, qL, qM, qN, qO, rdK, qP, qQ, qR, qS, qT, qU, qV, qW, qX, qY, qZ, za, zb, zc, zd, ze, zf, zg, zh, zi, zj, zk, zl, zm, zn, zo, zp, zq, zr, zt, zu, zv, zw, zx, zy, zz, zA, zB, zC, zD, zE, zF, zG, zH, zJ, zK, zL, zM, zN, zO, zP, zQ, zR, zS, zT, zU, zV, zW, zX, zY, zZ, ka, kc, ke, kf, kg, kh, ki, kj, kk, kn, ko, kp, kq, kr, kv, kw, kx, ky, kz, kA, kB, kC, kD, kF, kG, kH, kI, kJ, ofConst, cells?, yZ, yP, vU, splice, kK, yX, yY, ↓reduceIte, Nat.reduceEqDiff, vY, kL, kM, arrSz, kN, yW, vK, ↓kO, ↓kP, kQ, kR, vB, vN, yM, yJ, Nat.reduceAdd, vD, reduceCtorEq, freshP, yQ, vZ, slcOk, vX, buildP, litsP, kS, resP, tupV, vT, vC, kT, leE, leH, leB, leV, leVs, keepP, liveP, wfE, wfB, wfV, wfL, killE, killB, kill, kills, St.kill, vA, yT, vP, vW, vV, vO, vL, vM, isD, isC, vJ, vI, true_and, and_true, and_self, V.v.injEq, Value.int.injEq, Value.bool.injEq, yI, vS, or_false, false_or, yO, yH, vR, not_false_eq_true, yV, Nat.reduceLT, Nat.reduceLeDiff, yL, lg0, kU, kV, kW, kX, lg1, kY, kZ, wa, wb, lg2, wc, wd, we, wg, lg3, wh, wi, wj, wl, lg4, wm, wn, wo, wq, lg5, wr, wt, wu, wv, lg6, ww, wx, wy, wz, lg7, wB, wC, wD, wE, lg8, wF, wG, wH, wI, lg9, wJ, wK, wL, wM, wN, wO, wP, wQ, wR, wS, wT, wU, wV, wW, wX, wY, wZ, ja, jb, jc, jd, je, jf, jg, jh, ji, jj, jk, jl, jm, jn, jo, jp, jq, jr, jt, ju, jv, jx, jy, jz, jA, jB, jC, jD, jE, jF, jG, jH, jI, jJ, jK, jL, jM, jN, jO, jP, jQ, jR, jS, jT, jU, jV, jW, jX, jY, jZ, ↓qaa, ↓qab, ↓qac, ↓qad, ↓qae, ↓qaf, ↓qag, ↓qah, ↓qai, ↓qaj, ↓qak, ↓qal, ↓qam, ↓qan, ↓qao, ↓qap, ↓qaq, ↓qar, ↓qas, ↓qat, ↓qau, ↓qav, ↓qaw, ↓qax, ↓qay, ↓qaz, ↓qaA, ↓qaB, ↓qaC, ↓qaD, ↓qaE, ↓qaF, ↓qaG, ↓qaH, ↓qaI, ↓qaJ, ↓qaK, ↓qaL, ↓qaM, ↓qaN, ↓qaO, ↓qaP, ↓qaQ, ↓qaR, ↓qaS, ↓qaT, ↓qaU, ↓qaV, ↓qaW, ↓qaX, ↓qaY, ↓qaZ, ↓qba, ↓qbb, ↓qbc, ↓qbd, ↓qbe, ↓qbf, ↓qbg, ↓qbh, ↓qbi, ↓qbj, ↓qbk, ↓qbl, ↓qbm, ↓qbn, ↓qbo, ↓qbp, ↓qbq, ↓qbr, ↓qbs, ↓qbt, ↓qbu, ↓qbv, ↓qbw, ↓qbx, ↓qby, ↓qbz, ↓qbA, ↓qbB, ↓qbC, ↓qbD, ↓qbE, ↓qbF, ↓qbG, ↓qbH, ↓qbI, ↓qbJ, ↓qbK, ↓qbL, ↓qbM, ↓qbN, ↓qbO, ↓qbP, ↓qbQ, ↓qbR, ↓qbS, ↓qbT, ↓qbU, ↓qbV, ↓qbW, ↓qbX, ↓qbY, ↓qbZ, ↓qca, ↓qcb, ↓qcc, ↓qcd, ↓qce, ↓qcf, ↓qcg, ↓qch, ↓qci, yH, vQ, al_len, al_take, al_0, al_1, al_2, al_isC, al_isD, sp_len, sp_take, sp_0, sp_1, sp_2, sp_isC, sp_isD, rd_len, rd_take, rd_0, rd_1, rd_2, rd_3, rd_isC, rd_isD, enc_len, enc_take, enc_0, enc_1, enc_2, enc_3, enc_isC, enc_isD, encI_len, encI_0, encB_len, encB_0, yD, encI_drop, encB_drop, cxN, retP_eq]
  exact ⟨_, ⟨leH_rf _, by simp, by simp [wfB, wfL, wfV]⟩, by simp [gvV, gvL, wk, wkR, blk, lnat]; exact vF (by simp)⟩
def capAt (ps : List Spot) (i : Nat) : Int :=
 match ps[i]? with
 | some x => x.cap
 | none => 0
theorem capAt_lt {ps : List Spot} {i : Nat} (h : i < ps.length) : capAt ps i = ps[i].cap := by
 rw [capAt, uA h]
def sumC (ps : List Spot) (l : List Nat) : Int := (l.map (capAt ps)).sum
theorem sumC_app {ps : List Spot} {l m : List Nat} : sumC ps (l ++ m) = sumC ps l + sumC ps m := by simp [sumC]
def CapsOk (ps : List Spot) : Prop := ∀ i (h : i < ps.length), 0 ≤ ps[i].cap ∧ ps[i].cap ≤ 1073741824
theorem capAt_b {ps : List Spot} (h : CapsOk ps) (i : Nat) : 0 ≤ capAt ps i ∧ capAt ps i ≤ 1073741824 := by
 by_cases hi : i < ps.length
 ·rw [capAt_lt hi]; exact h i hi
 ·rw [capAt, uK (by omega)]; exact ⟨Int.le_refl _, by decide⟩
theorem sumC_b {ps : List Spot} (h : CapsOk ps) : ∀ l : List Nat, 0 ≤ sumC ps l ∧ sumC ps l ≤ 1073741824 * l.length
 | [] => by simp [sumC]
 | i :: l => by
  have h1 := capAt_b h i
  have h2 := sumC_b h l
  simp only [sumC, vA, List.sum_cons, yP] at *
  omega
def dem (ps : List Spot) : Int := sumC ps (ofN ps 1 ps.length)
theorem ok18 (ps : List Spot) (rs : List Road) (hl : ps.length ≤ 100) (hc : CapsOk ps) : Ok 18 [plant ps rs] (Is (.i (dem ps))) := by
 refine ok_of lw18 (by simp) ?_
 unfold c18 plant sps rds
 simp -implicitDefEqProofs only [rX,↓rY,ofConst,cells?,↓reduceIte,freshP,cxN,args0]
 refine loopP_intro (fun k : Nat => ⟨[(4, .i k), (3, .i (sumC ps (ofN ps 1 k))), (1, .ptr 0 0 0)], [.var [.ro 3 (ps.map Spot.enc), .ro 4 (rs.map Road.enc)]], 0⟩) (fun k => k ≤ ps.length) (fun k => ps.length - k) 0 (by omega) ?_ ?_
 ·simp -implicitDefEqProofs only [rX,↓reduceIte,Nat.reduceEqDiff,leE,leH,leB,leV,leVs,keepP,liveP,wfE,wfB,wfV,wfL,yE,ofN,uC,List.filter_nil,sumC,List.sum_nil]
 rintro k hk
 unfold c18l0
 simp -implicitDefEqProofs only [rX,↓rY,rZ,ofConst,↓reduceIte,Nat.reduceEqDiff,resP,tupV,leE,leH,leB,leV,leVs,keepP,liveP,wfE,wfB,wfV,wfL]
 simp only [br, yD, decide_eq_true_eq, decide_eq_false_iff_not]
 refine fun _ => ⟨fun h => ⟨⟨by omega, h⟩, by omega, ?_⟩, fun h => ?_⟩
 ·have hk : k < ps.length := by omega
  have hs := ofN_succ (ps := ps) (kind := 1) (n := k)
  rw [isK_lt hk] at hs
  have hl2 := ofN_len (ps := ps) (kind := 1) (n := k)
  have hb := sumC_b hc (ofN ps 1 k)
  have hb2 := hc k hk
  have h1 : sumC ps [k] = ps[k].cap := by simp [sumC, capAt_lt hk]
  have h0 : sumC ps [] = 0 := rfl
  refine ⟨fun h3 => ⟨⟨by omega, h⟩, hk, by simp only [lo, hi, maxLen] at *; omega, by simp only [lo, hi, maxLen] at *; omega, k + 1, ⟨by omega, by omega⟩, by omega, ?_⟩, fun h3 => ⟨by simp only [lo, hi, maxLen] at *; omega, k + 1, ⟨by omega, by omega⟩, by omega, ?_⟩⟩
  ·rw [hs, h3, sumC_app]; simp [h1]
  ·rw [hs, h3, sumC_app]; simp [h0]
 ·have hk : k = ps.length := by omega
  subst hk
  rfl
set_option maxRecDepth 20000
def aP (ps : List Spot) (i : Nat) : Arc := ⟨2 + 2 * i, 3 + 2 * i, capAt ps i, 0⟩
def aS (ps : List Spot) (i : Nat) : Arc := ⟨0, 2 + 2 * i, capAt ps i, 0⟩
def aO (ps : List Spot) (i : Nat) : Arc := ⟨3 + 2 * i, 1, capAt ps i, 0⟩
def aR (r : Road) : Arc := ⟨3 + 2 * r.from_, 2 + 2 * r.to, r.cap, r.cost⟩
def nA1 (ps : List Spot) (n : Nat) : List Arc := (vE n).map (aP ps)
def nA2 (ps : List Spot) (l : List Nat) : List Arc := nA1 ps ps.length ++ l.map (aS ps)
def nA3 (ps : List Spot) (l : List Nat) : List Arc := nA2 ps (ofN ps 1 ps.length) ++ l.map (aO ps)
def nA4 (ps : List Spot) (l : List Road) : List Arc := nA3 ps (ofN ps 3 ps.length) ++ l.map aR
def netOf (ps : List Spot) (rs : List Road) : List Arc := nA4 ps rs
def nodes (ps : List Spot) : Int := 2 + 2 * (ps.length : Int)
theorem nA1_len {ps : List Spot} {n : Nat} : (nA1 ps n).length = n := by simp [nA1]
theorem nA2_len {ps : List Spot} {l : List Nat} : (nA2 ps l).length = ps.length + l.length := by simp [nA2, nA1_len]
theorem nA3_len {ps : List Spot} {l : List Nat} : (nA3 ps l).length ≤ 2 * ps.length + l.length := by
 have := ofN_len (ps := ps) (kind := 1) (n := ps.length)
 simp only [nA3, yO, nA2_len, yH]; omega
theorem nA4_len {ps : List Spot} {l : List Road} : (nA4 ps l).length ≤ 3 * ps.length + l.length := by
 have := ofN_len (ps := ps) (kind := 3) (n := ps.length)
 have := nA3_len (ps := ps) (l := ofN ps 3 ps.length)
 simp only [nA4, yO, yH]; omega
def hN (ps : List Spot) (rs : List Road) (l : List Arc) : List Blk :=
 [.var [.ro 3 (ps.map Spot.enc), .ro 4 (rs.map Road.enc)], .var [.i 0, .nil], .var [.i (nodes ps), .sl 3 0 l.length], .arr 4 (l.map Arc.enc)]
theorem row_add (l : List Arc) (a : Arc) (m : List Arc) (h : m = l ++ [a]) : V.sl 3 0 (l.length + 1) = V.sl 3 0 m.length ∧ Blk.arr 4 (yU l.length (l.map Arc.enc) ++ [[V.v (Value.int .i64 a.from_), V.v (Value.int .i64 a.to), V.v (Value.int .i64 a.cap), V.v (Value.int .i64 a.cost)]]) = Blk.arr 4 (m.map Arc.enc) := by
 subst h
 refine ⟨by simp, ?_⟩
 rw [vF (by simp), yN]
 rfl
theorem nA1_s {ps : List Spot} {k : Nat} (hk : k < ps.length) : nA1 ps (k + 1) = nA1 ps k ++ [⟨2 + 2 * k, 3 + 2 * k, ps[k].cap, 0⟩] := by
 rw [nA1, List.range_succ, yN]; simp [nA1, aP, capAt_lt hk]
theorem nA2_s {ps : List Spot} {l : List Nat} {k : Nat} (hl : k < l.length) (hk : l[k] < ps.length) : nA2 ps (l.take (k + 1)) = nA2 ps (l.take k) ++ [⟨0, 2 + 2 * (l[k] : Nat), ps[l[k]].cap, 0⟩] := by
 rw [uG hl, nA2, yN]; simp [nA2, aS, capAt_lt hk]
theorem nA3_s {ps : List Spot} {l : List Nat} {k : Nat} (hl : k < l.length) (hk : l[k] < ps.length) : nA3 ps (l.take (k + 1)) = nA3 ps (l.take k) ++ [⟨3 + 2 * (l[k] : Nat), 1, ps[l[k]].cap, 0⟩] := by
 rw [uG hl, nA3, yN]; simp [nA3, aO, capAt_lt hk]
theorem nA4_s {ps : List Spot} {l : List Road} {k : Nat} (hl : k < l.length) : nA4 ps (l.take (k + 1)) = nA4 ps (l.take k) ++ [⟨3 + 2 * l[k].from_, 2 + 2 * l[k].to, l[k].cap, l[k].cost⟩] := by
 rw [uG hl, nA4, yN]; simp [nA4, aR]
theorem ok15 (ps : List Spot) (rs : List Road) (hl : ps.length ≤ 100) (hr : rs.length ≤ 1500) (hv : RInv ps rs rs.length) : Ok 15 [plant ps rs] (Is (net (nodes ps) (netOf ps rs))) := by
 refine okN_give (R := fun r hs => wk (net (nodes ps) (netOf ps rs)) (gvV (fun _ => true) hs r)) ?_ fun _ _ h => h
 refine ok_of lw15 (by simp) ?_
 unfold c15 plant sps rds
 simp -implicitDefEqProofs only [rX,↓rY,ofConst,cells?,splice,↓reduceIte,Nat.reduceEqDiff,Nat.reduceAdd,freshP,buildP,isC,Nat.reduceLeDiff,cxN,args0]
 intro hm
 refine ⟨by simp only [lo, hi, maxLen] at *; omega, by simp only [lo, hi, maxLen] at *; omega, ?_⟩
 intro _
 refine loopP_ghost (.virt 1 4 (by decide) (.nilB 2 [.i (nodes ps), .nil] [.i (nodes ps), .sl 3 0 0] rfl ⟨rfl, fun i a b h1 h2 => ?_⟩ (.refl _))) (fun k : Nat => ⟨[(21, .i k), (20, .i ps.length), (19, .ro 3 (ps.map Spot.enc)), (3, .ptr 2 0 0), (2, .ptr 1 0 0), (1, .ptr 0 0 0)], hN ps rs (nA1 ps k), 0⟩) (fun k => k ≤ ps.length) (fun k => ps.length - k) 0 (by omega) ?_ ?_
 ·match i, h1, h2 with
  | 0, h1, h2 => cases h1; cases h2; exact .inl rfl
  | 1, h1, h2 => cases h1; cases h2; exact .inr ⟨rfl, 3, rfl⟩
  | n + 2, h1, h2 => cases h1
 ·simp -implicitDefEqProofs only [rX,↓reduceIte,Nat.reduceEqDiff,leE,leH,leB,leV,leVs,keepP,liveP,wfE,wfB,wfV,wfL,yE,nA1,uC,hN,nodes]
 ·rintro k hk
  unfold c15l0 hN
  simp -implicitDefEqProofs only [rX,↓rY,rZ,ofConst,cells?,splice,↓reduceIte,Nat.reduceEqDiff,Nat.reduceAdd,reduceCtorEq,freshP,buildP,litsP,leE,leH,leB,leV,leVs,keepP,liveP,wfE,wfB,wfV,wfL,killE,killB,kill,kills,St.kill,isD,isC,Nat.reduceLT,Nat.reduceLeDiff]
  simp only [br, yD, decide_eq_true_eq, decide_eq_false_iff_not]
  refine ⟨fun h => ?_, fun h => ?_⟩
  ·have hk : k < ps.length := by omega
   refine ⟨⟨by omega, h⟩, hk, ?_⟩
   have := nA1_len (ps := ps) (n := k)
   simp only [lo, hi, maxLen] at *
   refine ⟨by omega, by omega, by omega, by omega, by omega, by omega, k + 1, ⟨by omega, by omega⟩, by omega, ?_⟩
   exact row_add _ _ _ (nA1_s hk)
  have hk : k = ps.length := by omega
  subst hk
  refine call_is (ok47 ps rs 1 hl) (by simp [plant, sps, rds, lendsOk, lendOk, lends, lend, wkL, wk, wkR]) rfl trivial ?_
  have hz2 : nA1 ps ps.length = nA2 ps ((ofN ps 1 ps.length).take 0) := by simp [nA2]
  rw [hz2]
  have hq := ofN_len (ps := ps) (kind := 1) (n := ps.length)
  have hm1 := fun i (h : i < (ofN ps 1 ps.length).length) => ofN_mem (uB h)
  generalize hL : ofN ps 1 ps.length = L at *
  unfold lnat
  simp -implicitDefEqProofs only [rX,↓rY,ofConst,↓reduceIte]
  intro _
  refine loopP_intro (fun k : Nat => ⟨[(44, .i k), (43, .i L.length), (42, .ro 1 (L.map nE)), (3, .ptr 2 0 0), (2, .ptr 1 0 0), (1, .ptr 0 0 0)], hN ps rs (nA2 ps (L.take k)), 0⟩) (fun k => k ≤ L.length) (fun k => L.length - k) 0 (by omega) ?_ ?_
  ·simp -implicitDefEqProofs only [rX,↓reduceIte,Nat.reduceEqDiff,leE,leH,leB,leV,leVs,keepP,liveP,wfE,wfB,wfV,wfL,yE,hN]
  rintro k hk
  unfold c15l1 hN
  simp -implicitDefEqProofs only [rX,↓rY,rZ,rdK,ofConst,cells?,splice,↓reduceIte,Nat.reduceEqDiff,Nat.reduceAdd,reduceCtorEq,freshP,buildP,litsP,leE,leH,leB,leV,leVs,keepP,liveP,wfE,wfB,wfV,wfL,killE,killB,kill,kills,St.kill,isD,isC,Nat.reduceLT,Nat.reduceLeDiff,nE_0]
  simp only [br, yD, decide_eq_true_eq, decide_eq_false_iff_not]
  refine ⟨fun h => ?_, fun h => ?_⟩
  ·have hkl : k < L.length := by omega
   have hi := hm1 k hkl
   have hlen := nA2_len (ps := ps) (l := L.take k)
   rw [yS] at hlen
   refine ⟨⟨by omega, h⟩, hkl, ?_⟩
   simp only [lo, Fx.hi, maxLen] at *
   refine ⟨by omega, by omega, ⟨by omega, by omega⟩, hi, by omega, by omega, k + 1, ⟨by omega, by omega⟩, by omega, ?_⟩
   exact row_add _ _ _ (nA2_s hkl hi)
  have hk : k = L.length := by omega
  subst hk
  refine call_is (ok47 ps rs 3 hl) (by simp [plant, sps, rds, lendsOk, lendOk, lends, lend, wkL, wk, wkR]) rfl trivial ?_
  subst hL
  have hz3 : nA2 ps ((ofN ps 1 ps.length).take (ofN ps 1 ps.length).length) = nA3 ps ((ofN ps 3 ps.length).take 0) := by simp [nA3]
  rw [hz3]
  have hq := ofN_len (ps := ps) (kind := 3) (n := ps.length)
  have hm1 := fun i (h : i < (ofN ps 3 ps.length).length) => ofN_mem (uB h)
  generalize hL : ofN ps 3 ps.length = L at *
  unfold lnat
  simp -implicitDefEqProofs only [rX,↓rY,ofConst,↓reduceIte]
  intro _
  refine loopP_intro (fun k : Nat => ⟨[(67, .i k), (66, .i L.length), (65, .ro 1 (L.map nE)), (3, .ptr 2 0 0), (2, .ptr 1 0 0), (1, .ptr 0 0 0)], hN ps rs (nA3 ps (L.take k)), 0⟩) (fun k => k ≤ L.length) (fun k => L.length - k) 0 (by omega) ?_ ?_
  ·simp -implicitDefEqProofs only [rX,↓reduceIte,Nat.reduceEqDiff,leE,leH,leB,leV,leVs,keepP,liveP,wfE,wfB,wfV,wfL,yE,hN]
  rintro k hk
  unfold c15l2 hN
  simp -implicitDefEqProofs only [rX,↓rY,rZ,rdK,ofConst,cells?,splice,↓reduceIte,Nat.reduceEqDiff,Nat.reduceAdd,reduceCtorEq,freshP,buildP,litsP,leE,leH,leB,leV,leVs,keepP,liveP,wfE,wfB,wfV,wfL,killE,killB,kill,kills,St.kill,isD,isC,Nat.reduceLT,Nat.reduceLeDiff,nE_0]
  simp only [br, yD, decide_eq_true_eq, decide_eq_false_iff_not]
  refine ⟨fun h => ?_, fun h => ?_⟩
  ·have hkl : k < L.length := by omega
   have hi := hm1 k hkl
   have hlen := nA3_len (ps := ps) (l := L.take k)
   rw [yS] at hlen
   refine ⟨⟨by omega, h⟩, hkl, ?_⟩
   simp only [lo, Fx.hi, maxLen] at *
   refine ⟨by omega, by omega, ⟨by omega, by omega⟩, hi, by omega, by omega, k + 1, ⟨by omega, by omega⟩, by omega, ?_⟩
   exact row_add _ _ _ (nA3_s hkl hi)
  have hk : k = L.length := by omega
  subst hk
  subst hL
  have hz4 : nA3 ps ((ofN ps 3 ps.length).take (ofN ps 3 ps.length).length) = nA4 ps (rs.take 0) := by simp [nA4]
  rw [hz4]
  intro _
  refine loopP_intro (fun k : Nat => ⟨[(90, .i k), (89, .i rs.length), (88, .ro 4 (rs.map Road.enc)), (3, .ptr 2 0 0), (2, .ptr 1 0 0), (1, .ptr 0 0 0)], hN ps rs (nA4 ps (rs.take k)), 0⟩) (fun k => k ≤ rs.length) (fun k => rs.length - k) 0 (by omega) ?_ ?_
  ·simp -implicitDefEqProofs only [rX,↓reduceIte,Nat.reduceEqDiff,leE,leH,leB,leV,leVs,keepP,liveP,wfE,wfB,wfV,wfL,yE,hN]
  rintro k hk
  unfold c15l3 hN
  simp -implicitDefEqProofs only [rX,↓rY,rZ,ofConst,cells?,splice,↓reduceIte,Nat.reduceEqDiff,Nat.reduceAdd,reduceCtorEq,freshP,buildP,litsP,leE,leH,leB,leV,leVs,keepP,liveP,wfE,wfB,wfV,wfL,killE,killB,kill,kills,St.kill,isD,isC,Nat.reduceLT,Nat.reduceLeDiff]
  simp only [br, yD, decide_eq_true_eq, decide_eq_false_iff_not]
  refine ⟨fun h => ?_, fun h => ?_⟩
  ·have hkl : k < rs.length := by omega
   obtain ⟨hs1, hs2, _⟩ := hv.h k hkl hkl
   have hlen := nA4_len (ps := ps) (l := rs.take k)
   rw [yS] at hlen
   refine ⟨⟨by omega, h⟩, hkl, ?_⟩
   simp only [lo, Fx.hi, maxLen] at *
   refine ⟨by omega, by omega, by omega, by omega, by omega, by omega, k + 1, ⟨by omega, by omega⟩, by omega, ?_⟩
   exact row_add _ _ _ (nA4_s hkl)
  have hk : k = rs.length := by omega
  subst hk
  simp [qa, qb, qc, qd, qe, qf, qh, qi, qj, qk, qm, qn, qo, qp, qq, qr, qs, qt, qu, qv, qw, qx, qy, qz, qA, qB, qC, qD, qE, qF, qG, qH, qI, qJ, qK, qL, qM, qN, qO, rdK, qP, qQ, qR, qS, qT, qU, qV, qW, qX, qY, qZ, za, zb, zc, zd, ze, zf, zg, zh, zi, zj, zk, zl, zm, zn, zo, zp, zq, zr, zt, zu, zv, zw, zx, zy, zz, zA, zB, zC, zD, zE, zF, zG, zH, zJ, zK, zL, zM, zN, zO, zP, zQ, zR, zS, zT, zU, zV, zW, zX, zY, zZ, ka, kc, ke, kf, kg, kh, ki, kj, kk, kn, ko, kp, kq, kr, kv, kw, kx, ky, kz, kA, kB, kC, kD, kF, kG, kH, kI, kJ, ofConst, cells?, yZ, yP, vU, splice, kK, yX, yY, ↓reduceIte, Nat.reduceEqDiff, vY, kL, kM, arrSz, kN, yW, vK, ↓kO, ↓kP, kQ, kR, vB, vN, yM, yJ, Nat.reduceAdd, vD, reduceCtorEq, freshP, yQ, vZ, slcOk, vX, buildP, litsP, kS, resP, tupV, vT, vC, kT, leE, leH, leB, leV, leVs, keepP, liveP, wfE, wfB, wfV, wfL, killE, killB, kill, kills, St.kill, vA, yT, vP, vW, vV, vO, vL, vM, isD, isC, vJ, vI, true_and, and_true, and_self, V.v.injEq, Value.int.injEq, Value.bool.injEq, yI, vS, or_false, false_or, yO, yH, vR, not_false_eq_true, yV, Nat.reduceLT, Nat.reduceLeDiff, yL, lg0, kU, kV, kW, kX, lg1, kY, kZ, wa, wb, lg2, wc, wd, we, wg, lg3, wh, wi, wj, wl, lg4, wm, wn, wo, wq, lg5, wr, wt, wu, wv, lg6, ww, wx, wy, wz, lg7, wB, wC, wD, wE, lg8, wF, wG, wH, wI, lg9, wJ, wK, wL, wM, wN, wO, wP, wQ, wR, wS, wT, wU, wV, wW, wX, wY, wZ, ja, jb, jc, jd, je, jf, jg, jh, ji, jj, jk, jl, jm, jn, jo, jp, jq, jr, jt, ju, jv, jx, jy, jz, jA, jB, jC, jD, jE, jF, jG, jH, jI, jJ, jK, jL, jM, jN, jO, jP, jQ, jR, jS, jT, jU, jV, jW, jX, jY, jZ, ↓qaa, ↓qab, ↓qac, ↓qad, ↓qae, ↓qaf, ↓qag, ↓qah, ↓qai, ↓qaj, ↓qak, ↓qal, ↓qam, ↓qan, ↓qao, ↓qap, ↓qaq, ↓qar, ↓qas, ↓qat, ↓qau, ↓qav, ↓qaw, ↓qax, ↓qay, ↓qaz, ↓qaA, ↓qaB, ↓qaC, ↓qaD, ↓qaE, ↓qaF, ↓qaG, ↓qaH, ↓qaI, ↓qaJ, ↓qaK, ↓qaL, ↓qaM, ↓qaN, ↓qaO, ↓qaP, ↓qaQ, ↓qaR, ↓qaS, ↓qaT, ↓qaU, ↓qaV, ↓qaW, ↓qaX, ↓qaY, ↓qaZ, ↓qba, ↓qbb, ↓qbc, ↓qbd, ↓qbe, ↓qbf, ↓qbg, ↓qbh, ↓qbi, ↓qbj, ↓qbk, ↓qbl, ↓qbm, ↓qbn, ↓qbo, ↓qbp, ↓qbq, ↓qbr, ↓qbs, ↓qbt, ↓qbu, ↓qbv, ↓qbw, ↓qbx, ↓qby, ↓qbz, ↓qbA, ↓qbB, ↓qbC, ↓qbD, ↓qbE, ↓qbF, ↓qbG, ↓qbH, ↓qbI, ↓qbJ, ↓qbK, ↓qbL, ↓qbM, ↓qbN, ↓qbO, ↓qbP, ↓qbQ, ↓qbR, ↓qbS, ↓qbT, ↓qbU, ↓qbV, ↓qbW, ↓qbX, ↓qbY, ↓qbZ, ↓qca, ↓qcb, ↓qcc, ↓qcd, ↓qce, ↓qcf, ↓qcg, ↓qch, ↓qci, yH, vQ, al_len, al_take, al_0, al_1, al_2, al_isC, al_isD, sp_len, sp_take, sp_0, sp_1, sp_2, sp_isC, sp_isD, rd_len, rd_take, rd_0, rd_1, rd_2, rd_3, rd_isC, rd_isD, enc_len, enc_take, enc_0, enc_1, enc_2, enc_3, enc_isC, enc_isD, encI_len, encI_0, encB_len, encB_0, yD, encI_drop, encB_drop, cxN, retP_eq]
  exact ⟨_, ⟨leH_rf _, by simp, by simp [wfB, wfL, wfV, liveP]⟩, by simp [gvV, gvL, wk, wkR, wkL, blk, net, netOf]; exact vF (by simp)⟩
set_option maxRecDepth 20000
theorem nA2_a {ps : List Spot} {l : List Nat} {k : Nat} (hk : k < ps.length) : nA2 ps (l ++ [k]) = nA2 ps l ++ [⟨0, 2 + 2 * (k : Nat), ps[k].cap, 0⟩] := by
 rw [nA2, yN]; simp [nA2, aS, capAt_lt hk]
theorem nA3_a {ps : List Spot} {l : List Nat} {k : Nat} (hk : k < ps.length) : nA3 ps (l ++ [k]) = nA3 ps l ++ [⟨3 + 2 * (k : Nat), 1, ps[k].cap, 0⟩] := by
 rw [nA3, yN]; simp [nA3, aO, capAt_lt hk]
theorem ok16 (ps : List Spot) (rs : List Road) (hl : ps.length ≤ 100) (hr : rs.length ≤ 1500) (hv : RInv ps rs rs.length) : Ok 16 [plant ps rs] (Is (net (nodes ps) (netOf ps rs))) := by
 refine okN_give (R := fun r hs => wk (net (nodes ps) (netOf ps rs)) (gvV (fun _ => true) hs r)) ?_ fun _ _ h => h
 refine ok_of lw16 (by simp) ?_
 unfold c16 plant sps rds
 simp -implicitDefEqProofs only [rX,↓rY,ofConst,cells?,splice,↓reduceIte,Nat.reduceEqDiff,Nat.reduceAdd,freshP,buildP,isC,Nat.reduceLeDiff,cxN,args0]
 intro hm
 refine ⟨by simp only [lo, hi, maxLen] at *; omega, by simp only [lo, hi, maxLen] at *; omega, ?_⟩
 refine loopP_ghost (.virt 1 4 (by decide) (.nilB 2 [.i (nodes ps), .nil] [.i (nodes ps), .sl 3 0 0] rfl ⟨rfl, fun i a b h1 h2 => ?_⟩ (.refl _))) (fun k : Nat => ⟨[(4, .i k), (3, .ptr 2 0 0), (2, .ptr 1 0 0), (1, .ptr 0 0 0)], hN ps rs (nA1 ps k), 0⟩) (fun k => k ≤ ps.length) (fun k => ps.length - k) 0 (by omega) ?_ ?_
 ·match i, h1, h2 with
  | 0, h1, h2 => cases h1; cases h2; exact .inl rfl
  | 1, h1, h2 => cases h1; cases h2; exact .inr ⟨rfl, 3, rfl⟩
  | n + 2, h1, h2 => cases h1
 ·simp -implicitDefEqProofs only [rX,↓reduceIte,Nat.reduceEqDiff,leE,leH,leB,leV,leVs,keepP,liveP,wfE,wfB,wfV,wfL,yE,nA1,uC,hN,nodes]
 rintro k hk
 unfold c16l0 hN
 simp -implicitDefEqProofs only [rX,↓rY,rZ,rdK,ofConst,cells?,splice,↓reduceIte,Nat.reduceEqDiff,Nat.reduceAdd,reduceCtorEq,freshP,buildP,litsP,leE,leH,leB,leV,leVs,keepP,liveP,wfE,wfB,wfV,wfL,killE,killB,kill,kills,St.kill,isD,isC,Nat.reduceLT,Nat.reduceLeDiff]
 simp only [br, yD, decide_eq_true_eq, decide_eq_false_iff_not]
 refine fun _ => ⟨fun h => ?_, fun h => ?_⟩
 ·have hk : k < ps.length := by omega
  have := nA1_len (ps := ps) (n := k)
  simp only [lo, hi, maxLen] at *
  refine ⟨by omega, by omega, by omega, by omega, ⟨by omega, by omega⟩, hk, by omega, by omega, k + 1, ⟨by omega, by omega⟩, by omega, ?_⟩
  exact row_add _ _ _ (nA1_s hk)
 have hk : k = ps.length := by omega
 subst hk
 have hz2 : nA1 ps ps.length = nA2 ps (ofN ps 1 0) := by simp [nA2, ofN]
 rw [hz2]
 refine loopP_intro (fun k : Nat => ⟨[(5, .i k), (3, .ptr 2 0 0), (2, .ptr 1 0 0), (1, .ptr 0 0 0)], hN ps rs (nA2 ps (ofN ps 1 k)), 0⟩) (fun k => k ≤ ps.length) (fun k => ps.length - k) 0 (by omega) ?_ ?_
 ·simp -implicitDefEqProofs only [rX,↓reduceIte,Nat.reduceEqDiff,leE,leH,leB,leV,leVs,keepP,liveP,wfE,wfB,wfV,wfL,yE,hN]
 rintro k hk
 unfold c16l1 hN
 simp -implicitDefEqProofs only [rX,↓rY,rZ,rdK,ofConst,cells?,splice,↓reduceIte,Nat.reduceEqDiff,Nat.reduceAdd,reduceCtorEq,freshP,buildP,litsP,leE,leH,leB,leV,leVs,keepP,liveP,wfE,wfB,wfV,wfL,killE,killB,kill,kills,St.kill,isD,isC,Nat.reduceLT,Nat.reduceLeDiff]
 simp only [br, yD, decide_eq_true_eq, decide_eq_false_iff_not]
 refine fun _ => ⟨fun h => ?_, fun h => ?_⟩
 ·have hk : k < ps.length := by omega
  have hs := ofN_succ (ps := ps) (kind := 1) (n := k)
  rw [isK_lt hk] at hs
  have hl2 := ofN_len (ps := ps) (kind := 1) (n := k)
  have hlen := nA2_len (ps := ps) (l := ofN ps 1 k)
  simp only [lo, hi, maxLen] at *
  refine ⟨⟨by omega, h⟩, hk, fun h3 => ?_, fun h3 => ?_⟩
  ·rw [h3, if_pos rfl] at hs
   refine ⟨by omega, by omega, ⟨by omega, by omega⟩, hk, by omega, by omega, k + 1, ⟨by omega, by omega⟩, by omega, ?_⟩
   rw [hs]
   exact row_add _ _ _ (nA2_a hk)
  ·rw [h3, if_neg (by simp), yM] at hs
   refine ⟨by omega, k + 1, ⟨by omega, by omega⟩, by omega, ?_⟩
   rw [hs]; exact ⟨rfl, rfl⟩
 have hk : k = ps.length := by omega
 subst hk
 have hz3 : nA2 ps (ofN ps 1 ps.length) = nA3 ps (ofN ps 3 0) := by simp [nA3, ofN]
 rw [hz3]
 refine loopP_intro (fun k : Nat => ⟨[(6, .i k), (3, .ptr 2 0 0), (2, .ptr 1 0 0), (1, .ptr 0 0 0)], hN ps rs (nA3 ps (ofN ps 3 k)), 0⟩) (fun k => k ≤ ps.length) (fun k => ps.length - k) 0 (by omega) ?_ ?_
 ·simp -implicitDefEqProofs only [rX,↓reduceIte,Nat.reduceEqDiff,leE,leH,leB,leV,leVs,keepP,liveP,wfE,wfB,wfV,wfL,yE,hN]
 rintro k hk
 unfold c16l2 hN
 simp -implicitDefEqProofs only [rX,↓rY,rZ,rdK,ofConst,cells?,splice,↓reduceIte,Nat.reduceEqDiff,Nat.reduceAdd,reduceCtorEq,freshP,buildP,litsP,leE,leH,leB,leV,leVs,keepP,liveP,wfE,wfB,wfV,wfL,killE,killB,kill,kills,St.kill,isD,isC,Nat.reduceLT,Nat.reduceLeDiff]
 simp only [br, yD, decide_eq_true_eq, decide_eq_false_iff_not]
 refine fun _ => ⟨fun h => ?_, fun h => ?_⟩
 ·have hk : k < ps.length := by omega
  have hs := ofN_succ (ps := ps) (kind := 3) (n := k)
  rw [isK_lt hk] at hs
  have hl2 := ofN_len (ps := ps) (kind := 3) (n := k)
  have hlen := nA3_len (ps := ps) (l := ofN ps 3 k)
  simp only [lo, hi, maxLen] at *
  refine ⟨⟨by omega, h⟩, hk, fun h3 => ?_, fun h3 => ?_⟩
  ·rw [h3, if_pos rfl] at hs
   refine ⟨by omega, by omega, ⟨by omega, by omega⟩, hk, by omega, by omega, k + 1, ⟨by omega, by omega⟩, by omega, ?_⟩
   rw [hs]
   exact row_add _ _ _ (nA3_a hk)
  ·rw [h3, if_neg (by simp), yM] at hs
   refine ⟨by omega, k + 1, ⟨by omega, by omega⟩, by omega, ?_⟩
   rw [hs]; exact ⟨rfl, rfl⟩
 have hk : k = ps.length := by omega
 subst hk
 have hz4 : nA3 ps (ofN ps 3 ps.length) = nA4 ps (rs.take 0) := by simp [nA4]
 rw [hz4]
 refine loopP_intro (fun k : Nat => ⟨[(7, .i k), (3, .ptr 2 0 0), (2, .ptr 1 0 0), (1, .ptr 0 0 0)], hN ps rs (nA4 ps (rs.take k)), 0⟩) (fun k => k ≤ rs.length) (fun k => rs.length - k) 0 (by omega) ?_ ?_
 ·simp -implicitDefEqProofs only [rX,↓reduceIte,Nat.reduceEqDiff,leE,leH,leB,leV,leVs,keepP,liveP,wfE,wfB,wfV,wfL,yE,hN]
 rintro k hk
 unfold c16l3 hN
 simp -implicitDefEqProofs only [rX,↓rY,rZ,ofConst,cells?,splice,↓reduceIte,Nat.reduceEqDiff,Nat.reduceAdd,reduceCtorEq,freshP,buildP,litsP,leE,leH,leB,leV,leVs,keepP,liveP,wfE,wfB,wfV,wfL,killE,killB,kill,kills,St.kill,isD,isC,Nat.reduceLT,Nat.reduceLeDiff]
 simp only [br, yD, decide_eq_true_eq, decide_eq_false_iff_not]
 refine fun _ => ⟨fun h => ?_, fun h => ?_⟩
 ·have hkl : k < rs.length := by omega
  obtain ⟨hs1, hs2, _⟩ := hv.h k hkl hkl
  have hlen := nA4_len (ps := ps) (l := rs.take k)
  rw [yS] at hlen
  refine ⟨⟨by omega, h⟩, hkl, ?_⟩
  simp only [lo, Fx.hi, maxLen] at *
  refine ⟨by omega, by omega, by omega, by omega, by omega, by omega, k + 1, ⟨by omega, by omega⟩, by omega, ?_⟩
  exact row_add _ _ _ (nA4_s hkl)
 have hk : k = rs.length := by omega
 subst hk
 simp [qa, qb, qc, qd, qe, qf, qh, qi, qj, qk, qm, qn, qo, qp, qq, qr, qs, qt, qu, qv, qw, qx, qy, qz, qA, qB, qC, qD, qE, qF, qG, qH, qI, qJ, qK, qL, qM, qN, qO, rdK, qP, qQ, qR, qS, qT, qU, qV, qW, qX, qY, qZ, za, zb, zc, zd, ze, zf, zg, zh, zi, zj, zk, zl, zm, zn, zo, zp, zq, zr, zt, zu, zv, zw, zx, zy, zz, zA, zB, zC, zD, zE, zF, zG, zH, zJ, zK, zL, zM, zN, zO, zP, zQ, zR, zS, zT, zU, zV, zW, zX, zY, zZ, ka, kc, ke, kf, kg, kh, ki, kj, kk, kn, ko, kp, kq, kr, kv, kw, kx, ky, kz, kA, kB, kC, kD, kF, kG, kH, kI, kJ, ofConst, cells?, yZ, yP, vU, splice, kK, yX, yY, ↓reduceIte, Nat.reduceEqDiff, vY, kL, kM, arrSz, kN, yW, vK, ↓kO, ↓kP, kQ, kR, vB, vN, yM, yJ, Nat.reduceAdd, vD, reduceCtorEq, freshP, yQ, vZ, slcOk, vX, buildP, litsP, kS, resP, tupV, vT, vC, kT, leE, leH, leB, leV, leVs, keepP, liveP, wfE, wfB, wfV, wfL, killE, killB, kill, kills, St.kill, vA, yT, vP, vW, vV, vO, vL, vM, isD, isC, vJ, vI, true_and, and_true, and_self, V.v.injEq, Value.int.injEq, Value.bool.injEq, yI, vS, or_false, false_or, yO, yH, vR, not_false_eq_true, yV, Nat.reduceLT, Nat.reduceLeDiff, yL, lg0, kU, kV, kW, kX, lg1, kY, kZ, wa, wb, lg2, wc, wd, we, wg, lg3, wh, wi, wj, wl, lg4, wm, wn, wo, wq, lg5, wr, wt, wu, wv, lg6, ww, wx, wy, wz, lg7, wB, wC, wD, wE, lg8, wF, wG, wH, wI, lg9, wJ, wK, wL, wM, wN, wO, wP, wQ, wR, wS, wT, wU, wV, wW, wX, wY, wZ, ja, jb, jc, jd, je, jf, jg, jh, ji, jj, jk, jl, jm, jn, jo, jp, jq, jr, jt, ju, jv, jx, jy, jz, jA, jB, jC, jD, jE, jF, jG, jH, jI, jJ, jK, jL, jM, jN, jO, jP, jQ, jR, jS, jT, jU, jV, jW, jX, jY, jZ, ↓qaa, ↓qab, ↓qac, ↓qad, ↓qae, ↓qaf, ↓qag, ↓qah, ↓qai, ↓qaj, ↓qak, ↓qal, ↓qam, ↓qan, ↓qao, ↓qap, ↓qaq, ↓qar, ↓qas, ↓qat, ↓qau, ↓qav, ↓qaw, ↓qax, ↓qay, ↓qaz, ↓qaA, ↓qaB, ↓qaC, ↓qaD, ↓qaE, ↓qaF, ↓qaG, ↓qaH, ↓qaI, ↓qaJ, ↓qaK, ↓qaL, ↓qaM, ↓qaN, ↓qaO, ↓qaP, ↓qaQ, ↓qaR, ↓qaS, ↓qaT, ↓qaU, ↓qaV, ↓qaW, ↓qaX, ↓qaY, ↓qaZ, ↓qba, ↓qbb, ↓qbc, ↓qbd, ↓qbe, ↓qbf, ↓qbg, ↓qbh, ↓qbi, ↓qbj, ↓qbk, ↓qbl, ↓qbm, ↓qbn, ↓qbo, ↓qbp, ↓qbq, ↓qbr, ↓qbs, ↓qbt, ↓qbu, ↓qbv, ↓qbw, ↓qbx, ↓qby, ↓qbz, ↓qbA, ↓qbB, ↓qbC, ↓qbD, ↓qbE, ↓qbF, ↓qbG, ↓qbH, ↓qbI, ↓qbJ, ↓qbK, ↓qbL, ↓qbM, ↓qbN, ↓qbO, ↓qbP, ↓qbQ, ↓qbR, ↓qbS, ↓qbT, ↓qbU, ↓qbV, ↓qbW, ↓qbX, ↓qbY, ↓qbZ, ↓qca, ↓qcb, ↓qcc, ↓qcd, ↓qce, ↓qcf, ↓qcg, ↓qch, ↓qci, yH, vQ, al_len, al_take, al_0, al_1, al_2, al_isC, al_isD, sp_len, sp_take, sp_0, sp_1, sp_2, sp_isC, sp_isD, rd_len, rd_take, rd_0, rd_1, rd_2, rd_3, rd_isC, rd_isD, enc_len, enc_take, enc_0, enc_1, enc_2, enc_3, enc_isC, enc_isD, encI_len, encI_0, encB_len, encB_0, yD, encI_drop, encB_drop, cxN, retP_eq]
 exact ⟨_, ⟨leH_rf _, by simp, by simp [wfB, wfL, wfV, liveP]⟩, by simp [gvV, gvL, wk, wkR, wkL, blk, net, netOf]; exact vF (by simp)⟩
end Go.Fx.P
namespace Go.Fx
open Go.RowKit
theorem get_app_r : ∀ {a b : Env} {i : Nat}, (∀ p ∈ a, p.1 ≠ i) → get (a ++ b) i = get b i
 | [], _, _, _ => rfl
 | (j, x) :: r, b, i, h => by
  have hj : j ≠ i := h (j, x) (by simp)
  show (if i = j then x else get (r ++ b) i) = _
  rw [if_neg (Ne.symm hj)]
  exact get_app_r fun p hp => h p (by simp [hp])
theorem get_none : ∀ {a : Env} {i : Nat}, (∀ p ∈ a, p.1 ≠ i) → get a i = .any
 | [], _, _ => rfl
 | (j, x) :: r, i, h => by
  have hj : j ≠ i := h (j, x) (by simp)
  show (if i = j then x else get r i) = _
  rw [if_neg (Ne.symm hj)]
  exact get_none fun p hp => h p (by simp [hp])
theorem get_app_l : ∀ {a b : Env} {i : Nat}, (∀ p ∈ b, p.1 ≠ i) → get (a ++ b) i = get a i
 | [], b, i, h => get_none h
 | (j, x) :: r, b, i, h => by
  show (if i = j then x else get (r ++ b) i) = (if i = j then x else get r i)
  rw [get_app_l h]
theorem get_mapf {f : Nat → Nat} (hf : ∀ i j, f i = f j → i = j) : ∀ (a : Env) (i : Nat), get (a.map fun p => (f p.1, p.2)) (f i) = get a i
 | [], _ => rfl
 | (j, x) :: r, i => by
  show (if f i = f j then x else get (r.map fun p => (f p.1, p.2)) (f i)) = (if i = j then x else get r i)
  rw [get_mapf hf r i]
  by_cases h : i = j
  ·subst h; simp
  ·rw [if_neg h, if_neg fun e => h (hf _ _ e)]
theorem toEnv_get : ∀ (E : Tr) (i : Nat), get E.toEnv i = E.get i
 | .lf, _ => rfl
 | .nd v l r, 0 => rfl
 | .nd v l r, j + 1 => by
  show (if j + 1 = 0 then v else get (l.toEnv.map (fun p => (2 * p.1 + 1, p.2)) ++ r.toEnv.map (fun p => (2 * p.1 + 2, p.2))) (j + 1)) = _
  rw [if_neg (by omega)]
  simp only [Tr.get]
  split
  ·rename_i hj
   rw [get_app_l (by rintro p hp; obtain ⟨q, _, rfl⟩ := yF.1 hp; simp; omega), show j + 1 = 2 * (j / 2) + 1 by omega, get_mapf (f := fun i => 2 * i + 1) (by intros; simp at *; omega)]
   exact toEnv_get l _
  ·rename_i hj
   rw [get_app_r (by rintro p hp; obtain ⟨q, _, rfl⟩ := yF.1 hp; simp; omega), show j + 1 = 2 * (j / 2) + 2 by omega, get_mapf (f := fun i => 2 * i + 2) (by intros; simp at *; omega)]
   exact toEnv_get r _
mutual
theorem wfVB_ok {h : List Blk} : ∀ x : V, wfVB h x = true → wfV h x
 | .sl k _ _, hx => live_of (by simpa [wfVB] using hx)
 | .ptr k _ _, hx => live_of (by simpa [wfVB] using hx)
 | .mp k, hx => live_of (by simpa [wfVB] using hx)
 | .itr k, hx => live_of (by simpa [wfVB] using hx)
 | .agg cs, hx => wfLB_ok cs (by simpa [wfVB] using hx)
 | .tup cs, hx => wfLB_ok cs (by simpa [wfVB] using hx)
 | .clo _ cs, hx => wfLB_ok cs (by simpa [wfVB] using hx)
 | .any, _ | .v _, _ | .ro _ _, _ | .bro _ _, _ | .full _ _, _ | .rp _ _ _ _, _ => by simp [wfV]
theorem wfLB_ok {h : List Blk} : ∀ xs : List V, wfLB h xs = true → wfL h xs
 | [], _ => trivial
 | x :: r, hx => by
  simp only [wfLB, yC] at hx
  exact ⟨wfVB_ok x hx.1, wfLB_ok r hx.2⟩
end
theorem wfEB_ok {h : List Blk} : ∀ e : Env, wfEB h e = true → wfE h e
 | [], _ => trivial
 | (_, x) :: r, hx => by
  simp only [wfEB, yC] at hx
  exact ⟨wfVB_ok x hx.1, wfEB_ok r hx.2⟩
theorem wfBB_ok {h : List Blk} : ∀ l : List Blk, wfBB h l = true → wfB h l
 | [], _ => trivial
 | .var cs :: r, hx => by simp only [wfBB, yC] at hx; exact ⟨wfLB_ok _ hx.1, wfBB_ok r hx.2⟩
 | .dead :: r, hx => wfBB_ok r (by simpa [wfBB] using hx)
 | .arr _ _ :: r, hx => wfBB_ok r (by simpa [wfBB] using hx)
 | .arv _ els :: r, hx => by simp only [wfBB, yC] at hx; exact ⟨wfLB_ok _ hx.1, wfBB_ok r hx.2⟩
 | .map es _ :: r, hx => by simp only [wfBB, yC] at hx; exact ⟨wfLB_ok _ hx.1, wfBB_ok r hx.2⟩
 | .it m _ _ _ :: r, hx => by simp only [wfBB, yC] at hx; exact ⟨wfVB_ok _ hx.1, wfBB_ok r hx.2⟩
 | .rcd _ e :: r, hx => by simp only [wfBB, yC] at hx; exact ⟨wfEB_ok _ hx.1, wfBB_ok r hx.2⟩
theorem Tr.wf_ok {h : List Blk} : ∀ (E : Tr), E.wf h = true → ∀ i, wfV h (E.get i)
 | .lf, _, _ => trivial
 | .nd v l r, hx, i => by
  simp only [Tr.wf, yC] at hx
  cases i with
  | zero => exact wfVB_ok v hx.1
  | succ j =>
   simp only [Tr.get]
   split
   ·exact Tr.wf_ok l hx.2.1 _
   ·exact Tr.wf_ok r hx.2.2 _
theorem leTB_ok : ∀ (E E' : Tr), leTB E E' = true → ∀ i, E'.get i = .any ∨ E'.get i = E.get i
 | _, .lf, _, i => .inl rfl
 | .nd v l r, .nd v' l' r', h, i => by
  simp only [leTB, yC] at h
  cases i with
  | zero =>
   show v' = .any ∨ v' = v
   have h1 := h.1.1
   split at h1
   ·exact .inl rfl
   ·exact .inr (eqV_ok h1).symm
  | succ j =>
   simp only [Tr.get]
   split
   ·exact leTB_ok l l' h.1.2 _
   ·exact leTB_ok r r' h.2 _
 | .lf, .nd v' l' r', h, i => by
  simp only [leTB, yC] at h
  cases i with
  | zero =>
   show v' = .any ∨ v' = .any
   have h1 := h.1.1
   split at h1
   ·exact .inl rfl
   ·cases h1
  | succ j =>
   simp only [Tr.get]
   split
   ·exact leTB_ok .lf l' h.1.2 _
   ·exact leTB_ok .lf r' h.2 _
theorem leVsB_ok : ∀ {xs ys : List V}, leVsB xs ys = true → leVs xs ys
 | [], [], _ => trivial
 | x :: xs, y :: ys, h => by
  simp only [leVsB, yC] at h
  refine ⟨?_, leVsB_ok h.2⟩
  have h1 := h.1
  unfold leV
  split at h1
  ·trivial
  ·have := eqV_ok h1
   subst this
   split <;> trivial
 | [], _ :: _, h => by simp [leVsB] at h
 | _ :: _, [], h => by simp [leVsB] at h
theorem leBB_ok {b c : Blk} (h : leBB b c = true) : leB b c := by
 unfold leBB at h
 unfold leB
 split at h
 ·trivial
 ·split at h
  ·exact leVsB_ok h
  ·cases h
 ·split
  ·trivial
  ·rename_i hne; exact (hne _ rfl).elim
  ·have := eqB_ok h
   subst this
   exact ⟨rfl, .inl rfl⟩
  ·exact eqB_ok h
theorem leHB_ok : ∀ {h p : List Blk}, leHB h p = true → leH h p
 | _, [], _ => by unfold leH; trivial
 | b :: h, c :: p, hx => by
  simp only [leHB, yC] at hx
  exact ⟨leBB_ok hx.1, leHB_ok hx.2⟩
 | [], _ :: _, hx => by simp [leHB] at hx
section
variable {P : Program} {ρ0 : Nat → Loc} {X : Nat → Prop} {w0 : World} {fx : List Nat} {N : Nat}
def GoodT (ρ0 : Nat → Loc) (X : Nat → Prop) (w0 : World) (fx : List Nat) (N : Nat) (p : Pt) (a : Act) (w : World) : Prop :=
 ∃ e b, (∀ i, get e i = p.1.get i) ∧ Good ρ0 X w0 fx N ⟨e, p.2, b⟩ a w
theorem GoodT.le {p q : Pt} {a : Act} {w : World} (hE : ∀ i, q.1.get i = .any ∨ q.1.get i = p.1.get i) (l2 : leH p.2 q.2) (l3 : keepP fx q.2) (l4 : ∀ i, wfV q.2 (q.1.get i)) (l5 : wfB q.2 q.2) (h : GoodT ρ0 X w0 fx N p a w) : GoodT ρ0 X w0 fx N q a w := by
 obtain ⟨e, b, he, ρ, ⟨⟨hf, h1⟩, hk⟩, ⟨hr, hre⟩, h5, h6⟩ := h
 refine ⟨q.1.toEnv, 0, toEnv_get _, dropLoc ρ q.2, ⟨⟨hf.trans drop_fr, fun k hk' => by rw [live_loc (keepP_get l3 k hk')]; exact h1 k hk'⟩, l3⟩, ⟨dropRep hr l2 l5, fun i => ?_⟩, h5, h6.fr drop_fr⟩
 rw [toEnv_get]
 rcases hE i with hg | hg
 ·rw [hg]; trivial
 ·exact drop_rep _ _ (l4 i) (by rw [hg, ← he]; exact hre i)
theorem joinD_ok {outs ps : List Pt} (h : joinD fx outs = some ps) {q : Pt} (hq : q ∈ outs) {a : Act} {w : World} (hg : GoodT ρ0 X w0 fx N q a w) : ∃ p ∈ ps, GoodT ρ0 X w0 fx N p a w := by
 unfold joinD at h
 split at h
 ·simp at hq
 ·simp only [yA] at h
  subst h
  exact ⟨q, hq, hg⟩
 ·simp only at h
  split at h
  ·rename_i hc
   simp only [yA] at h
   subst h
   simp only [yC, vG] at hc
   obtain ⟨h1, h2, h3, h4⟩ := hc
   obtain ⟨h5, h6⟩ := h1 q hq
   exact ⟨_, yG _, hg.le (leTB_ok _ _ h5) (leHB_ok h6) (keep_of h2) (Tr.wf_ok _ h3) (wfBB_ok _ h4)⟩
  ·cases h
theorem goL_ok {α β : Type} {f : α → Option (List β)} : ∀ {xs : List α} {ys : List β}, goL f xs = some ys → ∀ x ∈ xs, ∃ zs, f x = some zs ∧ ∀ z ∈ zs, z ∈ ys
 | [], _, _, x, hx => by simp at hx
 | [y], ys, h, x, hx => by
  simp only [uH] at hx
  subst hx
  exact ⟨ys, h, fun _ h => h⟩
 | y :: y2 :: r, ys, h, x, hx => by
  simp only [goL] at h
  split at h
  ·rename_i a b h1 h2
   simp only [yA] at h
   subst h
   rcases yI.1 hx with rfl | hx
   ·exact ⟨a, h1, fun z hz => uL _ hz⟩
   ·obtain ⟨zs, h3, h4⟩ := goL_ok h2 x hx
    exact ⟨zs, h3, fun z hz => uD _ (h4 z hz)⟩
  ·cases h
theorem bindL_ok {α β : Type} {l : Option (List α)} {f : α → Option (List β)} {ys : List β} (h : bindL l f = some ys) : ∃ xs, l = some xs ∧ ∀ x ∈ xs, ∃ zs, f x = some zs ∧ ∀ z ∈ zs, z ∈ ys := by
 unfold bindL at h
 split at h
 ·cases h
 ·exact ⟨_, rfl, goL_ok h⟩
def AT (b : Nat) (q : Pt) (K : St → Prop) : Prop := ∀ e, (∀ i, get e i = q.1.get i) → K ⟨e, q.2, b⟩
def YdOk (y : Nat → YtD) (yy : Nat → Yt) : Prop := ∀ (k : Nat) (xs : List V) (s : St) (E : Tr) (rs : List (V × Pt)) (Z : V → St → Prop), (∀ i, get s.e i = E.get i) → y k xs (E, s.h) = some rs → (∀ r ∈ rs, AT s.b r.2 (Z r.1)) → yy k xs s Z
section
variable {C : Ctr} {it : Itr} {yy : Nat → Yt} {rk : Option Nat} {call : CallD} {mvf : FuncId → Option Nat} (hcall : ∀ f zas h0 mv r h', call f zas h0 mv = some (r, h') → C f zas h0 mv (fun r1 h1 => r1 = r ∧ h1 = h'))
include hcall
theorem putT_get {E : Tr} {e : Env} (he : ∀ i, get e i = E.get i) (d : Option Nat) (x : V) (h : List Blk) (b : Nat) : ∀ i, get ((⟨e, h, b⟩ : St).put d x).e i = (putT E d x).get i := by
 intro i
 cases d with
 | none => exact he i
 | some d =>
  simp only [putT, forceV_eq]
  rw [Tr.get_put _ _ _ _ _ (vH d)]
  show (if i = d then x else get e i) = _
  rw [he]
theorem runD_ok {bn : List Nat} {o : LOper} {b : Nat} {p : Pt} {outs : List Pt} (h : runD call mvf fx bn o b p = some outs) {e : Env} (he : ∀ i, get e i = p.1.get i) {K : St → Prop}
  (hK : ∀ q ∈ outs, ∀ e', (∀ i, get e' i = q.1.get i) → K ⟨e', q.2, b⟩) : aOp { C := C, fx := fx, bn := bn, it := it, y := yy, rk := rk } o.op ⟨e, p.2, b⟩ fun x s' => K (s'.put o.dst x) := by
 unfold runD at h
 split at h
 ·cases h
 ·rename_i rs hrs
  simp only [yA] at h
  subst h
  refine opD_ok hcall he hrs fun r hr e' he' => ?_
  have := hK (putT r.E o.dst r.x, r.h) (by rw [yF]; exact ⟨r, hr, rfl⟩) ((⟨e', r.h, b⟩ : St).put o.dst r.x).e (putT_get hcall he' _ _ _ _)
  cases hd : o.dst with
  | none => rw [hd] at this; exact this
  | some d => rw [hd] at this; exact this
theorem operD_ok {bn : List Nat} {o : LOper} {b : Nat} {p : Pt} {outs : List Pt} (h : operD call mvf fx bn o b p = some outs) {e : Env} (he : ∀ i, get e i = p.1.get i) {K : St → Prop}
  (hK : ∀ q ∈ outs, ∀ e', (∀ i, get e' i = q.1.get i) → K ⟨e', q.2, b⟩) : aOper { C := C, fx := fx, bn := bn, it := it, y := yy, rk := rk } o ⟨e, p.2, b⟩ K := by
 unfold operD at h
 unfold aOper
 split at h
 ·rename_i hg
  rw [hg]
  exact runD_ok hcall h he hK
 ·rename_i g want hg
  rw [hg]
  have hge := he g
  show guardP (get e g) want _ _ _
  split at h
  ·rename_i t ht
   rw [hge, ht]
   have hput : ∀ v : Bool, v = t → ∀ i, get ((g, V.b v) :: e) i = p.1.get i := by
    intro v hv i
    subst hv
    show (if i = g then V.b v else get e i) = _
    by_cases hi : i = g
    ·rw [if_pos hi, hi, ht]
    ·rw [if_neg hi, he]
   have hskip : ∀ v : Bool, v = t → ∀ {outs : List Pt}, some [(putT p.1 o.dst (.v (.tuple #[])), p.2)] = some outs → (∀ q ∈ outs, ∀ e', (∀ i, get e' i = q.1.get i) → K ⟨e', q.2, b⟩) →
     K (((⟨e, p.2, b⟩ : St).put (some g) (.b v)).put o.dst (.v (.tuple #[]))) := by
    intro v hv outs ho hK
    simp only [yA] at ho
    subst ho
    have := hK _ (yG _) ((⟨(g, V.b v) :: e, p.2, b⟩ : St).put o.dst (.v (.tuple #[]))).e (putT_get hcall (hput v hv) _ _ _ _)
    cases hd : o.dst with
    | none => rw [hd] at this; exact this
    | some d => rw [hd] at this; exact this
   split at h
   ·rename_i htw
    subst htw
    have := runD_ok (it := it) (yy := yy) (rk := rk) hcall h (hput t rfl) hK
    cases t with
    | true => exact ⟨fun _ => this, fun h => by cases h⟩
    | false => exact ⟨fun h => (by cases h), fun _ => this⟩
   ·rename_i htw
    have hn : (!want) = t := by cases t <;> cases want <;> simp_all
    have := hskip (!want) hn h hK
    cases t with
    | true => cases want with
     | true => exact absurd rfl htw
     | false => exact ⟨fun _ => this, fun h => by cases h⟩
    | false => cases want with
     | true => exact ⟨fun h => (by cases h), fun _ => this⟩
     | false => exact absurd rfl htw
  ·rename_i u ht
   rw [hge, ht]
   simp only [yA] at h
   subst h
   have := hK _ (yG _) ((⟨e, p.2, b⟩ : St).put o.dst (.v (.tuple #[]))).e (putT_get hcall he _ _ _ _)
   show K ((⟨e, p.2, b⟩ : St).put o.dst (.v (.tuple #[])))
   cases hd : o.dst with
   | none => rw [hd] at this; exact this
   | some d => rw [hd] at this; exact this
  ·cases h
theorem opsD_ok {b : Nat} {K : St → Prop} : ∀ {ls : List LOper} {p : Pt} {outs : List Pt}, opsD call mvf fx b ls p = some outs → ∀ {e : Env}, (∀ i, get e i = p.1.get i) →
  (∀ q ∈ outs, ∀ e', (∀ i, get e' i = q.1.get i) → K ⟨e', q.2, b⟩) → aOps { C := C, fx := fx, bn := [], it := it, y := yy, rk := rk } ls ⟨e, p.2, b⟩ K
 | [], p, outs, h, e, he, hK => by
  simp only [opsD, yA] at h
  subst h
  exact hK _ (yG _) e he
 | o :: r, p, outs, h, e, he, hK => by
  simp only [opsD] at h
  obtain ⟨xs, h1, h2⟩ := bindL_ok h
  refine operD_ok hcall h1 he fun q hq e' he' => ?_
  obtain ⟨zs, h3, h4⟩ := h2 q hq
  exact opsD_ok h3 he' fun z hz => hK z (h4 z hz)
theorem yldD_ok {y : Nat → YtD} (hy : YdOk y yy) {d : Option Nat} {f : Operand} {xs : List Operand} {p : Pt} {outs : List Pt} (h : yldD y d f xs p = some outs) {e : Env} (he : ∀ i, get e i = p.1.get i) {b : Nat} {K : St → Prop}
  (hK : ∀ q ∈ outs, ∀ e', (∀ i, get e' i = q.1.get i) → K ⟨e', q.2, b⟩) : yieldP { C := C, fx := fx, bn := [], it := it, y := yy, rk := rk } f xs ⟨e, p.2, b⟩ fun x s' => K (s'.put d x) := by
 unfold yldD at h
 unfold yieldP
 rw [ev_ok he]
 split at h
 ·rename_i k hk
  rw [hk]
  split at h
  ·rename_i rs hrs
   simp only [yA] at h
   subst h
   have hm : xs.map (ev e) = xs.map (evT p.1) := List.map_congr_left fun x _ => ev_ok he x
   show yy k (xs.map (ev e)) _ _
   rw [hm]
   refine hy k _ _ p.1 rs _ he hrs fun r hr e' he' => ?_
   have := hK (putT r.2.1 d r.1, r.2.2) (by rw [yF]; exact ⟨r, hr, rfl⟩) ((⟨e', r.2.2, b⟩ : St).put d r.1).e (putT_get hcall he' _ _ _ _)
   cases d with
   | none => exact this
   | some d => exact this
  ·cases h
 ·cases h
theorem operYD_ok {y : Nat → YtD} (hy : YdOk y yy) {o : LOper} {b : Nat} {p : Pt} {outs : List Pt} (h : operYD call mvf fx y o b p = some outs) {e : Env} (he : ∀ i, get e i = p.1.get i) {K : St → Prop}
  (hK : ∀ q ∈ outs, ∀ e', (∀ i, get e' i = q.1.get i) → K ⟨e', q.2, b⟩) : aOperY { C := C, fx := fx, bn := [], it := it, y := yy, rk := rk } o ⟨e, p.2, b⟩ K := by
 unfold operYD at h
 unfold aOperY
 split at h
 ·rename_i f xs ho
  rw [ho]
  show gP o.g o.dst (yieldP _ f xs) ⟨e, p.2, b⟩ K
  unfold gP
  split at h
  ·rename_i hg
   rw [hg]
   exact yldD_ok hcall hy h he hK
  ·rename_i g want hg
   rw [hg]
   have hge := he g
   show guardP (get e g) want _ _ _
   split at h
   ·rename_i t ht
    rw [hge, ht]
    have hput : ∀ v : Bool, v = t → ∀ i, get ((g, V.b v) :: e) i = p.1.get i := by
     intro v hv i
     subst hv
     show (if i = g then V.b v else get e i) = _
     by_cases hi : i = g
     ·rw [if_pos hi, hi, ht]
     ·rw [if_neg hi, he]
    have hskip : ∀ v : Bool, v = t → ∀ {outs : List Pt}, some [(putT p.1 o.dst (.v (.tuple #[])), p.2)] = some outs → (∀ q ∈ outs, ∀ e', (∀ i, get e' i = q.1.get i) → K ⟨e', q.2, b⟩) →
      K (((⟨e, p.2, b⟩ : St).put (some g) (.b v)).put o.dst (.v (.tuple #[]))) := by
     intro v hv outs ho hK
     simp only [yA] at ho
     subst ho
     have := hK _ (yG _) ((⟨(g, V.b v) :: e, p.2, b⟩ : St).put o.dst (.v (.tuple #[]))).e (putT_get hcall (hput v hv) _ _ _ _)
     cases hd : o.dst with
     | none => rw [hd] at this; exact this
     | some d => rw [hd] at this; exact this
    split at h
    ·rename_i htw
     subst htw
     have := yldD_ok (C := C) (it := it) (rk := rk) (fx := fx) hcall hy h (hput t rfl) hK
     cases t with
     | true => exact ⟨fun _ => this, fun h => by cases h⟩
     | false => exact ⟨fun h => (by cases h), fun _ => this⟩
    ·rename_i htw
     have hn : (!want) = t := by cases t <;> cases want <;> simp_all
     have := hskip (!want) hn h hK
     cases t with
     | true => cases want with
      | true => exact absurd rfl htw
      | false => exact ⟨fun _ => this, fun h => by cases h⟩
     | false => cases want with
      | true => exact ⟨fun h => (by cases h), fun _ => this⟩
      | false => exact absurd rfl htw
   ·rename_i u ht
    rw [hge, ht]
    simp only [yA] at h
    subst h
    have := hK _ (yG _) ((⟨e, p.2, b⟩ : St).put o.dst (.v (.tuple #[]))).e (putT_get hcall he _ _ _ _)
    show K ((⟨e, p.2, b⟩ : St).put o.dst (.v (.tuple #[])))
    cases hd : o.dst with
    | none => rw [hd] at this; exact this
    | some d => rw [hd] at this; exact this
   ·cases h
 ·rename_i hne
  split
  ·rename_i f xs ho; exact absurd ho (hne f xs)
  ·exact operD_ok hcall h he hK
theorem opsYD_ok {y : Nat → YtD} (hy : YdOk y yy) {b : Nat} {K : St → Prop} : ∀ {ls : List LOper} {p : Pt} {outs : List Pt}, opsYD call mvf fx y b ls p = some outs → ∀ {e : Env}, (∀ i, get e i = p.1.get i) →
  (∀ q ∈ outs, ∀ e', (∀ i, get e' i = q.1.get i) → K ⟨e', q.2, b⟩) → aOpsY { C := C, fx := fx, bn := [], it := it, y := yy, rk := rk } ls ⟨e, p.2, b⟩ K
 | [], p, outs, h, e, he, hK => by
  simp only [opsYD, yA] at h
  subst h
  exact hK _ (yG _) e he
 | o :: r, p, outs, h, e, he, hK => by
  simp only [opsYD] at h
  obtain ⟨xs, h1, h2⟩ := bindL_ok h
  refine operYD_ok hcall hy h1 he fun q hq e' he' => ?_
  obtain ⟨zs, h3, h4⟩ := h2 q hq
  exact opsYD_ok hy h3 he' fun z hz => hK z (h4 z hz)
theorem planD_ok {b : Nat} {K : St → Prop} : ∀ {l : LPlan} {bn : List Nat} {p : Pt} {outs : List Pt}, planD call mvf fx b l bn p = some outs → ∀ {e : Env}, (∀ i, get e i = p.1.get i) →
  (∀ q ∈ outs, ∀ e', (∀ i, get e' i = q.1.get i) → K ⟨e', q.2, b⟩) → awP { C := C, fx := fx, bn := [], it := it, y := yy, rk := rk } l bn K ⟨e, p.2, b⟩
 | .done, bn, p, outs, h, e, he, hK => by
  simp only [planD, yA] at h
  subst h
  exact hK _ (yG _) e he
 | .take i D o q, bn, p, outs, h, e, he, hK => by
  simp only [planD] at h
  obtain ⟨xs, h1, h2⟩ := bindL_ok h
  refine operD_ok hcall h1 he fun q' hq e' he' => ?_
  obtain ⟨zs, h3, h4⟩ := h2 q' hq
  have hrd : rdB o.op e bn = rdT o.op p.1 bn := by
   unfold rdB rdT
   cases o.op with
   | load n a => simp only [ev_ok he]; cases evT p.1 a <;> rfl
   | _ => rfl
  show awP _ q (rdB o.op e bn) K _
  rw [hrd]
  exact planD_ok h3 he' fun z hz => hK z (h4 z hz)
 | .alt i o r q q', bn, p, outs, h, e, he, hK => by
  simp only [planD] at h
  split at h
  ·rename_i x y h1 h2
   simp only [yA] at h
   subst h
   obtain ⟨xs, h3, h4⟩ := bindL_ok h1
   refine ⟨operD_ok hcall h3 he fun q' hq e' he' => ?_, planD_ok h2 he fun z hz => hK z (uD _ hz)⟩
   obtain ⟨zs, h5, h6⟩ := h4 q' hq
   exact planD_ok h5 he' fun z hz => hK z (uL _ (h6 z hz))
  ·cases h
 | .none, bn, p, outs, h, e, he, hK => trivial
end
def Out.ex : Out → Exit
 | .normal _ => .normal
 | .exit j _ => .exit j
 | .ret _ => .ret
def Out.pt : Out → Pt
 | .normal p => p
 | .exit _ p => p
 | .ret p => p
theorem GoodT.reserve {p : Pt} {a : Act} {w : World} (n : Nat) (h : GoodT ρ0 X w0 fx N p a w) : ∃ e, (∀ i, get e i = p.1.get i) ∧ Good ρ0 X w0 fx N ⟨e, roomD n p.2, p.2.length⟩ a w := by
 obtain ⟨e, b, he, hg⟩ := h
 refine ⟨e, he, ?_⟩
 have := hg.reserve n p.2.length
 cases n with
 | zero => simpa [roomD] using this
 | succ n => exact this
theorem others_mem {o : Out} : ∀ {l : List Out}, o ∈ l → (∀ p, o ≠ .normal p) → o ∈ others l
 | [], h, _ => by simp at h
 | x :: r, h, hn => by
  rcases yI.1 h with rfl | h'
  ·cases o with
   | normal p => exact (hn p rfl).elim
   | _ => simp [others]
  ·clear h
   have ih := others_mem h' hn
   cases x with
   | normal p => exact ih
   | _ => simp only [others]; exact uM _ ih
theorem norms_mem {p : Pt} : ∀ {l : List Out}, Out.normal p ∈ l → p ∈ norms l
 | [], h => by simp at h
 | x :: r, h => by
  rcases yI.1 h with rfl | h'
  ·simp [norms]
  ·clear h
   have ih := norms_mem h'
   cases x with
   | normal p => simp only [norms]; exact uM _ ih
   | _ => exact ih
theorem Tr.get_ren (g : Nat → Option Nat) : ∀ (t : Tr) (i : Nat), (t.ren g).get i = renK g (t.get i)
 | .lf, _ => by simp [Tr.ren, Tr.get, renK]
 | .nd v l r, i => by
  cases i with
  | zero => rfl
  | succ j =>
   simp only [Tr.ren, Tr.get]
   split
   ·exact Tr.get_ren g l _
   ·exact Tr.get_ren g r _
mutual
theorem renK_rep {w : World} {ρ1 ρ2 : Nat → Loc} {g : Nat → Option Nat} (hS : ∀ b, Sta ρ1 X w b → Sta ρ2 X w b) (hL : ∀ b, Len ρ1 w b → Len ρ2 w b) (hg : ∀ k j, g k = some j → (ρ1 k).real = true → ρ2 j = ρ1 k) :
  ∀ (x : V) (val : Value), RepV ρ1 X w x val → RepV ρ2 X w (renK g x) val
 | .any, _, _ => trivial
 | .v _, _, hx => hx
 | .ro sz els, val, hx => RepD_mono (fun b hb => ⟨hS b hb, rfl⟩) (.ro sz els) val hx
 | .bro sz els, val, hx => by
  obtain ⟨a, len, cap, h1, h2, h3, h4, h5⟩ := hx
  refine ⟨a, len, cap, h1, h2, h3, h4, h5.imp id ?_⟩
  rintro ⟨b, off, h6, h7, h8⟩
  exact ⟨b, off, h6, hL b h7, RepEls_mono (fun b hb => ⟨hS b hb, rfl⟩) sz b rfl off els h8⟩
 | .full sz els, val, hx => by
  obtain ⟨a, len, h1, h2, h4, h5⟩ := hx
  refine ⟨a, len, h1, h2, h4, h5.imp id ?_⟩
  rintro ⟨b, off, h6, h7, h8⟩
  exact ⟨b, off, h6, hL b h7, RepEls_mono (fun b hb => ⟨hS b hb, rfl⟩) sz b rfl off els h8⟩
 | .rp sz els i f, val, hx => by
  obtain ⟨b, off, h6, h7, h8⟩ := hx
  exact ⟨b, off, h6, hL b h7, RepEls_mono (fun b hb => ⟨hS b hb, rfl⟩) sz b rfl off els h8⟩
 | .itr k, val, hx => by
  simp only [renK]
  split
  ·rename_i j hj
   obtain ⟨h4, h5⟩ := hx
   simp only [RepV]
   rw [hg k j hj h4]
   exact ⟨h4, h5⟩
  ·trivial
 | .sl k i n, val, hx => by
  simp only [renK]
  split
  ·rename_i j hj
   obtain ⟨cap, h1, h2, h3⟩ := hx
   refine ⟨cap, h1, h2, h3.imp id ?_⟩
   rintro ⟨h4, h5⟩
   rw [hg k j hj h4]
   exact ⟨h4, h5⟩
  ·trivial
 | .ptr k i f, val, hx => by
  simp only [renK]
  split
  ·rename_i j hj
   obtain ⟨h4, h5⟩ := hx
   simp only [RepV]
   rw [hg k j hj h4]
   exact ⟨h4, h5⟩
  ·trivial
 | .mp k, val, hx => by
  simp only [renK]
  split
  ·rename_i j hj
   obtain ⟨h4, h5⟩ := hx
   simp only [RepV]
   rw [hg k j hj h4]
   exact ⟨h4, h5⟩
  ·trivial
 | .agg cs, val, hx => by
  obtain ⟨arr, h1, h2⟩ := hx
  exact ⟨arr, h1, rensK_rep hS hL hg cs _ h2⟩
 | .tup cs, val, hx => by
  obtain ⟨arr, h1, h2⟩ := hx
  exact ⟨arr, h1, rensK_rep hS hL hg cs _ h2⟩
 | .clo f cs, val, hx => by
  obtain ⟨arr, h1, h2⟩ := hx
  exact ⟨arr, h1, rensK_rep hS hL hg cs _ h2⟩
theorem rensK_rep {w : World} {ρ1 ρ2 : Nat → Loc} {g : Nat → Option Nat} (hS : ∀ b, Sta ρ1 X w b → Sta ρ2 X w b) (hL : ∀ b, Len ρ1 w b → Len ρ2 w b) (hg : ∀ k j, g k = some j → (ρ1 k).real = true → ρ2 j = ρ1 k) :
  ∀ (xs : List V) (vs : List Value), RepL ρ1 X w xs vs → RepL ρ2 X w (rensK g xs) vs
 | [], [], _ => trivial
 | x :: r, u :: us, hx => ⟨renK_rep hS hL hg x u hx.1, rensK_rep hS hL hg r us hx.2⟩
 | [], _ :: _, hx => hx.elim
 | _ :: _, [], hx => hx.elim
end
theorem rensK_map (g : Nat → Option Nat) : ∀ xs : List V, rensK g xs = xs.map (renK g)
 | [] => rfl
 | x :: r => by simp [rensK, rensK_map g r]
theorem get_renEK (g : Nat → Option Nat) : ∀ (e : Env) (i : Nat), get (renEK g e) i = renK g (get e i)
 | [], _ => by simp [renEK, get, renK]
 | (j, x) :: r, i => by
  simp only [renEK, get]
  split
  ·rfl
  ·exact get_renEK g r i
theorem renBK_rep {w : World} {ρ1 ρ2 : Nat → Loc} {g : Nat → Option Nat} (hS : ∀ b, Sta ρ1 X w b → Sta ρ2 X w b) (hL : ∀ b, Len ρ1 w b → Len ρ2 w b) (hg : ∀ k j, g k = some j → (ρ1 k).real = true → ρ2 j = ρ1 k)
  {k j : Nat} (hkj : ρ2 j = ρ1 k) {B : Blk} (hB : RepB ρ1 X w k B) : RepB ρ2 X w j (renBK g B) := by
 cases B with
 | dead => simp only [renBK, RepB] at hB ⊢; rw [hkj]; exact hB
 | arr sz els =>
  simp only [renBK, RepB] at hB ⊢
  rw [hkj]
  refine ⟨hB.1, hB.2.imp id ?_⟩
  rintro ⟨h1, c, T, h2, h3, h4, h5⟩
  exact ⟨h1, c, T, h2, h3, h4, RepEls_mono (fun b hb => ⟨hS b hb, rfl⟩) sz _ rfl _ _ h5⟩
 | var cs =>
  simp only [renBK, RepB] at hB ⊢
  rw [hkj]
  obtain ⟨h1, c, T, h2, h3⟩ := hB
  exact ⟨h1, c, T, h2, rensK_rep hS hL hg _ _ h3.1, h3.2⟩
 | arv sz els =>
  simp only [renBK, RepB] at hB ⊢
  rw [hkj]
  obtain ⟨h0, h1, c, T, h2, h3, h4, h5⟩ := hB
  refine ⟨h0, h1, c, T, h2, h3, by simpa using h4, fun i e he => ?_⟩
  simp only [uI, yK] at he
  obtain ⟨e0, he0, rfl⟩ := he
  refine ⟨by rw [rensK_map, yH]; exact (h5 i e0 he0).1, fun f x hx => ?_⟩
  simp only [rensK_map, uI, yK] at hx
  obtain ⟨x0, hx0, rfl⟩ := hx
  obtain ⟨u, h6, h7⟩ := (h5 i e0 he0).2 f x0 hx0
  exact ⟨u, h6, renK_rep hS hL hg _ _ h7⟩
 | map es cl =>
  simp only [renBK, RepB] at hB ⊢
  rw [hkj]
  obtain ⟨h1, arr, h2, h3, h4⟩ := hB
  refine ⟨h1, arr, h2, by rw [h3]; simp, ?_⟩
  rw [show (List.map (fun e : Value × V × Nat => (e.1, renK g e.2.1, e.2.2)) es).map (·.2.1) = rensK g (es.map (·.2.1)) by rw [rensK_map]; simp]
  exact rensK_rep hS hL hg _ _ h4
 | it m s sn l =>
  simp only [renBK, RepB] at hB ⊢
  rw [hkj]
  obtain ⟨h1, x, h2, h3⟩ := hB
  exact ⟨h1, x, h2, renK_rep hS hL hg _ _ h3⟩
 | rcd t e =>
  simp only [renBK, RepB] at hB ⊢
  rw [hkj]
  exact ⟨hB.1, fun i => by rw [get_renEK]; exact renK_rep hS hL hg _ _ (hB.2 i)⟩
theorem gc_rep {ρ : Nat → Loc} {w : World} {h : List Blk} (hr : Rep ρ X w h) {ι : List Nat} (hn : ι.Nodup) (hlt : ∀ k ∈ ι, k < h.length) :
  Rep (calleeLoc ρ ι) X w (ι.map fun k => renBK (pos ι) (blk h k)) := by
 refine ⟨?_, ?_, ?_, fun b ho => hr.disj b (callee_own ho), ?_, hr.xlt⟩
 ·intro i j hij hi hj
  obtain ⟨a, ha, ea⟩ := callee_real hi
  obtain ⟨c, hc, ec⟩ := callee_real hj
  rw [ea] at hi ⊢
  rw [ec] at hj ⊢
  refine hr.inj a c (fun e => hij ?_) hi hj
  subst e
  have h1 := pos_of_get hn ha
  have h2 := pos_of_get hn hc
  rw [h1] at h2
  simpa using h2
 ·intro k hk
  have : ι[k]? = none := by simpa using hk
  simp [calleeLoc, this]
 ·intro j B hB
  simp only [uI, yK] at hB
  obtain ⟨k, hk, rfl⟩ := hB
  have hkl := hlt k (List.mem_of_getElem? hk)
  have hb : h[k]? = some (blk h k) := by simp [blk, yX, uA hkl]
  exact renBK_rep (fun b hb => ⟨hb.1, fun ho => hb.2.1 (callee_own ho), hb.2.2⟩) (fun b hb => callee_len hb) (fun k' j' hp _ => callee_at (pos_some hp)) (callee_at hk) (hr.blk k _ hb)
 ·intro j hj
  unfold calleeLoc at hj ⊢
  split at hj
  ·exact hr.lt _ hj
  ·cases hj
theorem gc_fr {ρ : Nat → Loc} {w : World} {ι : List Nat} : Fr ρ w (calleeLoc ρ ι) w := ⟨rfl, rfl, rfl, yL _, fun _ _ ho => ⟨rfl, fun h => ho (callee_own h)⟩⟩
theorem gc_val {ρ : Nat → Loc} {w : World} {ι : List Nat} {x : V} {val : Value} (h : RepV ρ X w x val) : RepV (calleeLoc ρ ι) X w (renK (pos ι) x) val :=
 renK_rep (fun b hb => ⟨hb.1, fun ho => hb.2.1 (callee_own ho), hb.2.2⟩) (fun b hb => callee_len hb) (fun k' j' hp _ => callee_at (pos_some hp)) x val h
theorem keepN_get {n : Nat} {h : List Blk} {names : List Nat} {k : Nat} (hk : k < n) : (keepN n h names)[k]? = some k := by
 unfold keepN
 rw [List.getElem?_append_left (by simpa using hk)]
 simp [hk]
theorem numB_ok {L : List Nat} {h : List Blk} {n : Nat} (hb : numB L h n = true) : L.Nodup ∧ (∀ k ∈ L, k < h.length) ∧ n ≤ h.length := by
 unfold numB at hb
 simp only [yC, vG, Nat.blt_eq, Nat.ble_eq] at hb
 exact ⟨nodup_of hb.1.1, hb.1.2, hb.2⟩
theorem gcD_ok {n0 : Nat} (hfn : ∀ k ∈ fx, k < n0) {p q : Pt} (h : gcD fx n0 p = some q) {a : Act} {w : World} (hg : GoodT ρ0 X w0 fx N p a w) : GoodT ρ0 X w0 fx N q a w := by
 unfold gcD at h
 split at h
 ·simp only [yA] at h
  subst h
  exact hg
 generalize hL : keepN n0 p.2 p.1.namesT = L at h
 unfold gcK at h
 simp only at h
 split at h
 ·rename_i hc
  simp only [yC] at hc
  simp only [yA] at h
  subst h
  obtain ⟨hn, hlt, _⟩ := numB_ok hc.1
  obtain ⟨e, b, he, ρ, ⟨⟨hf, h1⟩, hk⟩, ⟨hr, hre⟩, h5, h6⟩ := hg
  refine ⟨(p.1.ren (pos L)).toEnv, 0, toEnv_get _, calleeLoc ρ L, ⟨⟨hf.trans gc_fr, fun k hk' => ?_⟩, keep_of hc.2⟩, ⟨gc_rep hr hn hlt, fun i => ?_⟩, h5, h6.fr gc_fr⟩
  ·rw [callee_at (by rw [← hL]; exact keepN_get (hfn k hk'))]
   exact h1 k hk'
  ·rw [toEnv_get, Tr.get_ren, ← he]
   exact gc_val (hre i)
 ·cases h
theorem ofEnv_get : ∀ (e : Env) (i : Nat), (ofEnv e).get i = get e i
 | [], _ => rfl
 | (j, x) :: r, i => by
  simp only [ofEnv, forceNat_eq, putT, forceV_eq]
  rw [Tr.get_put _ _ _ _ _ (vH j), ofEnv_get r i]
  rfl
theorem setPsT_get : ∀ (ps : List Nat) (xs : List V) (e : Env) (E : Tr), (∀ i, get e i = E.get i) → ∀ i, get (setPs ps xs e) i = (setPsT ps xs E).get i
 | [], [], _, _, he, i => he i
 | [], _ :: _, _, _, he, i => he i
 | _ :: _, [], _, _, he, i => he i
 | p :: ps, x :: xs, e, E, he, i => by
  simp only [setPs, setPsT]
  refine setPsT_get ps xs _ _ (fun j => ?_) i
  simp only [putT, forceV_eq]
  rw [Tr.get_put _ _ _ _ _ (vH p), ← he j]
  rfl
def Out.K (Nn : St → Prop) (Xx : Nat → St → Prop) (Rr : St → Prop) : Out → Prop
 | .normal q => ∀ b, AT b q Nn
 | .exit j q => ∀ b, AT b q (Xx j)
 | .ret q => ∀ b, AT b q Rr
def CwA (call : CallD) (mvf : FuncId → Option Nat) (iter : ItD) (C : Ctr) (it : Itr) (l : LCode) : Cx → (St → Prop) → (Nat → St → Prop) → (St → Prop) → St → Prop := fun cx Nn Xx Rr s =>
 ∃ (n0 : Nat) (yd : Nat → YtD) (E : Tr) (outs : List Out), (cx.C = C ∧ cx.it = it ∧ cx.bn = []) ∧ (∀ k ∈ cx.fx, k < n0) ∧ YdOk yd cx.y ∧ (∀ i, get s.e i = E.get i) ∧ cw call mvf iter l cx.fx n0 yd cx.rk (E, s.h) = some outs ∧ ∀ o ∈ outs, o.K Nn Xx Rr
def ItOk (P : Program) (iter : ItD) : Prop := ∀ f zas fx k yd h hs, iter f zas fx k yd h = some hs → Callable P f ∧ ∀ (Y : Yt) (K : List Blk → Prop),
 (∀ xs E h b rs Z, yd xs (E, h) = some rs → (∀ r ∈ rs, AT b r.2 (Z r.1)) → Y xs ⟨E.toEnv, h, b⟩ Z) → (∀ h' ∈ hs, K h') → Iter P f zas fx k Y h K
section
variable {call : CallD} {mvf : FuncId → Option Nat} {iter : ItD}
def CW (P : Program) (X : Nat → Prop) (N : Nat) (call : CallD) (mvf : FuncId → Option Nat) (iter : ItD) (c : Code) : Prop :=
 ∀ (l0 l : LCode), rlC P N c l0 = some l → ∀ (r : Option Nat) (fx : List Nat) (yy : Nat → Yt) (rk : Option Nat) (ρ0 : Nat → Loc) (w0 : World), (r = none ∨ (codeRd c = true ∧ inRd l = true)) →
  ROk r ⟨fun f zas h0 mv R => Callable P f ∧ Fn P f zas h0 mv R, fx, [], fun f zas fx k Y h K => Callable P f ∧ Iter P f zas fx k Y h K, yy, rk⟩ ρ0 → (∀ k, YOk P ρ0 X w0 fx k (yy k)) →
  ∀ (n0 : Nat) (yd : Nat → YtD), (∀ k ∈ fx, k < n0) → YdOk yd yy → ∀ (Q : Exit → Act → World → Prop), ¬ LetsOut Q → ∀ (p : Pt) (outs : List Out), cw call mvf iter l fx n0 yd rk p = some outs →
   (∀ o ∈ outs, ∀ a w, GoodT ρ0 X w0 fx N o.pt a w → Q o.ex a w) → ∀ a w, GoodT ρ0 X w0 fx N p a w → c.wpIn (FR r) 0 P Q a w
theorem CW.snd {c : Code} (h : CW P X N call mvf iter c) {l0 l : LCode} (hm : rlC P N c l0 = some l) :
  SndA P X N c (codeRd c = true ∧ inRd l = true) (CwA call mvf iter (fun f zas h0 mv R => Callable P f ∧ Fn P f zas h0 mv R) (fun f zas fx k Y h K => Callable P f ∧ Iter P f zas fx k Y h K) l) := by
 intro r cx ρ0 w0 hcx hrd hro hy Q Nn Xx Rr hQo hN hX hR s a w ⟨n0, yd, E, outs, ⟨h1, h2, h3⟩, h4, h5, h6, h7, h8⟩ hg
 obtain ⟨C, fx, bn, it, y, rk⟩ := cx
 simp only at h1 h2 h3 h4 h5 h7 hy hg
 subst h1 h2 h3
 refine h l0 l hm r fx y rk ρ0 w0 hrd hro hy n0 yd h4 h5 Q hQo (E, s.h) outs h7 (fun o ho a w hgd => ?_) a w ⟨s.e, s.b, h6, hg⟩
 obtain ⟨e, b, he, hgd⟩ := hgd
 have := h8 o ho
 cases o with
 | normal q => exact hN _ _ _ (this b e he) hgd
 | exit j q => exact hX j _ _ _ (this b e he) hgd
 | ret q => exact hR _ _ _ (this b e he) hgd
theorem cw_rfn (hP : P.follows .mixedOrders = true) (hcall : ∀ f zas h0 mv r h', call f zas h0 mv = some (r, h') → Callable P f ∧ Fn P f zas h0 mv (fun r1 h1 => r1 = r ∧ h1 = h')) (hiter : ItOk P iter)
  {g : Operand} {ps : Array Tmp} {asg body : Code} (ha : CW P X N call mvf iter asg) (hb : CW P X N call mvf iter body) : CW P X N call mvf iter (.rangeFunc g ps asg body) := by
 intro l0 l hm r fx yy rk ρ0 w0 hrd hro hy n0 yd hfn hyd Q hQo p outs hd hQ a w hg
 cases l0 with
 | rfn g' ps' la0 lb0 =>
  simp only [rlC] at hm
  split at hm
  ·rename_i la lb hma hmb
   split at hm
   ·rename_i hc
    simp only [yC] at hc
    simp only [yA] at hm
    subst hm
    obtain ⟨⟨hps, hcd⟩, hin⟩ := hc
    have hps' : ∀ p ∈ ps.toList, p < N := fun p hp => by simpa using vG.1 hps p hp
    obtain ⟨e0, b0, he0, hg⟩ := hg
    have hg1 : Good ρ0 X w0 fx N ⟨p.1.toEnv, p.2, b0⟩ a w := by
     obtain ⟨ρ, g1, ⟨g2, g3⟩, g4⟩ := hg
     exact ⟨ρ, g1, ⟨g2, fun i => by rw [toEnv_get, ← he0]; exact g3 i⟩, g4⟩
    have hfx1 : ∀ n, p.2.length < n → ∀ j ∈ n :: p.2.length :: fx, j < n + 1 := by
     intro n hn j hj
     obtain ⟨ρ, ⟨_, hkp⟩, _⟩ := hg
     rcases yI.1 hj with rfl | hj
     ·omega
     ·rcases yI.1 hj with rfl | hj
      ·omega
      ·have := keepP_get hkp j hj
       unfold liveP at this
       rcases Nat.lt_or_ge j p.2.length with h | h
       ·omega
       ·rw [uK h] at this
        exact this.elim
    have hS := rfn_okA (g := g) (ha.snd hma) (hb.snd hmb) ⟨(by simpa using hcd : _ ∧ _).1, (by simpa using hin : _ ∧ _).1⟩ ⟨(by simpa using hcd : _ ∧ _).2, (by simpa using hin : _ ∧ _).2⟩ hps'
    refine hS r ⟨_, fx, [], _, yy, rk⟩ ρ0 w0 ⟨fun f zas h0 mv R h => h, fun f zas fx k Y h K h => h⟩ (hrd.imp id fun _ => trivial) hro hy Q
     (fun s => ∃ q, Out.normal q ∈ outs ∧ (∀ i, get s.e i = q.1.get i) ∧ s.h = q.2) (fun j s => ∃ q, Out.exit j q ∈ outs ∧ (∀ i, get s.e i = q.1.get i) ∧ s.h = q.2) (fun s => ∃ q, Out.ret q ∈ outs ∧ (∀ i, get s.e i = q.1.get i) ∧ s.h = q.2) hQo ?_ ?_ ?_ _ a w ?_ hg1
    ·rintro ⟨e, h, b⟩ a w ⟨q, h1, h2, rfl⟩ hgd
     exact hQ _ h1 a w ⟨e, b, h2, hgd⟩
    ·rintro j ⟨e, h, b⟩ a w ⟨q, h1, h2, rfl⟩ hgd
     exact hQ _ h1 a w ⟨e, b, h2, hgd⟩
    ·rintro ⟨e, h, b⟩ a w ⟨q, h1, h2, rfl⟩ hgd
     exact hQ _ h1 a w ⟨e, b, h2, hgd⟩
    ·simp only [cw] at hd
     simp only [ev_ok (toEnv_get p.1)]
     split at hd
     ·rename_i gf caps hcl
      try rw [hcl]
      try simp only
      split at hd
      ·rename_i hir
       simp only [forceNat_eq] at hd
       obtain ⟨hs, h1, h2⟩ := bindL_ok hd
       obtain ⟨hcb, h3⟩ := hiter _ _ _ _ _ _ _ h1
       refine ⟨?_, hcb, h3 _ _ ?_ ?_⟩
       ·unfold inRdB at hir
        unfold inRdP
        split at hir
        ·trivial
        ·split at hir
         ·rename_i hk
          simp only [rcdK, hk]
         ·cases hir
       ·intro xs E h b rs Z hrs hZ
        simp only [rndD] at hrs
        split at hrs
        ·rename_i e hk
         split at hrs
         ·rename_i hlen
          obtain ⟨os, h4, h5⟩ := bindL_ok hrs
          obtain ⟨oa, h6, h7⟩ := bindL_ok h4
          simp only [rcdK, hk]
          refine ⟨trivial, hlen, h.length + 1, _, _, oa, ⟨rfl, rfl, rfl⟩, ?_, (fun _ _ _ _ _ _ _ h _ => by simp at h), setPsT_get _ _ _ _ (fun i => (ofEnv_get e i).symm), h6, fun o ho => ?_⟩
          ·exact hfx1 h.length (uN.1 hk).1
          ·obtain ⟨zs, h8, h9⟩ := h7 o ho
           cases o with
           | normal q =>
            simp only [begRdD] at h8
            split at h8
            ·rename_i e' hk'
             intro b' ea hea
             simp only [begRd, rcdK, hk']
             refine ⟨trivial, h.length + 1, _, _, zs, ⟨rfl, rfl, rfl⟩, ?_, (fun _ _ _ _ _ _ _ h _ => by simp at h), hea, h8, fun o2 ho2 => ?_⟩
             ·exact hfx1 h.length (uN.1 hk).1
             ·obtain ⟨zs2, h10, h11⟩ := h5 o2 (h9 o2 ho2)
              have key : ∀ (bb : Bool) (t : RS) (q2 : Pt), endRdD p.2.length h.length bb t q2 = some zs2 → ∀ b2, AT b2 q2 (endRd p.2.length h.length b Z bb t) := by
               intro bb t q2 hq2 b2 e2 he2
               simp only [endRdD] at hq2
               split at hq2
               ·rename_i er hkr
                split at hq2
                ·rename_i eg hkg
                 simp only [yA] at hq2
                 subst hq2
                 simp only [endRd, rcdK, hkr, hkg]
                 exact ⟨trivial, trivial, hZ _ (h11 _ (yG _)) _ fun i => (ofEnv_get eg i).symm⟩
                ·cases hq2
               ·cases hq2
              cases o2 with
              | normal q2 => exact fun b2 => key _ _ _ h10 b2
              | exit j q2 => exact fun b2 => key _ _ _ h10 b2
              | ret q2 => exact fun b2 => key _ _ _ h10 b2
            ·cases h8
           | exit j q => simp [begRdD] at h8
           | ret q => simp [begRdD] at h8
         ·cases hrs
        ·cases hrs
       ·intro h' hh'
        obtain ⟨zs, h4, h5⟩ := h2 h' hh'
        simp only [endLpD] at h4
        split at h4
        ·rename_i t e hk
         split at h4
         ·rename_i hw
          simp only [yC] at hw
          simp only [endLp, rcdK, hk]
          refine ⟨⟨wfEB_ok _ hw.1, wfBB_ok _ hw.2⟩, ?_⟩
          split at h4
          ·simp only [yA] at h4
           subst h4
           exact ⟨_, h5 _ (yG _), fun i => (ofEnv_get e i).symm, rfl⟩
          ·simp only [yA] at h4
           subst h4
           exact ⟨_, h5 _ (yG _), fun i => (ofEnv_get e i).symm, rfl⟩
          ·simp only [yA] at h4
           subst h4
           exact ⟨_, h5 _ (yG _), fun i => (ofEnv_get e i).symm, rfl⟩
          ·cases h4
         ·cases h4
        ·cases h4
      ·cases hd
     ·cases hd
   ·cases hm
  ·cases hm
 | _ => simp [rlC] at hm
theorem cw_sound (hP : P.follows .mixedOrders = true) (hcall : ∀ f zas h0 mv r h', call f zas h0 mv = some (r, h') → Callable P f ∧ Fn P f zas h0 mv (fun r1 h1 => r1 = r ∧ h1 = h')) (hiter : ItOk P iter) : ∀ c : Code, CW P X N call mvf iter c := by
 have hcl : ∀ f zas h0 mv r h', call f zas h0 mv = some (r, h') → (fun f zas h0 mv R => Callable P f ∧ Fn P f zas h0 mv R) f zas h0 mv (fun r1 h1 => r1 = r ∧ h1 = h') := hcall
 have hcx : ∀ (fx : List Nat) (yy : Nat → Yt) (rk : Option Nat), Cx.ok ⟨fun f zas h0 mv R => Callable P f ∧ Fn P f zas h0 mv R, fx, [], fun f zas fx k Y h K => Callable P f ∧ Iter P f zas fx k Y h K, yy, rk⟩ P := fun _ _ _ => ⟨fun f zas h0 mv R h => h, fun f zas fx k Y h K h => h⟩
 intro c
 induction c with
 | skip =>
  intro l0 l hm r fx yy rk ρ0 w0 hrd hro hy n0 yd hfn hyd Q hQo p outs hd hQ a w hg
  simp only [rlC, yA] at hm
  subst hm
  simp only [cw, yA] at hd
  subst hd
  exact wpIn_skip (hQ (.normal p) (by simp) a w hg)
 | label i =>
  intro l0 l hm r fx yy rk ρ0 w0 hrd hro hy n0 yd hfn hyd Q hQo p outs hd hQ a w hg
  simp only [rlC, yA] at hm
  subst hm
  simp only [cw, yA] at hd
  subst hd
  exact wpIn_label (hQ (.normal p) (by simp) a w hg)
 | scope c ih =>
  intro l0 l hm r fx yy rk ρ0 w0 hrd hro hy n0 yd hfn hyd Q hQo p outs hd hQ a w hg
  simp only [rlC] at hm
  rcases hrd with rfl | hrd
  ·refine (wpIn_wide (n := 0)).2 (wp_scope_straight ((wpIn_wide (n := 0)).1 (ih l0 l hm none fx yy rk ρ0 w0 (.inl rfl) hro hy n0 yd hfn hyd (Exit.noGoto Q) (fun ⟨a, w, hq⟩ => hQo ⟨a, w, hq⟩) p outs hd (fun o ho a w h => ?_) a w hg)))
   have := hQ o ho a w h
   cases o <;> exact this
  ·exact absurd hrd.1 (by simp [codeRd])
 | ret =>
  intro l0 l hm r fx yy rk ρ0 w0 hrd hro hy n0 yd hfn hyd Q hQo p outs hd hQ a w hg
  simp only [rlC, yA] at hm
  subst hm
  simp only [cw, yA] at hd
  subst hd
  exact wpIn_ret (hQ (.ret p) (by simp) a w hg)
 | exit i =>
  intro l0 l hm r fx yy rk ρ0 w0 hrd hro hy n0 yd hfn hyd Q hQo p outs hd hQ a w hg
  simp only [rlC, yA] at hm
  subst hm
  simp only [cw, yA] at hd
  subst hd
  exact wpIn_exit (hQ (.exit i p) (by simp) a w hg)
 | region id ops draw =>
  intro l0 l hm r fx yy rk ρ0 w0 hrd hro hy n0 yd hfn hyd Q hQo p outs hd hQ a w hg
  have hdf : r = none ∨ ops.toList.all notDefer = true := hrd.imp (fun h => h) fun h => h.1
  have hN : ∀ {ps : List Pt}, outs = ps.map .normal → ∀ (s : St) a w, (∃ q ∈ ps, (∀ i, get s.e i = q.1.get i) ∧ s.h = q.2) → Good ρ0 X w0 fx N s a w → Q .normal a w := by
   rintro ps rfl s a w ⟨q, hq, h1, h2⟩ hg
   exact hQ (.normal q) (by rw [yF]; exact ⟨q, hq, rfl⟩) a w ⟨s.e, s.b, h1, by show Good ρ0 X w0 fx N ⟨s.e, q.2, s.b⟩ a w; rw [← h2]; exact hg⟩
  simp only [rlC] at hm
  split at hm
  ·split at hm
   ·rename_i x hr
    simp only [yA] at hm
    subst hm
    simp only [cw, yK] at hd
    obtain ⟨ps, h1, h2⟩ := hd
    obtain ⟨e, he, hgr⟩ := hg.reserve _
    exact wpIn_region_list (listIn hQo _ (hdf.imp (fun h => h) fun h => vG.1 h) _ _ (aOps_sound (hcx fx yy rk) rfl (hN h2.symm) _ _ _ _ a w hr hgr (opsD_ok hcl h1 he fun q hq e' he' => ⟨q, hq, he', rfl⟩)))
   ·cases hm
  ·split at hm
   ·rename_i x hr
    split at hm
    ·rename_i hc
     simp only [yC] at hc
     simp only [yA] at hm
     subst hm
     rcases hrd with rfl | hrd
     ·simp only [cw, yK] at hd
      obtain ⟨ps, h1, h2⟩ := hd
      obtain ⟨e, he, hgr⟩ := hg.reserve _
      exact (wpIn_wide (n := 0)).2 (qui_sound (cx := ⟨fun f zas h0 mv R => Callable P f ∧ Fn P f zas h0 mv R, fx, [], fun f zas fx k Y h K => Callable P f ∧ Iter P f zas fx k Y h K, yy, rk⟩) hP (hN h2.symm) hr hc.1 hc.2 hgr (opsD_ok hcl h1 he fun q hq e' he' => ⟨q, hq, he', rfl⟩))
     ·exact absurd hrd.2 (by simp [inRd])
    ·cases hm
   ·cases hm
  ·split at hm
   ·rename_i x hr
    split at hm
    ·rename_i hc
     simp only [yC] at hc
     simp only [yA] at hm
     subst hm
     rcases hrd with rfl | hrd
     ·simp only [cw, yK] at hd
      obtain ⟨ps, h1, h2⟩ := hd
      obtain ⟨e, he, hgr⟩ := hg.reserve _
      exact (wpIn_wide (n := 0)).2 (tail_sound hP (hcx fx yy rk) rfl (hN h2.symm) hr hc.1 hc.2 hgr (opsD_ok hcl h1 he fun q hq e' he' => ⟨q, hq, he', rfl⟩))
     ·exact absurd hrd.2 (by simp [inRd])
    ·cases hm
   ·cases hm
  ·split at hm
   ·rename_i x hr
    simp only [yA] at hm
    subst hm
    simp only [cw] at hd
    split at hd
    ·cases hd
    ·rename_i ps h1
     simp only [yK] at hd
     obtain ⟨js, h2, h3⟩ := hd
     obtain ⟨e, he, hgr⟩ := hg.reserve _
     refine tree_in hP (hcx fx yy rk) hQo (K := fun s => ∃ q ∈ ps, (∀ i, get s.e i = q.1.get i) ∧ s.h = q.2) ?_ hdf hr hgr (planD_ok hcl h1 he fun q hq e' he' => ⟨q, hq, he', rfl⟩)
     rintro s a w ⟨q, hq, h4, h5⟩ hg
     obtain ⟨j, hj, hgj⟩ := joinD_ok h2 hq (⟨s.e, s.b, h4, by rw [← h5]; exact hg⟩ : GoodT ρ0 X w0 fx N q a w)
     subst h3
     exact hQ (.normal j) (by rw [yF]; exact ⟨j, hj, rfl⟩) a w hgj
   ·cases hm
  ·split at hm
   ·rename_i x hr
    split at hm
    ·rename_i hc
     simp only [yA] at hm
     subst hm
     rcases hrd with rfl | hrd
     ·simp only [cw, yK] at hd
      obtain ⟨ps, h1, h2⟩ := hd
      obtain ⟨e, he, hgr⟩ := hg.reserve _
      have hops := opsYD_ok (C := fun f zas h0 mv R => Callable P f ∧ Fn P f zas h0 mv R) (it := fun f zas fx k Y h K => Callable P f ∧ Iter P f zas fx k Y h K) (rk := rk) (K := fun s => ∃ q ∈ ps, (∀ i, get s.e i = q.1.get i) ∧ s.h = q.2) hcl hyd h1 he fun q hq e' he' => ⟨q, hq, he', rfl⟩
      cases draw with
      | false => exact wpIn_region_list (aOpsY_sound (hcx fx yy rk) hy (hN h2.symm) _ _ _ _ a w hr hgr hops)
      | true =>
       simp only [yW, Bool.false_or, yC] at hc
       exact yreg_in hP (hcx fx yy rk) hy hQo (hN h2.symm) hr hc.1 hc.2 hgr hops
     ·exact absurd hrd.2 (by simp [inRd])
    ·cases hm
   ·cases hm
  ·split at hm
   ·rename_i p' x hpl hr
    split at hm
    ·rename_i hlt
     simp only [yA] at hm
     subst hm
     rcases hrd with rfl | hrd
     ·simp only [cw] at hd
      split at hd
      ·cases hd
      ·rename_i ps h1
       simp only [yK] at hd
       obtain ⟨js, h2, h3⟩ := hd
       obtain ⟨e, he, hgr⟩ := hg.reserve _
       obtain ⟨xs, h4, h5⟩ := bindL_ok h1
       refine ytree_in hP (hcx fx yy none) hy hQo (K := fun s => ∃ q ∈ ps, (∀ i, get s.e i = q.1.get i) ∧ s.h = q.2) ?_ hpl hr hlt hgr (planD_ok hcl h4 he fun q hq e' he' => ?_)
       ·rintro s a w ⟨q, hq, h6, h7⟩ hg
        obtain ⟨j, hj, hgj⟩ := joinD_ok h2 hq (⟨s.e, s.b, h6, by rw [← h7]; exact hg⟩ : GoodT ρ0 X w0 fx N q a w)
        subst h3
        exact hQ (.normal j) (by rw [yF]; exact ⟨j, hj, rfl⟩) a w hgj
       ·obtain ⟨zs, h6, h7⟩ := h5 q hq
        exact opsYD_ok (C := fun f zas h0 mv R => Callable P f ∧ Fn P f zas h0 mv R) (it := fun f zas fx k Y h K => Callable P f ∧ Iter P f zas fx k Y h K) hcl hyd h6 he' fun z hz e2 he2 => ⟨z, h7 z hz, he2, rfl⟩
     ·exact absurd hrd.2 (by simp [inRd])
    ·cases hm
   ·cases hm
  ·simp only [yA] at hm
   subst hm
   simp [cw] at hd
  ·cases hm
 | seq x y iha ihb =>
  intro l0 l hm r fx yy rk ρ0 w0 hrd hro hy n0 yd hfn hyd Q hQo p outs hd hQ a w hg
  have key : ∀ {x' y' lx ly : LCode} {p : Pt}, rlC P N x lx = some x' → rlC P N y ly = some y' → (r = none ∨ (codeRd x = true ∧ inRd x' = true)) → (r = none ∨ (codeRd y = true ∧ inRd y' = true)) →
    andD (cw call mvf iter x' fx n0 yd rk p) (cw call mvf iter y' fx n0 yd rk) = some outs → GoodT ρ0 X w0 fx N p a w → (Code.seq x y).wpIn (FR r) 0 P Q a w := by
   intro x' y' lx ly p h1 h2 hra hrb hd hg
   unfold andD at hd
   obtain ⟨os, h3, h4⟩ := bindL_ok hd
   refine wpIn_seq (iha _ _ h1 r fx yy rk ρ0 w0 hra hro hy n0 yd hfn hyd _ (LetsOut_then hQo) p os h3 (fun o ho a w h => ?_) a w hg)
   obtain ⟨zs, h5, h6⟩ := h4 o ho
   cases o with
   | normal q => exact ihb _ _ h2 r fx yy rk ρ0 w0 hrb hro hy n0 yd hfn hyd Q hQo q zs h5 (fun o ho => hQ o (h6 o ho)) a w h
   | exit j q =>
    simp only [yA] at h5
    subst h5
    exact hQ _ (h6 _ (by simp)) a w h
   | ret q =>
    simp only [yA] at h5
    subst h5
    exact hQ _ (h6 _ (by simp)) a w h
  simp only [rlC] at hm
  split at hm
  ·split at hm
   ·rename_i x' y' h1 h2
    simp only [yA] at hm
    subst hm
    exact key h1 h2 (hrd.imp (fun h => h) fun h => by simp only [codeRd, inRd, yC] at h; exact ⟨h.1.1, h.2.1⟩) (hrd.imp (fun h => h) fun h => by simp only [codeRd, inRd, yC] at h; exact ⟨h.1.2, h.2.2⟩) hd hg
   ·cases hm
  ·split at hm
   ·rename_i x' y' h1 h2
    simp only [yA] at hm
    subst hm
    simp only [cw] at hd
    split at hd
    ·rename_i q hf
     obtain ⟨e, b, he, hgd⟩ := hg
     obtain ⟨s', ⟨g1, g2⟩, hgd'⟩ := frzP_good (K := fun s => (∀ i, get s.e i = q.1.get i) ∧ s.h = q.2) _ _ (frzD_ok (b := b) _ p.1 p.2 e he hf fun e' he' => ⟨he', rfl⟩) hgd
     exact key h1 h2 (hrd.imp (fun h => h) fun h => by simp only [codeRd, inRd, yC] at h; exact ⟨h.1.1, h.2.1⟩) (hrd.imp (fun h => h) fun h => by simp only [codeRd, inRd, yC] at h; exact ⟨h.1.2, h.2.2⟩) hd ⟨s'.e, s'.b, g1, by rw [← g2]; exact hgd'⟩
    ·cases hd
   ·cases hm
  ·simp only [yA] at hm
   subst hm
   simp [cw] at hd
  ·cases hm
 | cond c x y iha ihb =>
  intro l0 l hm r fx yy rk ρ0 w0 hrd hro hy n0 yd hfn hyd Q hQo p outs hd hQ a w hg
  simp only [rlC] at hm
  split at hm
  ·split at hm
   ·rename_i x' y' h1 h2
    simp only [yA] at hm
    subst hm
    have hra : r = none ∨ (codeRd x = true ∧ inRd x' = true) := hrd.imp (fun h => h) fun h => by simp only [codeRd, inRd, yC] at h; exact ⟨h.1.1, h.2.1⟩
    have hrb : r = none ∨ (codeRd y = true ∧ inRd y' = true) := hrd.imp (fun h => h) fun h => by simp only [codeRd, inRd, yC] at h; exact ⟨h.1.2, h.2.2⟩
    simp only [cw] at hd
    have hev : ∀ t, evT p.1 c = .v (.bool t) → a.eval c = .bool t := by
     intro t ht
     obtain ⟨e, b, he, ρ, _, ⟨_, hre⟩, _⟩ := hg
     have := ev_rep hre c
     rw [ev_ok he, ht] at this
     exact this
    split at hd
    ·rename_i ht
     refine wpIn_cond (hev _ ht) ?_
     exact iha _ _ h1 r fx yy rk ρ0 w0 hra hro hy n0 yd hfn hyd Q hQo p outs hd hQ a w hg
    ·rename_i ht
     refine wpIn_cond (hev _ ht) ?_
     exact ihb _ _ h2 r fx yy rk ρ0 w0 hrb hro hy n0 yd hfn hyd Q hQo p outs hd hQ a w hg
    ·cases hd
   ·cases hm
  ·cases hm
 | block i x iha =>
  intro l0 l hm r fx yy rk ρ0 w0 hrd hro hy n0 yd hfn hyd Q hQo p outs hd hQ a w hg
  simp only [rlC] at hm
  split at hm
  ·split at hm
   ·rename_i x' h1
    simp only [yA] at hm
    subst hm
    simp only [cw, blockD] at hd
    split at hd
    ·cases hd
    ·rename_i os h2
     split at hd
     ·cases hd
     ·rename_i ps h3
      simp only [yA] at hd
      subst hd
      have hnorm : ∀ q a w, Out.normal q ∈ os.map (leave i) → GoodT ρ0 X w0 fx N q a w → Q .normal a w := by
       intro q a w hq hgq
       obtain ⟨j, hj, hgj⟩ := joinD_ok h3 (norms_mem hq) hgq
       exact hQ (.normal j) (by simp only [List.mem_append, yF]; exact .inl ⟨j, hj, rfl⟩) a w hgj
      refine wpIn_block (iha _ _ h1 r fx yy rk ρ0 w0 hrd hro hy n0 yd hfn hyd (Exit.inBlock i Q) (fun ⟨a, w, hq⟩ => hQo ⟨a, w, hq⟩) p os h2 (fun o ho a w h => ?_) a w hg)
      cases o with
      | normal q => exact hnorm q a w (by rw [yF]; exact ⟨_, ho, rfl⟩) h
      | exit j q =>
       show if j = i then _ else _
       split
       ·rename_i hj
        exact hnorm q a w (by rw [yF]; exact ⟨_, ho, by simp [leave, hj]⟩) h
       ·rename_i hj
        exact hQ (.exit j q) (uD _ (others_mem (by rw [yF]; exact ⟨_, ho, by simp [leave, hj]⟩) (by simp))) a w h
      | ret q => exact hQ (.ret q) (uD _ (others_mem (by rw [yF]; exact ⟨_, ho, rfl⟩) (by simp))) a w h
   ·cases hm
  ·cases hm
 | loop x iha =>
  intro l0 l hm r fx yy rk ρ0 w0 hrd hro hy n0 yd hfn hyd Q hQo p outs hd hQ a w hg
  simp only [rlC] at hm
  split at hm
  ·split at hm
   ·rename_i x' h1
    simp only [yA] at hm
    subst hm
    simp only [cw] at hd
    refine wpIn_loop_ghost (fun n a w => ∃ q zs, loopD fx n0 (cw call mvf iter x' fx n0 yd rk) n q = some zs ∧ (∀ z ∈ zs, z ∈ outs) ∧ GoodT ρ0 X w0 fx N q a w) 3000 ⟨p, outs, hd, fun _ h => h, hg⟩ ?_
    rintro n a' w' ⟨q, zs, h2, h3, hgq⟩
    cases n with
    | zero => simp [loopD] at h2
    | succ n =>
     simp only [loopD, andD] at h2
     split at h2
     rotate_left
     ·cases h2
     rename_i qg hqg
     have hgq' := gcD_ok hfn hqg hgq
     obtain ⟨os, h4, h5⟩ := bindL_ok h2
     refine iha _ _ h1 r fx yy rk ρ0 w0 hrd hro hy n0 yd hfn hyd _ (LetsOut_then hQo) qg os h4 (fun o ho a w h => ?_) a' w' hgq'
     obtain ⟨ys, h6, h7⟩ := h5 o ho
     cases o with
     | normal q' => exact ⟨n, vH n, q', ys, h6, fun z hz => h3 z (h7 z hz), h⟩
     | exit j q' =>
      simp only [yA] at h6
      subst h6
      exact hQ _ (h3 _ (h7 _ (by simp))) a w h
     | ret q' =>
      simp only [yA] at h6
      subst h6
      exact hQ _ (h3 _ (h7 _ (by simp))) a w h
   ·cases hm
  ·cases hm
 | rangeFunc g ps asg body iha ihb => exact cw_rfn hP hcall hiter iha ihb
 | _ => intro l0 l hm; simp [rlC] at hm
end
theorem resD_ok {p : Pt} {e : Env} (he : ∀ i, get e i = p.1.get i) {K : List V → Prop} : ∀ (ls : List LRes) (acc xs : List V), resD p ls = some xs → K (acc.reverse ++ xs) → resP p.2 e ls acc K
 | [], acc, xs, h, hK => by
  simp only [resD, yA] at h
  subst h
  simpa [resP] using hK
 | .tmp t :: r, acc, xs, h, hK => by
  simp only [resD] at h
  split at h
  ·rename_i ys hy
   simp only [yA] at h
   subst h
   simp only [resP, he]
   exact resD_ok he r _ ys hy (by simpa using hK)
  ·cases h
 | .cell a n :: r, acc, xs, h, hK => by
  simp only [resD] at h
  split at h
  ·rename_i x ys hx hy
   simp only [yA] at h
   subst h
   simp only [resP, he]
   exact load_ok (K := fun x => resP p.2 e r (x :: acc) K) hx (resD_ok he r _ ys hy (by simpa using hK))
  ·cases h
theorem argsT_get : ∀ (i : Nat) (xs : List V) (E : Tr) (j : Nat), (argsT i xs E).get j = if i ≤ j ∧ j < i + xs.length then (xs[j - i]?).getD .any else E.get j
 | i, [], E, j => by
  simp only [argsT, yZ, vD]
  rw [if_neg (by omega)]
 | i, x :: r, E, j => by
  simp only [argsT]
  rw [argsT_get (i + 1) r]
  simp only [putT, forceV_eq, yP]
  rw [Tr.get_put _ _ _ _ _ (vH i)]
  by_cases h : j = i
  ·subst h
   rw [if_neg (by omega), if_pos rfl, if_pos (by omega)]
   simp
  ·by_cases h2 : i + 1 ≤ j ∧ j < i + 1 + r.length
   ·rw [if_pos h2, if_pos (by omega), show j - i = (j - (i + 1)) + 1 by omega]
    simp
   ·rw [if_neg h2, if_neg h, if_neg (by omega)]
theorem args_get (xs : List V) (j : Nat) : get (args0 0 xs) j = (argsT 0 xs .lf).get j := by
 rw [args0_get, argsT_get]
 simp only [Nat.zero_le, if_true, Nat.sub_zero, yJ, true_and]
 split
 ·rfl
 ·rename_i h
  have : xs[j]? = none := by simpa using h
  rw [this]
  rfl
theorem body_ok (hP : P.follows .mixedOrders = true) {call : CallD} {mvf : FuncId → Option Nat} {iter : ItD} (hcall : ∀ f zas h0 mv r h', call f zas h0 mv = some (r, h') → Callable P f ∧ Fn P f zas h0 mv (fun r1 h1 => r1 = r ∧ h1 = h')) (hiter : ItOk P iter)
  {f : FuncId} {en : Ent} (hl : rlF P f en.code = some (en.code, en.rs, en.nt)) {args : List V} {h0 : List Blk} {mv : List Nat} {r : V} {h' : List Blk}
  (hd : bodyD call mvf iter en args h0 mv ((vE h0.length).filter fun k => !(hasN mv k)) = some (r, h')) : Fn P f args h0 mv (fun r1 h1 => r1 = r ∧ h1 = h') := by
 generalize hfxd : ((vE h0.length).filter fun k => !(hasN mv k)) = fx at hd
 unfold bodyD at hd
 split at hd
 ·rename_i hc
  simp only [yC, decide_eq_true_eq] at hc
  split at hd
  ·rename_i outs hcw
   unfold rlF at hl
   split at hl
   ·rename_i fn hf
    split at hl
    ·rename_i c rs' hb hres ht
     simp only [yC, Bool.not_eq_true', decide_eq_true_eq] at ht
     cases hm : rlC P fn.ntmps c en.code with
     | none => simp [hm] at hl
     | some l1 =>
      simp only [hm, yQ, yA, uE] at hl
      obtain ⟨rfl, hrs, hnt⟩ := hl
      have hfx : keepP fx h0 := keep_of hc.2
      have hmv : ∀ k, k < h0.length → k ∉ mv → k ∈ fx := by
       intro k hk hkm
       rw [← hfxd, uF]
       refine ⟨by simpa using hk, ?_⟩
       cases hh : hasN mv k with
       | true => exact absurd (hasN_iff.1 hh) hkm
       | false => rfl
      intro ρ X w vals hr ha
      have hvl := RepL_len ha
      refine (callsIn_wide (n := 0)).1 (callsIn_of_wp_marks hf hb trivial ?_)
      have hg : GoodT ρ X w fx fn.ntmps (argsT 0 args .lf, h0) { tmps := vals.toArray ++ Array.replicate (fn.ntmps - vals.toArray.size) undef, defers := [] } w :=
       ⟨args0 0 args, 0, args_get args, ρ, ⟨⟨Fr.refl _ _, fun _ _ => rfl⟩, hfx⟩, ⟨hr, args0_rep ha _⟩, by simp; omega, Marks.nil⟩
      have hend : ∀ p, finD fx h0.length en.rs p = some (r, h') → ∀ s, (∀ i, get s.e i = p.1.get i) → s.h = p.2 → ∀ a w', Good ρ X w fx fn.ntmps s a w' → ∃ v, (results fn a.tmps).run P w' = .ok v w' ∧ ∃ val r1 h1 ρ', Ending.returned v = .returned val ∧ ((r1 = r ∧ h1 = h') ∧ h0.length ≤ h1.length) ∧ Fr ρ w ρ' w' ∧ Rep ρ' X w' h1 ∧ RepV ρ' X w' r1 val ∧
        ∀ k, k < h0.length → k ∉ mv → ρ' k = ρ k := by
       rintro p hfin ⟨e, h, b⟩ he rfl a w' ⟨ρ', ⟨⟨hf1, hfx1⟩, hk1⟩, ⟨hr1, he1⟩, hN1, hd1⟩
       unfold finD at hfin
       split at hfin
       ·cases hfin
       ·rename_i xs hxs
        generalize hL : keepN h0.length p.2 (namesL xs) = L at hfin
        simp only at hfin
        split at hfin
        ·rename_i hcc
         simp only [yC] at hcc
         simp only [yA, uE] at hfin
         obtain ⟨rfl, rfl⟩ := hfin
         obtain ⟨hn, hlt, hle⟩ := numB_ok hcc.1
         obtain ⟨ys, vs, h5, h6, h7⟩ := resP_run hr1 he1 (K := fun ys => ys = xs) fn.results.toList rs' [] [] hres trivial (by rw [hrs]; exact resD_ok he _ [] xs hxs rfl)
         simp only [vC, vB] at h5
         subst h5
         refine ⟨tupU vs, results_run ht.1 h7, _, _, _, calleeLoc ρ' L, rfl, ⟨⟨rfl, rfl⟩, ?_⟩, hf1.trans gc_fr, gc_rep hr1 hn hlt, gc_val (tup_rep h6), fun k hk hkm => ?_⟩
         ·rw [yH, ← hL]
          simp [keepN]
         ·rw [callee_at (by rw [← hL]; exact keepN_get hk)]
          exact hfx1 k (hmv k hk hkm)
        ·cases hfin
      have hone : ∀ o ∈ outs, (∃ p, o = .normal p ∨ o = .ret p) ∧ finD fx h0.length en.rs o.pt = some (r, h') := by
       intro o ho
       unfold endD at hd
       split at hd
       ·simp only [uH] at ho; subst ho; exact ⟨⟨_, .inl rfl⟩, hd⟩
       ·simp only [uH] at ho; subst ho; exact ⟨⟨_, .inr rfl⟩, hd⟩
       ·cases hd
      refine cw_sound (P := P) (X := X) (N := fn.ntmps) hP hcall hiter c _ _ hm none fx (fun _ _ _ _ => False) none ρ w (.inl rfl) trivial (fun _ => YOk_none) h0.length _ (fun k hk => by rw [← hfxd, uF] at hk; simpa using hk.1)
       (fun _ _ _ _ _ _ _ h _ => by simp at h) _ ?_ _ outs hcw (fun o ho a w' hgd => ?_) _ _ hg
      ·rintro ⟨a, w', val, _, _, _, hq, _⟩
       cases hq
      ·obtain ⟨⟨p, hp⟩, hfin⟩ := hone o ho
       obtain ⟨e, b, he, hgd⟩ := hgd
       rcases hp with rfl | rfl
       ·exact leaves_of (hend p hfin ⟨e, p.2, b⟩ he rfl) a.defers a w' rfl hgd
       ·exact leaves_of (hend p hfin ⟨e, p.2, b⟩ he rfl) a.defers a w' rfl hgd
    ·cases hl
   ·cases hl
  ·cases hd
 ·cases hd
theorem heapsD_ok : ∀ {outs : List Out} {hs : List (List Blk)}, heapsD outs = some hs → ∀ o ∈ outs, (∃ p, (o = .normal p ∨ o = .ret p) ∧ p.2 ∈ hs)
 | [], _, _, o, ho => by simp at ho
 | x :: r, hs, h, o, ho => by
  simp only [heapsD] at h
  split at h
  ·rename_i p l hl
   simp only [yA] at h
   subst h
   rcases yI.1 ho with rfl | ho
   ·exact ⟨p, .inl rfl, by simp⟩
   ·obtain ⟨q, h1, h2⟩ := heapsD_ok hl o ho
    exact ⟨q, h1, by simp [h2]⟩
  ·rename_i p l hl
   simp only [yA] at h
   subst h
   rcases yI.1 ho with rfl | ho
   ·exact ⟨p, .inr rfl, by simp⟩
   ·obtain ⟨q, h1, h2⟩ := heapsD_ok hl o ho
    exact ⟨q, h1, by simp [h2]⟩
  ·cases h
theorem ibody_ok (hP : P.follows .mixedOrders = true) {call : CallD} {mvf : FuncId → Option Nat} {iter : ItD} (hcall : ∀ f zas h0 mv r h', call f zas h0 mv = some (r, h') → Callable P f ∧ Fn P f zas h0 mv (fun r1 h1 => r1 = r ∧ h1 = h')) (hiter : ItOk P iter)
  {f : FuncId} {en : Ent} (hl : rlF P f en.code = some (en.code, en.rs, en.nt)) {args : List V} {fx : List Nat} {k : Nat} {yd : YtD} {h : List Blk} {hs : List (List Blk)}
  (hd : ibodyD call mvf iter en args fx k yd h = some hs) {Y : Yt} {K : List Blk → Prop}
  (hY : ∀ xs E h b rs Z, yd xs (E, h) = some rs → (∀ r ∈ rs, AT b r.2 (Z r.1)) → Y xs ⟨E.toEnv, h, b⟩ Z) (hK : ∀ h' ∈ hs, K h') : Iter P f args fx k Y h K := by
 unfold ibodyD at hd
 split at hd
 ·rename_i hc
  simp only [yC, decide_eq_true_eq, List.isEmpty_iff, vG, Nat.blt_eq] at hc
  split at hd
  ·rename_i outs hcw
   unfold rlF at hl
   split at hl
   ·rename_i fn hf
    split at hl
    ·rename_i c rs' hb hres ht
     simp only [yC, Bool.not_eq_true', decide_eq_true_eq] at ht
     cases hm : rlC P fn.ntmps c en.code with
     | none => simp [hm] at hl
     | some l1 =>
      simp only [hm, yQ, yA, uE] at hl
      obtain ⟨rfl, hrs, hnt⟩ := hl
      have hnil : fn.results.toList = [] := by
       cases hl : fn.results.toList with
       | nil => rfl
       | cons r rs =>
        rw [hrs, hc.1.2] at hres
        rw [hl] at hres
        simp only [rlRes] at hres
        split at hres <;> simp at hres
      intro ρ X w vals hr ha hfx hYk
      have hvl := RepL_len ha
      refine (callsIn_wide (n := 0)).1 (callsIn_of_wp_marks hf hb trivial ?_)
      have hg : GoodT ρ X w fx fn.ntmps (argsT 0 args .lf, h) { tmps := vals.toArray ++ Array.replicate (fn.ntmps - vals.toArray.size) undef, defers := [] } w :=
       ⟨args0 0 args, 0, args_get args, ρ, ⟨⟨Fr.refl _ _, fun _ _ => rfl⟩, hfx⟩, ⟨hr, args0_rep ha _⟩, by simp; omega, Marks.nil⟩
      have hend : ∀ s, K s.h → ∀ a w', Good ρ X w fx fn.ntmps s a w' → ∃ v, (results fn a.tmps).run P w' = .ok v w' ∧ ∃ val h' ρ', Ending.returned v = .returned val ∧ K h' ∧ (Fr ρ w ρ' w' ∧ Rep ρ' X w' h') ∧ (∀ j ∈ fx, ρ' j = ρ j) ∧ keepP fx h' := by
       intro s hK a w' hgood
       obtain ⟨ρ', ⟨⟨hf1, hfx1⟩, hk1⟩, ⟨hr1, he1⟩, hN1, hd1⟩ := hgood
       exact ⟨tupU [], results_run (us := []) (by rw [hnil]; simp) (by rw [hnil]; trivial), _, s.h, ρ', rfl, hK, ⟨hf1, hr1⟩, hfx1, hk1⟩
      refine cw_sound (P := P) (X := X) (N := fn.ntmps) hP hcall hiter c _ _ hm none fx (fun k' xs s Z => k' = k ∧ ∃ E : Tr, (∀ i, get s.e i = E.get i) ∧ Y xs ⟨E.toEnv, s.h, s.b⟩ Z) none ρ w (.inl rfl) trivial (fun k' => ?_) h.length _ hc.2.2 ?_ _ ?_ _ outs hcw (fun o ho a w' hgd => ?_) _ _ hg
      ·intro ρ1 w1 s tmps xs vs Z h1 h2 h3 h5 h6 h7
       obtain ⟨rfl, E, hE, h7⟩ := h7
       exact hYk ρ1 w1 ⟨E.toEnv, s.h, s.b⟩ tmps xs vs Z h1 h2 h3 (fun i => by rw [toEnv_get, ← hE]; exact h5 i) h6 h7
      ·intro k' xs s E rs Z hs hrs hZ
       simp only at hrs
       split at hrs
       ·rename_i hk
        rw [Nat.beq_eq] at hk
        exact ⟨hk, E, hs, hY xs E s.h s.b rs Z hrs hZ⟩
       ·cases hrs
      ·rintro ⟨a, w', val, _, _, hq, _⟩
       cases hq
      ·obtain ⟨p, hp, hin⟩ := heapsD_ok hd o ho
       obtain ⟨e, b, he, hgd⟩ := hgd
       rcases hp with rfl | rfl
       ·exact leaves_of (hend ⟨e, p.2, b⟩ (hK _ hin)) a.defers a w' rfl hgd
       ·exact leaves_of (hend ⟨e, p.2, b⟩ (hK _ hin)) a.defers a w' rfl hgd
    ·cases hl
   ·cases hl
  ·cases hd
 ·cases hd
theorem findM_ok {f : FuncId} {zas : List V} {h0 : List Blk} {r : V} {h : List Blk} : ∀ {M : List Memo}, findM f zas h0 M = some (r, h) → ∃ m ∈ M, m.f = f ∧ m.zas = zas ∧ m.h0 = h0 ∧ m.r = r ∧ m.h = h
 | [], hf => by simp [findM] at hf
 | m :: l, hf => by
  simp only [findM] at hf
  split at hf
  ·rename_i hc
   simp only [yC, Nat.beq_eq] at hc
   simp only [yA, uE] at hf
   exact ⟨m, by simp, hc.1, eqL_ok hc.2.1, eqBs_ok hc.2.2, hf.1, hf.2⟩
  ·obtain ⟨m', h1, h2⟩ := findM_ok hf
   exact ⟨m', by simp [h1], h2⟩
def okL (P : Program) : Nat → List (Option Ent) → Prop
 | _, [] => True
 | i, none :: r => okL P (i + 1) r
 | i, some en :: r => rlF P i en.code = some (en.code, en.rs, en.nt) ∧ okL P (i + 1) r
theorem okL_get : ∀ {T : List (Option Ent)} {i : Nat}, okL P i T → ∀ (f : Nat) (en : Ent), T[f]? = some (some en) → rlF P (i + f) en.code = some (en.code, en.rs, en.nt)
 | none :: r, i, h, 0, en, he => by simp at he
 | some e :: r, i, h, 0, en, he => by
  simp only [yY, yA] at he
  subst he
  exact h.1
 | none :: r, i, h, f + 1, en, he => by
  have := okL_get (i := i + 1) h f en (by simpa using he)
  rwa [show i + (f + 1) = i + 1 + f by omega]
 | some e :: r, i, h, f + 1, en, he => by
  have := okL_get (i := i + 1) h.2 f en (by simpa using he)
  rwa [show i + (f + 1) = i + 1 + f by omega]
 | [], _, _, _, _, he => by simp at he
def Memo.ok (P : Program) (m : Memo) : Prop := Callable P m.f ∧ Fn P m.f m.zas m.h0 [] (fun r h => r = m.r ∧ h = m.h)
theorem fiD_ok (hP : P.follows .mixedOrders = true) {T : List (Option Ent)} (hT : okL P 0 T) {M : List Memo} (hM : ∀ m ∈ M, m.ok P) : ∀ d : Nat,
  (∀ (f : FuncId) (zas : List V) (h0 : List Blk) (mv : List Nat) (r : V) (h' : List Blk), (fiD T M d).1 f zas h0 mv = some (r, h') → Callable P f ∧ Fn P f zas h0 mv (fun r1 h1 => r1 = r ∧ h1 = h')) ∧ ItOk P (fiD T M d).2
 | 0 => ⟨fun _ _ _ _ _ _ h => by simp [fiD] at h, fun _ _ _ _ _ _ _ h => by simp [fiD] at h⟩
 | d + 1 => by
  obtain ⟨ih1, ih2⟩ := fiD_ok hP hT hM d
  refine ⟨fun f zas h0 mv r h' h => ?_, fun f zas fx k yd h hs hd => ?_⟩
  ·simp only [fiD] at h
   split at h
   ·rename_i x hx
    simp only [yA] at h
    subst h
    split at hx
    ·rename_i hmv
     have hmv' : mv = [] := by simpa using hmv
     subst hmv'
     obtain ⟨m, h1, rfl, rfl, rfl, rfl, rfl⟩ := findM_ok hx
     exact hM m h1
    ·cases hx
   ·split at h
    ·rename_i en hen
     have hl := okL_get hT f en hen
     rw [yJ] at hl
     exact ⟨rlF_callable hl, body_ok hP ih1 ih2 hl h⟩
    ·cases h
  ·simp only [fiD] at hd
   split at hd
   ·rename_i en hen
    have hl := okL_get hT f en hen
    rw [yJ] at hl
    exact ⟨rlF_callable hl, fun Y K hY hK => ibody_ok hP ih1 ih2 hl hd hY hK⟩
   ·cases hd
theorem fnD_ok (hP : P.follows .mixedOrders = true) {T : List (Option Ent)} (hT : okL P 0 T) {M : List Memo} (hM : ∀ m ∈ M, m.ok P) (d : Nat) (f : FuncId) (zas : List V) (h0 : List Blk) (mv : List Nat) (r : V) (h' : List Blk)
  (h : fnD T M d f zas h0 mv = some (r, h')) : Callable P f ∧ Fn P f zas h0 mv (fun r1 h1 => r1 = r ∧ h1 = h') := (fiD_ok hP hT hM d).1 f zas h0 mv r h' h
end
end Go.Fx
