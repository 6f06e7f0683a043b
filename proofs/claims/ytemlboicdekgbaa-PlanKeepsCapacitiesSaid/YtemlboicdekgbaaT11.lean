import Derived.Test.YtemlboicdekgbaaFxMap
import Derived.Test.YtemlboicdekgbaaFxRunDefs
import Derived.Test.YtemlboicdekgbaaPLow
set_option linter.unusedVariables false
set_option linter.unusedSimpArgs false
set_option linter.unusedSectionVars false
namespace Go.Fx
def rdK (x : V) (bn : List Nat) : List Nat :=
  match x with
  | .ptr k _ _ => k :: bn
  | _ => bn
def tupK (x : V) (K : List V → Prop) : Prop :=
  match x with
  | .tup vs => K vs
  | _ => False
def nilK (x : V) (K : V → Prop) : Prop :=
  match x with
  | .ptr k i f => K (.ptr k i f)
  | .clo f cs => K (.clo f cs)
  | _ => False
def cloK (x : V) (K : FuncId → List V → Prop) : Prop :=
  match x with
  | .clo g cs => K g cs
  | _ => False
def lookM (h : List Blk) (kd : TypeDesc) (key : Value) (z : Value) (ok : Bool) (m : V) (K : V → Prop) : Prop :=
  match m with
  | .v (.map none) => lookK (some none) z ok K
  | m => mapK h m fun _ es _ => lookK (mfind kd key es 0) z ok K
mutual
theorem kill_nil : ∀ x : V, kill [] x = x
  | .any => rfl
  | .v _ => rfl
  | .ro _ _ => rfl
  | .bro _ _ => rfl
  | .full _ _ => rfl
  | .rp _ _ _ _ => rfl
  | .sl _ _ _ => by simp [kill]
  | .ptr _ _ _ => by simp [kill]
  | .mp _ => by simp [kill]
  | .itr _ => by simp [kill]
  | .agg cs => by simp [kill, kills_nil cs]
  | .tup cs => by simp [kill, kills_nil cs]
  | .clo _ cs => by simp [kill, kills_nil cs]
theorem kills_nil : ∀ xs : List V, kills [] xs = xs
  | [] => rfl
  | x :: r => by simp [kills, kill_nil x, kills_nil r]
end
theorem killE_nil : ∀ e : Env, killE [] e = e
  | [] => rfl
  | (_, x) :: r => by simp [killE, kill_nil x, killE_nil r]
theorem killB_nil (l : List Blk) : l.map (killB []) = l := by
  have : killB [] = id := by
    funext b
    cases b <;> simp [killB, kills_nil, kill_nil, killE_nil, funext kills_nil]
  simp [this]
section
variable {cx : Cx} {e : Env} {h : List Blk} {b : Nat} {K : V → St → Prop} {Ks : St → Prop} {N R : St → Prop} {X : Nat → St → Prop} {d : Option Nat} {op : LOp}
theorem kA {d : Nat} {x : V} : St.put ⟨e, h, b⟩ (some d) x = ⟨(d, x) :: e, h, b⟩ := rfl
theorem kB {x : V} : St.put ⟨e, h, b⟩ none x = ⟨e, h, b⟩ := rfl
theorem zf : aOps cx [] ⟨e, h, b⟩ Ks = Ks ⟨e, h, b⟩ := rfl
theorem zg {r : List LOper} : aOps cx (⟨d, op, none⟩ :: r) ⟨e, h, b⟩ Ks = aOp cx op ⟨e, h, b⟩ fun x s' => aOps cx r (s'.put d x) Ks := rfl
theorem zh {g : Nat} {w : Bool} {r : List LOper} : aOps cx (⟨d, op, some (g, w)⟩ :: r) ⟨e, h, b⟩ Ks = guardP (get e g) w
      (aOp cx op ⟨(g, .b w) :: e, h, b⟩ fun x s' => aOps cx r (s'.put d x) Ks)
      (aOps cx r (St.put ⟨(g, .b !w) :: e, h, b⟩ d (.v (.tuple #[]))) Ks)
      (aOps cx r (St.put ⟨e, h, b⟩ d (.v (.tuple #[]))) Ks) := rfl
theorem qa {x : Operand} {bn : List Nat} : rdB (.mov x) e bn = bn := rfl
theorem zi {x : Operand} : aOp cx (.mov x) ⟨e, h, b⟩ K = K (ev e x) ⟨e, h, b⟩ := rfl
theorem qb {c x y : Operand} {bn : List Nat} : rdB (.pick c x y) e bn = bn := rfl
theorem zj {c x y : Operand} : aOp cx (.pick c x y) ⟨e, h, b⟩ K = brV (ev e c) (K (ev e x) ⟨e, h, b⟩) (K (ev e y) ⟨e, h, b⟩) := rfl
theorem zk {j : Nat} {x : Operand} : aOp cx (.box j x) ⟨e, h, b⟩ K = optK (cells? (ev e x)) fun cs => freshP h (b + j) ∧ K (.ptr (b + j) 0 0) ⟨e, h.set (b + j) (.var cs), b⟩ := rfl
theorem zl {j : Nat} {z : Value} : aOp cx (.alloc j z) ⟨e, h, b⟩ K = optK (cells? (ofConst z)) fun cs => freshP h (b + j) ∧ K (.ptr (b + j) 0 0) ⟨e, h.set (b + j) (.var cs), b⟩ := rfl
theorem zm {n : Option Nat} {x : Operand} : aOp cx (.load n x) ⟨e, h, b⟩ K = loadP h n (ev e x) fun y => K y ⟨e, h, b⟩ := rfl
theorem zn {n : Nat} {x y : Operand} : aOp cx (.store n x y) ⟨e, h, b⟩ K = optK (cells? (ev e y)) fun cs => storeP cx.bn h n (ev e x) cs fun h => K (.v (.tuple #[])) ⟨e, h, b⟩ := rfl
theorem qc {n : Nat} {x : Operand} {bn : List Nat} : rdB (.fld n x) e bn = bn := rfl
theorem zo {n : Nat} {x : Operand} : aOp cx (.fld n x) ⟨e, h, b⟩ K = fldP n (ev e x) fun y => K y ⟨e, h, b⟩ := rfl
theorem qd {n : Nat} {x i : Operand} {bn : List Nat} : rdB (.idx n x i) e bn = bn := rfl
theorem zp {n : Nat} {x i : Operand} : aOp cx (.idx n x i) ⟨e, h, b⟩ K = intK (ev e i) fun _ m => idxP h n m (ev e x) fun y => K y ⟨e, h, b⟩ := rfl
theorem qe {o : BinOp} {ex : Bool} {x y : Operand} {bn : List Nat} : rdB (.bin o ex x y) e bn = bn := rfl
theorem zq {o : BinOp} {ex : Bool} {x y : Operand} : aOp cx (.bin o ex x y) ⟨e, h, b⟩ K = intK (ev e x) fun k a => intK (ev e y) fun k' c => k' = k ∧ binInt o ex k a c fun z => K z ⟨e, h, b⟩ := rfl
theorem qf {x : Operand} {bn : List Nat} : rdB (.len x) e bn = bn := rfl
theorem zr {x : Operand} : aOp cx (.len x) ⟨e, h, b⟩ K = lenP (ev e x) fun y => K y ⟨e, h, b⟩ := rfl
theorem qh {x : Operand} {bn : List Nat} : rdB (.lens x) e bn = bn := rfl
theorem zt {x : Operand} : aOp cx (.lens x) ⟨e, h, b⟩ K = lensP (ev e x) fun y => K y ⟨e, h, b⟩ := rfl
theorem qi {x : Operand} {bn : List Nat} : rdB (.not x) e bn = bn := rfl
theorem zu {x : Operand} : aOp cx (.not x) ⟨e, h, b⟩ K = boolK (ev e x) fun t => K (.b (!t)) ⟨e, h, b⟩ := rfl
theorem qj {x : Operand} {bn : List Nat} : rdB (.neg x) e bn = bn := rfl
theorem zv {x : Operand} : aOp cx (.neg x) ⟨e, h, b⟩ K = intK (ev e x) fun k a => K (.v (.int k (k.wrap (-a)))) ⟨e, h, b⟩ := rfl
theorem qk {ex : Bool} {k : IntKind} {x : Operand} {bn : List Nat} : rdB (.conv ex k x) e bn = bn := rfl
theorem zw {ex : Bool} {k : IntKind} {x : Operand} : aOp cx (.conv ex k x) ⟨e, h, b⟩ K = intK (ev e x) fun _ a => if ex then (lo k ≤ a ∧ a ≤ hi k) ∧ K (.v (.int k a)) ⟨e, h, b⟩ else K (.v (.int k (k.wrap a))) ⟨e, h, b⟩ := rfl
theorem ql {mx : Bool} {x y : Operand} {bn : List Nat} : rdB (.minmax mx x y) e bn = bn := rfl
theorem zx {mx : Bool} {x y : Operand} : aOp cx (.minmax mx x y) ⟨e, h, b⟩ K = intK (ev e x) fun k a => intK (ev e y) fun k' c => k' = k ∧ K (.v (.int k (if mx then max a c else min a c))) ⟨e, h, b⟩ := rfl
theorem qm {f : FuncId} {cs : List Operand} {bn : List Nat} : rdB (.fn f cs) e bn = bn := rfl
theorem zy {f : FuncId} {cs : List Operand} : aOp cx (.fn f cs) ⟨e, h, b⟩ K = K (.clo f (cs.map (ev e))) ⟨e, h, b⟩ := rfl
theorem qn {off : Nat} {n : Option Nat} {x : Operand} {bn : List Nat} : rdB (.field off n x) e bn = bn := rfl
theorem zz {off : Nat} {n : Option Nat} {x : Operand} : aOp cx (.field off n x) ⟨e, h, b⟩ K = aggK (ev e x) fun cs => loadCs n off cs fun y => K y ⟨e, h, b⟩ := rfl
theorem qo {z : Nat} {x : Operand} {l u m : Option Operand} {bn : List Nat} : rdB (.slice z x l u m) e bn = bn := rfl
theorem zA {z : Nat} {x : Operand} {l u m : Option Operand} : aOp cx (.slice z x l u m) ⟨e, h, b⟩ K = optI (l.map (ev e)) fun l => optI (u.map (ev e)) fun u => optI (m.map (ev e)) fun m => slcP h z (ev e x) l u m fun y => K y ⟨e, h, b⟩ := rfl
theorem qp {z : List Value} {ps : List (Nat × Nat × Operand)} {bn : List Nat} : rdB (.build z ps) e bn = bn := rfl
theorem zB {z : List Value} {ps : List (Nat × Nat × Operand)} : aOp cx (.build z ps) ⟨e, h, b⟩ K = buildP e (z.map .v) ps fun y => K y ⟨e, h, b⟩ := rfl
theorem qq {neg : Bool} {x y : Operand} {bn : List Nat} : rdB (.eqb neg x y) e bn = bn := rfl
theorem zC {neg : Bool} {x y : Operand} : aOp cx (.eqb neg x y) ⟨e, h, b⟩ K = boolK (ev e x) fun a => boolK (ev e y) fun c => K (.b (if neg then a != c else a == c)) ⟨e, h, b⟩ := rfl
theorem qr {neg : Bool} {ks : List (Nat × TypeDesc)} {x y : Operand} {bn : List Nat} : rdB (.eqf neg ks x y) e bn = bn := rfl
theorem zD {neg : Bool} {ks : List (Nat × TypeDesc)} {x y : Operand} : aOp cx (.eqf neg ks x y) ⟨e, h, b⟩ K = optK (aggC (ev e x)) fun xs => optK (aggC (ev e y)) fun ys => eqFs xs ys ks fun t => K (.b (if neg then !t else t)) ⟨e, h, b⟩ := rfl
theorem qs {o : BinOp} {x y : Operand} {bn : List Nat} : rdB (.shift o x y) e bn = bn := rfl
theorem zE {o : BinOp} {x y : Operand} : aOp cx (.shift o x y) ⟨e, h, b⟩ K = intK (ev e x) fun k a => intK (ev e y) fun _ c => shiftInt o k a c fun z => K z ⟨e, h, b⟩ := rfl
theorem zF {neg : Bool} {x : Operand} {v : Value} : aOp cx (.eqn neg x (.const v)) ⟨e, h, b⟩ K = match ofConst v with | .v _ => eqnP (ev e x) fun t => K (.b (if neg then !t else t)) ⟨e, h, b⟩ | _ => False := rfl
theorem zG {j sz n : Nat} {z : List Value} {ps : List (Nat × Operand)} : aOp cx (.lits j sz n z ps) ⟨e, h, b⟩ K = litsP e sz (List.replicate n (z.map .v)) ps fun els => freshP h (b + j) ∧ K (.sl (b + j) 0 n) ⟨e, h.set (b + j) (.arr sz els), b⟩ := rfl
theorem zH {j sz bytes : Nat} {z : List Value} {l c : Operand} : aOp cx (.mk j sz bytes z l c) ⟨e, h, b⟩ K = intK (ev e l) fun _ a => intK (ev e c) fun _ d => ((0 ≤ a ∧ a ≤ d) ∧ (bytes : Int) * d ≤ 281474976710656 ∧ d ≤ 9223372036854775807) ∧ freshP h (b + j) ∧ K (.sl (b + j) 0 a.toNat) ⟨e, h.set (b + j) (.arr sz (List.replicate a.toNat (z.map .v))), b⟩ := rfl
theorem zI {j sz bytes : Nat} {x y : Operand} : aOp cx (.append j sz bytes x y) ⟨e, h, b⟩ K = viewK h (ev e y) fun sz' new => (new = [] ∨ sz' = sz) ∧ appP cx.fx cx.bn (b + j) sz bytes ⟨e, h, b⟩ (ev e x) new K := rfl
theorem zJ {sz : Nat} {x y : Operand} : aOp cx (.copy sz x y) ⟨e, h, b⟩ K = viewK h (ev e y) fun sz' new => (new = [] ∨ sz' = sz) ∧ copyP cx.bn sz ⟨e, h, b⟩ (ev e x) new K := rfl
theorem zK {j sz bytes : Nat} {z : List Value} {l c : Operand} : aOp cx (.mkv j sz bytes z l c) ⟨e, h, b⟩ K = intK (ev e l) fun _ a => intK (ev e c) fun _ c => ((0 ≤ a ∧ a ≤ c) ∧ (bytes : Int) * c ≤ 281474976710656 ∧ c ≤ 9223372036854775807) ∧ freshP h (b + j) ∧ K (.sl (b + j) 0 a.toNat) ⟨e, h.set (b + j) (.arv sz (List.replicate a.toNat (z.map .v))), b⟩ := rfl
theorem zL {kd : TypeDesc} {m k x : Operand} : aOp cx (.mset kd m k x) ⟨e, h, b⟩ K = keyK kd (ev e k) fun key => mapK h (ev e m) fun c es t => c ∉ cx.bn ∧ msetK (mfind kd key es 0) key (ev e x) es t fun B => K (.v (.tuple #[])) ⟨e, h.set c B, b⟩ := rfl
theorem zM {j : Nat} : aOp cx (.mkmap j none) ⟨e, h, b⟩ K = (True ∧ freshP h (b + j) ∧ K (.mp (b + j)) ⟨e, h.set (b + j) (.map [] 0), b⟩) := rfl
theorem zN {kd : TypeDesc} {z : Value} {ok : Bool} {m k : Operand} : aOp cx (.lookup kd z ok m k) ⟨e, h, b⟩ K = keyK kd (ev e k) fun key => lookM h kd key z ok (ev e m) fun x => K x ⟨e, h, b⟩ := rfl
theorem zO {m : Operand} : aOp cx (.mlen m) ⟨e, h, b⟩ K = mapK h (ev e m) fun _ es _ => K (.i es.length) ⟨e, h, b⟩ := rfl
theorem zP {j : Nat} {m : Operand} : aOp cx (.range j m) ⟨e, h, b⟩ K = mapK h (ev e m) fun _ _ c => freshP h (b + j) ∧ K (.ptr (b + j) 0 0) ⟨e, h.set (b + j) (.it (ev e m) c [] c), b⟩ := rfl
theorem zQ {i : Operand} : aOp cx (.next i) ⟨e, h, b⟩ K = itK h (ev e i) fun c m since seen last => mapK h m fun _ es t => c ∉ cx.bn ∧ nextK es since seen last (K (.tup [.b false]) ⟨e, h, b⟩) fun key x born => K (.tup [.b true, .v key, x]) ⟨e, h.set c (.it m since (seen ++ [born]) t), b⟩ := rfl
theorem zR {i : Operand} : aOp cx (.entry i) ⟨e, h, b⟩ K = itK h (ev e i) fun _ m _ seen last => mapK h m fun _ es c => last = c ∧ optK seen.getLast? fun st => entK (es.find? fun q => q.2.2 == st) fun x => K x ⟨e, h, b⟩ := rfl
theorem qt {n sz : Nat} {x i : Operand} {bn : List Nat} : rdB (.prim (.pidx n sz) [x, i]) e bn = bn := rfl
theorem zS {n sz : Nat} {x i : Operand} : aOp cx (.prim (.pidx n sz) [x, i]) ⟨e, h, b⟩ K = intK (ev e i) fun _ j => (0 ≤ j ∧ j < n) ∧ fldP (j.toNat * sz) (ev e x) fun y => K y ⟨e, h, b⟩ := rfl
theorem qu {n : Nat} {x : Operand} {bn : List Nat} : rdB (.prim (.pslc n false false false) [x]) e bn = bn := rfl
theorem zT {n : Nat} {x : Operand} : aOp cx (.prim (.pslc n false false false) [x]) ⟨e, h, b⟩ K = slcAP h n (ev e x) none none none fun y => K y ⟨e, h, b⟩ := rfl
theorem qv {n : Nat} {x l : Operand} {bn : List Nat} : rdB (.prim (.pslc n true false false) [x, l]) e bn = bn := rfl
theorem zU {n : Nat} {x l : Operand} : aOp cx (.prim (.pslc n true false false) [x, l]) ⟨e, h, b⟩ K = intK (ev e l) fun _ l => slcAP h n (ev e x) (some l) none none fun y => K y ⟨e, h, b⟩ := rfl
theorem qw {n : Nat} {x u : Operand} {bn : List Nat} : rdB (.prim (.pslc n false true false) [x, u]) e bn = bn := rfl
theorem zV {n : Nat} {x u : Operand} : aOp cx (.prim (.pslc n false true false) [x, u]) ⟨e, h, b⟩ K = intK (ev e u) fun _ u => slcAP h n (ev e x) none (some u) none fun y => K y ⟨e, h, b⟩ := rfl
theorem qx {n : Nat} {x l u : Operand} {bn : List Nat} : rdB (.prim (.pslc n true true false) [x, l, u]) e bn = bn := rfl
theorem zW {n : Nat} {x l u : Operand} : aOp cx (.prim (.pslc n true true false) [x, l, u]) ⟨e, h, b⟩ K = intK (ev e l) fun _ l => intK (ev e u) fun _ u => slcAP h n (ev e x) (some l) (some u) none fun y => K y ⟨e, h, b⟩ := rfl
theorem qy {n : Nat} {x l u m : Operand} {bn : List Nat} : rdB (.prim (.pslc n true true true) [x, l, u, m]) e bn = bn := rfl
theorem zX {n : Nat} {x l u m : Operand} : aOp cx (.prim (.pslc n true true true) [x, l, u, m]) ⟨e, h, b⟩ K = intK (ev e l) fun _ l => intK (ev e u) fun _ u => intK (ev e m) fun _ m => slcAP h n (ev e x) (some l) (some u) (some m) fun y => K y ⟨e, h, b⟩ := rfl
theorem qz {neg : Bool} {x y : Operand} {bn : List Nat} : rdB (.prim (.peq neg) [x, y]) e bn = bn := rfl
theorem zY {neg : Bool} {x y : Operand} : aOp cx (.prim (.peq neg) [x, y]) ⟨e, h, b⟩ K = peqP (ev e x) (ev e y) fun t => K (.b (if neg then !t else t)) ⟨e, h, b⟩ := rfl
theorem qA {n sz : Nat} {x i : Operand} {bn : List Nat} : rdB (.prim (.aidx n sz true) [x, i]) e bn = bn := rfl
theorem zZ {n sz : Nat} {x i : Operand} : aOp cx (.prim (.aidx n sz true) [x, i]) ⟨e, h, b⟩ K = intK (ev e i) fun _ j => (0 ≤ j ∧ j < n) ∧ aggK (ev e x) fun cs => loadCs (some sz) (j.toNat * sz) cs fun y => K y ⟨e, h, b⟩ := rfl
theorem qB {n sz : Nat} {x i : Operand} {bn : List Nat} : rdB (.prim (.aidx n sz false) [x, i]) e bn = bn := rfl
theorem ka {n sz : Nat} {x i : Operand} : aOp cx (.prim (.aidx n sz false) [x, i]) ⟨e, h, b⟩ K = intK (ev e i) fun _ j => (0 ≤ j ∧ j < n) ∧ aggK (ev e x) fun cs => loadCs none (j.toNat * sz) cs fun y => K y ⟨e, h, b⟩ := rfl
theorem qC {neg : Bool} {ks : List (Nat × TypeDesc)} {x y : Operand} {bn : List Nat} : rdB (.prim (.aeq neg ks) [x, y]) e bn = bn := rfl
theorem kc {neg : Bool} {ks : List (Nat × TypeDesc)} {x y : Operand} : aOp cx (.prim (.aeq neg ks) [x, y]) ⟨e, h, b⟩ K = optK (aggC (ev e x)) fun xs => optK (aggC (ev e y)) fun ys => eqFs xs ys ks fun t => K (.b (if neg then !t else t)) ⟨e, h, b⟩ := rfl
theorem qD {x i : Operand} {bn : List Nat} : rdB (.prim .sidx [x, i]) e bn = bn := rfl
theorem ke {x i : Operand} : aOp cx (.prim .sidx [x, i]) ⟨e, h, b⟩ K = strK (ev e x) fun t => intK (ev e i) fun _ j => 0 ≤ j ∧ optK t[j.toNat]? fun c => K (.v (.int .u8 c.toNat)) ⟨e, h, b⟩ := rfl
theorem qE {x : Operand} {bn : List Nat} : rdB (.prim (.sslc false false) [x]) e bn = bn := rfl
theorem kf {x : Operand} : aOp cx (.prim (.sslc false false) [x]) ⟨e, h, b⟩ K = strK (ev e x) fun t => sslcP t none none fun y => K y ⟨e, h, b⟩ := rfl
theorem qF {x l : Operand} {bn : List Nat} : rdB (.prim (.sslc true false) [x, l]) e bn = bn := rfl
theorem kg {x l : Operand} : aOp cx (.prim (.sslc true false) [x, l]) ⟨e, h, b⟩ K = strK (ev e x) fun t => intK (ev e l) fun _ l => sslcP t (some l) none fun y => K y ⟨e, h, b⟩ := rfl
theorem qG {x u : Operand} {bn : List Nat} : rdB (.prim (.sslc false true) [x, u]) e bn = bn := rfl
theorem kh {x u : Operand} : aOp cx (.prim (.sslc false true) [x, u]) ⟨e, h, b⟩ K = strK (ev e x) fun t => intK (ev e u) fun _ u => sslcP t none (some u) fun y => K y ⟨e, h, b⟩ := rfl
theorem qH {x l u : Operand} {bn : List Nat} : rdB (.prim (.sslc true true) [x, l, u]) e bn = bn := rfl
theorem ki {x l u : Operand} : aOp cx (.prim (.sslc true true) [x, l, u]) ⟨e, h, b⟩ K = strK (ev e x) fun t => intK (ev e l) fun _ l => intK (ev e u) fun _ u => sslcP t (some l) (some u) fun y => K y ⟨e, h, b⟩ := rfl
theorem qI {o : BinOp} {x y : Operand} {bn : List Nat} : rdB (.prim (.sbin o) [x, y]) e bn = bn := rfl
theorem kj {o : BinOp} {x y : Operand} : aOp cx (.prim (.sbin o) [x, y]) ⟨e, h, b⟩ K = strK (ev e x) fun t => strK (ev e y) fun u => sbinP o t u fun y => K y ⟨e, h, b⟩ := rfl
theorem qJ {mx : Bool} {x : Operand} {xr : List Operand} {bn : List Nat} : rdB (.prim (.mm mx) (x :: xr)) e bn = bn := rfl
theorem kk {mx : Bool} {x : Operand} {xr : List Operand} : aOp cx (.prim (.mm mx) (x :: xr)) ⟨e, h, b⟩ K = mmP mx (ev e x) (xr.map (ev e)) fun y => K y ⟨e, h, b⟩ := rfl
theorem kn {sz j : Nat} {z : List Value} {x : Operand} : aOp cx (.eff (.clr sz z) j [x]) ⟨e, h, b⟩ K = clrP cx.bn sz z (ev e x) ⟨e, h, b⟩ K := rfl
theorem ko {ks : List (Nat × TypeDesc)} {z : Value} {ok : Bool} {j : Nat} {m k : Operand} : aOp cx (.eff (.look ks z ok) j [m, k]) ⟨e, h, b⟩ K = keyA ks (ev e k) fun us => lookMA h ks us z ok (ev e m) fun x => K x ⟨e, h, b⟩ := rfl
theorem kp {ks : List (Nat × TypeDesc)} {j : Nat} {m k x : Operand} : aOp cx (.eff (.mset ks) j [m, k, x]) ⟨e, h, b⟩ K = keyA ks (ev e k) fun us => mapK h (ev e m) fun c es t => (c ∉ cx.bn ∧ keysA ks es) ∧ msetK (some (mfindA us es 0)) (.agg us.toArray) (ev e x) es t fun B => K (.v (.tuple #[])) ⟨e, h.set c B, b⟩ := rfl
theorem kq {j : Nat} {x : Operand} : aOp cx (.eff .b2s j [x]) ⟨e, h, b⟩ K = viewK h (ev e x) fun sz els => (els = [] ∨ sz = 1) ∧ optK (bytesOf els) fun l => K (.v (.string ⟨l.toArray⟩)) ⟨e, h, b⟩ := rfl
theorem kr {sz n j : Nat} {z : List Value} {ix : List Nat} {xs : List Operand} : aOp cx (.eff (.litv sz n z ix) j xs) ⟨e, h, b⟩ K = ((xs.map (ev e)).length = ix.length ∧ litvP sz (List.replicate n (z.map .v)) (ix.zip (xs.map (ev e))) fun els => freshP h (b + j) ∧ K (.sl (b + j) 0 n) ⟨e, h.set (b + j) (.arv sz els), b⟩) := rfl
theorem kv {sz bytes j : Nat} {x y : Operand} : aOp cx (.eff (.appv sz bytes) j [x, y]) ⟨e, h, b⟩ K = viewVK h (ev e y) fun sz' new => (sz' = sz ∧ new ≠ [] ∧ (new.all fun r => r.all isC) = true) ∧ appVP cx.fx cx.bn (b + j) sz bytes ⟨e, h, b⟩ (ev e x) new K := rfl
theorem kw {f : FuncId} {xs : List Operand} : aOp cx (.call f xs) ⟨e, h, b⟩ K = callP cx f (xs.map (ev e)) ⟨e, h, b⟩ K := rfl
theorem qK {x : Operand} {i : Nat} {bn : List Nat} : rdB (.ext x i) e bn = bn := rfl
theorem qL {x : Operand} {bn : List Nat} : rdB (.nilc x) e bn = bn := rfl
theorem qM {t : Bool} {x y : Operand} {bn : List Nat} : rdB (.eqn t x y) e bn = bn := rfl
theorem qN {n : Option Nat} {x : Operand} {bn : List Nat} : rdB (.load n x) e bn = rdK (ev e x) bn := by
  show (match ev e x with | .ptr k _ _ => k :: bn | _ => bn) = _
  unfold rdK
  cases ev e x <;> rfl
theorem kx {x : Operand} {i : Nat} : aOp cx (.ext x i) ⟨e, h, b⟩ K = tupK (ev e x) fun vs => optK vs[i]? fun y => K y ⟨e, h, b⟩ := by
  simp only [aOp, tupK]; split <;> simp_all
theorem ky {x : Operand} : aOp cx (.nilc x) ⟨e, h, b⟩ K = nilK (ev e x) fun y => K y ⟨e, h, b⟩ := by
  simp only [aOp, nilK]; split <;> simp_all
theorem kz {f : Operand} {xs : List Operand} : aOp cx (.callv f xs) ⟨e, h, b⟩ K = cloK (ev e f) fun g cs => callP cx g (xs.map (ev e) ++ cs) ⟨e, h, b⟩ K := by
  simp only [aOp, cloK]; split <;> simp_all
theorem qV : aw cx .skip N X R ⟨e, h, b⟩ = N ⟨e, h, b⟩ := rfl
theorem qW {n : Nat} {l : List LOper} : aw cx (.reg n l) N X R ⟨e, h, b⟩ = aOps cx l ⟨e, h ++ List.replicate n .dead, h.length⟩ N := rfl
theorem qX {m n : Nat} {l : List LOper} : aw cx (.tail m n l) N X R ⟨e, h, b⟩ = aOps cx l ⟨e, h ++ List.replicate n .dead, h.length⟩ N := rfl
theorem qY {n : Nat} {l : List LOper} : aw cx (.qui n l) N X R ⟨e, h, b⟩ = aOps cx l ⟨e, h ++ List.replicate n .dead, h.length⟩ N := rfl
theorem qO {n : Nat} {p : LPlan} : aw cx (.tree n p) N X R ⟨e, h, b⟩ = awP cx p [] N ⟨e, h ++ List.replicate n .dead, h.length⟩ := rfl
theorem qP {bn : List Nat} : awP cx .done bn Ks ⟨e, h, b⟩ = Ks ⟨e, h, b⟩ := rfl
theorem qQ {bn : List Nat} : awP cx .none bn Ks ⟨e, h, b⟩ = True := rfl
theorem qR {i : Nat} {D bn : List Nat} {p : LPlan} : awP cx (.take i D ⟨d, op, none⟩ p) bn Ks ⟨e, h, b⟩ = aOp cx op ⟨e, h, b⟩ fun x s' => awP cx p (rdB op e bn) Ks (s'.put d x) := rfl
theorem qS {i g : Nat} {w : Bool} {D bn : List Nat} {p : LPlan} : awP cx (.take i D ⟨d, op, some (g, w)⟩ p) bn Ks ⟨e, h, b⟩ = guardP (get e g) w
      (aOp cx op ⟨(g, .b w) :: e, h, b⟩ fun x s' => awP cx p (rdB op e bn) Ks (s'.put d x))
      (awP cx p (rdB op e bn) Ks (St.put ⟨(g, .b !w) :: e, h, b⟩ d (.v (.tuple #[]))))
      (awP cx p (rdB op e bn) Ks (St.put ⟨e, h, b⟩ d (.v (.tuple #[])))) := rfl
theorem qT {i : Nat} {r : Bool} {bn : List Nat} {p q : LPlan} : awP cx (.alt i ⟨d, op, none⟩ r p q) bn Ks ⟨e, h, b⟩ =
      ((aOp ⟨cx.C, cx.fx, if r then bn else [], cx.it, cx.y, cx.rk⟩ op ⟨e, h, b⟩ fun x s' => awP cx p (if r then bn else []) Ks (s'.put d x)) ∧ awP cx q bn Ks ⟨e, h, b⟩) := rfl
theorem qU {i g : Nat} {w r : Bool} {bn : List Nat} {p q : LPlan} : awP cx (.alt i ⟨d, op, some (g, w)⟩ r p q) bn Ks ⟨e, h, b⟩ =
      ((guardP (get e g) w
        (aOp ⟨cx.C, cx.fx, if r then bn else [], cx.it, cx.y, cx.rk⟩ op ⟨(g, .b w) :: e, h, b⟩ fun x s' => awP cx p (if r then bn else []) Ks (s'.put d x))
        (awP cx p (if r then bn else []) Ks (St.put ⟨(g, .b !w) :: e, h, b⟩ d (.v (.tuple #[]))))
        (awP cx p (if r then bn else []) Ks (St.put ⟨e, h, b⟩ d (.v (.tuple #[]))))) ∧ awP cx q bn Ks ⟨e, h, b⟩) := rfl
theorem qZ {x y : LCode} : aw cx (.seq x y) N X R ⟨e, h, b⟩ = aw cx x (fun s' => aw cx y N X R s') X R ⟨e, h, b⟩ := rfl
theorem za {c : Operand} {x y : LCode} : aw cx (.cond c x y) N X R ⟨e, h, b⟩ = brV (ev e c) (aw cx x N X R ⟨e, h, b⟩) (aw cx y N X R ⟨e, h, b⟩) := rfl
theorem zb {i : Nat} {x : LCode} : aw cx (.block i x) N X R ⟨e, h, b⟩ = aw cx x N (fun j s' => if j = i then N s' else X j s') R ⟨e, h, b⟩ := rfl
theorem zc {x : LCode} : aw cx (.loop x) N X R ⟨e, h, b⟩ = loopP cx.fx (fun N => aw cx x N X R) ⟨e, h, b⟩ := rfl
theorem zd {i : Nat} : aw cx (.exit i) N X R ⟨e, h, b⟩ = X i ⟨e, h, b⟩ := rfl
theorem ze : aw cx .ret N X R ⟨e, h, b⟩ = R ⟨e, h, b⟩ := rfl
theorem kM {A B : Prop} : br true A B = A := by simp [br]
theorem kN {A B : Prop} : br false A B = B := by simp [br]
theorem kL {t : Bool} {A B : Prop} : brV (.v (.bool t)) A B = br t A B := rfl
theorem kO {t : Bool} {w : Bool} {A B C : Prop} : guardP (.v (.bool t)) w A B C = if w then br t A B else br t B A := rfl
theorem kP {w : Bool} {A B C : Prop} : guardP (.v (.tuple #[])) w A B C = C := rfl
theorem kJ {k : IntKind} {a : Int} {K : IntKind → Int → Prop} : intK (.v (.int k a)) K = K k a := rfl
theorem kK {a : Bool} {K : Bool → Prop} : boolK (.v (.bool a)) K = K a := rfl
theorem retP_eq {fx : List Nat} {n : Nat} {rs : List LRes} {R : V → List Blk → Prop} : retP fx n rs R ⟨e, h, b⟩ = resP h e rs [] fun xs => ∃ p, (leH h p ∧ keepP fx p ∧ n ≤ p.length ∧ wfV p (tupV xs) ∧ wfB p p) ∧ R (tupV xs) p := rfl
theorem kR {fx : List Nat} {p : Env} {q : List Blk} {b' : Nat} : leS fx ⟨e, h, b⟩ ⟨p, q, b'⟩ = (leE e p ∧ leH h q ∧ keepP fx q ∧ wfE q p ∧ wfB q q) := rfl
end
section
variable {cx : Cx} {h : List Blk} {e : Env} {s : St} {fx bn : List Nat}
def Is (x : V) : V → List Blk → Prop := fun r h => r = x ∧ h = []
theorem kQ {e : Env} {h : List Blk} {b : Nat} {rs : List LRes} {x : V} : retP [] 0 rs (Is x) ⟨e, h, b⟩ = resP h e rs [] fun xs => wfV [] (tupV xs) ∧ tupV xs = x := by
  unfold retP Is
  simp only
  congr 1
  funext xs
  apply propext
  constructor
  · rintro ⟨p, ⟨_, _, _, h4, _⟩, h5, rfl⟩
    exact ⟨h4, h5⟩
  · rintro ⟨h4, h5⟩
    exact ⟨[], ⟨by unfold leH; trivial, trivial, Nat.le_refl _, h4, trivial⟩, h5, rfl⟩
theorem kC {t : Nat} : ev e (.tmp t) = get e t := rfl
theorem kD {c : Value} : ev e (.const c) = ofConst c := rfl
theorem kF {f : FuncId} : ev e (.func f) = .clo f [] := rfl
theorem kG {i : Nat} : get [] i = .any := rfl
theorem kH {j i : Nat} {x : V} {r : Env} : get ((j, x) :: r) i = if i = j then x else get r i := rfl
theorem kI {k : Nat} : blk h k = h.getD k .dead := rfl
@[congr] theorem c_optK {α : Type} {o o' : Option α} {K : α → Prop} (q : o = o') : optK o K = optK o' K := by rw [q]
@[congr] theorem c_intK {x x' : V} {K : IntKind → Int → Prop} (q : x = x') : intK x K = intK x' K := by rw [q]
@[congr] theorem c_boolK {x x' : V} {K : Bool → Prop} (q : x = x') : boolK x K = boolK x' K := by rw [q]
@[congr] theorem c_brV {x x' : V} {A B : Prop} (q : x = x') : brV x A B = brV x' A B := by rw [q]
@[congr] theorem c_guardP {x x' : V} {w : Bool} {A B C : Prop} (q : x = x') : guardP x w A B C = guardP x' w A B C := by rw [q]
@[congr] theorem c_loadP {n : Option Nat} {p p' : V} {K : V → Prop} (q : p = p') : loadP h n p K = loadP h n p' K := by rw [q]
@[congr] theorem c_loadB {n : Option Nat} {i f : Nat} {b b' : Blk} {K : V → Prop} (q : b = b') : loadB n i f b K = loadB n i f b' K := by rw [q]
@[congr] theorem c_loadCs {n : Option Nat} {f : Nat} {cs cs' : List V} {K : V → Prop} (q : cs = cs') : loadCs n f cs K = loadCs n f cs' K := by rw [q]
@[congr] theorem c_storeP {n : Nat} {p p' : V} {cs cs' : List V} {K : List Blk → Prop} (q : p = p') (q2 : cs = cs') : storeP bn h n p cs K = storeP bn h n p' cs' K := by rw [q, q2]
@[congr] theorem c_storeB {n i f : Nat} {cs : List V} {b b' : Blk} {K : Blk → Prop} (q : b = b') : storeB n i f cs b K = storeB n i f cs b' K := by rw [q]
@[congr] theorem c_fldP {n : Nat} {x x' : V} {K : V → Prop} (q : x = x') : fldP n x K = fldP n x' K := by rw [q]
@[congr] theorem c_idxP {z : Nat} {n n' : Int} {x x' : V} {K : V → Prop} (q : x = x') (q2 : n = n') : idxP h z n x K = idxP h z n' x' K := by rw [q, q2]
@[congr] theorem c_lenP {x x' : V} {K : V → Prop} (q : x = x') : lenP x K = lenP x' K := by rw [q]
@[congr] theorem c_lensP {x x' : V} {K : V → Prop} (q : x = x') : lensP x K = lensP x' K := by rw [q]
@[congr] theorem c_viewK {x x' : V} {K : Nat → List (List V) → Prop} (q : x = x') : viewK h x K = viewK h x' K := by rw [q]
@[congr] theorem c_optI {x x' : Option V} {K : Option Int → Prop} (q : x = x') : optI x K = optI x' K := by rw [q]
@[congr] theorem c_slcP {z : Nat} {x x' : V} {l u m : Option Int} {K : V → Prop} (q : x = x') : slcP h z x l u m K = slcP h z x' l u m K := by rw [q]
@[congr] theorem c_buildP {acc acc' : List V} {ps : List (Nat × Nat × Operand)} {K : V → Prop} (q : acc = acc') : buildP e acc ps K = buildP e acc' ps K := by rw [q]
@[congr] theorem c_litsP {sz : Nat} {acc acc' : List (List V)} {ps : List (Nat × Operand)} {K : List (List V) → Prop} (q : acc = acc') : litsP e sz acc ps K = litsP e sz acc' ps K := by rw [q]
@[congr] theorem c_eqnP {x x' : V} {K : Bool → Prop} (q : x = x') : eqnP x K = eqnP x' K := by rw [q]
@[congr] theorem c_appP {id sz bytes : Nat} {x x' : V} {new new' : List (List V)} {K : V → St → Prop} (q : x = x') (q2 : new = new') : appP fx bn id sz bytes s x new K = appP fx bn id sz bytes s x' new' K := by rw [q, q2]
@[congr] theorem c_appB {k i n sz bytes : Nat} {new : List (List V)} {b b' : Blk} {K : V → St → Prop} (q : b = b') : appB fx bn k i n sz bytes s new b K = appB fx bn k i n sz bytes s new b' K := by rw [q]
@[congr] theorem c_appNew {id sz bytes : Nat} {old old' new : List (List V)} {K : V → St → Prop} (q : old = old') : appNew id sz bytes s old new K = appNew id sz bytes s old' new K := by rw [q]
@[congr] theorem c_copyP {sz : Nat} {x x' : V} {new : List (List V)} {K : V → St → Prop} (q : x = x') : copyP bn sz s x new K = copyP bn sz s x' new K := by rw [q]
@[congr] theorem c_tupK {x x' : V} {K : List V → Prop} (q : x = x') : tupK x K = tupK x' K := by rw [q]
@[congr] theorem c_nilK {x x' : V} {K : V → Prop} (q : x = x') : nilK x K = nilK x' K := by rw [q]
@[congr] theorem c_cloK {x x' : V} {K : FuncId → List V → Prop} (q : x = x') : cloK x K = cloK x' K := by rw [q]
@[congr] theorem c_aggK {x x' : V} {K : List V → Prop} (q : x = x') : aggK x K = aggK x' K := by rw [q]
@[congr] theorem c_callP {f : FuncId} {xs xs' : List V} {s s' : St} {K : V → St → Prop} (q : xs = xs') (q2 : s = s') : callP cx f xs s K = callP cx f xs' s' K := by rw [q, q2]
@[congr] theorem c_binInt {op : BinOp} {ex : Bool} {k : IntKind} {a a' b b' : Int} {K : V → Prop} (q : a = a') (q2 : b = b') : binInt op ex k a b K = binInt op ex k a' b' K := by rw [q, q2]
@[congr] theorem c_eqFs {xs xs' ys ys' : List V} {ks : List (Nat × TypeDesc)} {K : Bool → Prop} (q : xs = xs') (q2 : ys = ys') : eqFs xs ys ks K = eqFs xs' ys' ks K := by rw [q, q2]
@[congr] theorem c_eqC {kd : TypeDesc} {x x' y y' : Option V} {K : Bool → Prop} (q : x = x') (q2 : y = y') : eqC kd x y K = eqC kd x' y' K := by rw [q, q2]
@[congr] theorem c_resP {ls : List LRes} {acc acc' : List V} {K : List V → Prop} (q : acc = acc') : resP h e ls acc K = resP h e ls acc' K := by rw [q]
@[congr] theorem c_awP {p : LPlan} {s s' : St} {Ks : St → Prop} (q : s = s') : awP cx p bn Ks s = awP cx p bn Ks s' := by rw [q]
@[congr] theorem c_aOps {l : List LOper} {s s' : St} {Ks : St → Prop} (q : s = s') : aOps cx l s Ks = aOps cx l s' Ks := by rw [q]
@[congr] theorem c_aw {c : LCode} {s s' : St} {N R : St → Prop} {X : Nat → St → Prop} (q : s = s') : aw cx c N X R s = aw cx c N X R s' := by rw [q]
@[congr] theorem c_aOp {o : LOp} {s s' : St} {K : V → St → Prop} (q : s = s') : aOp cx o s K = aOp cx o s' K := by rw [q]
end
theorem loopP_intro {fx : List Nat} {f : (St → Prop) → St → Prop} {s : St} {G : Type} (pat : G → St) (I : G → Prop) (μ : G → Nat) (g : G) (h0 : I g) (h1 : leS fx s (pat g))
    (h : ∀ g, I g → f (fun s' => ∃ g', (I g' ∧ μ g' < μ g) ∧ leS fx s' (pat g')) (pat g)) : loopP fx f s :=
  ⟨G, pat, I, μ, leS fx, fun a _ h => ⟨a, .refl a, h⟩, ⟨g, h0, _, .refl s, h1⟩, h⟩
theorem loopP_ghost {fx : List Nat} {f : (St → Prop) → St → Prop} {s s0 : St} {G : Type} (hg : Ghost fx s s0) (pat : G → St) (I : G → Prop) (μ : G → Nat) (g : G) (h0 : I g) (h1 : leS fx s0 (pat g))
    (h : ∀ g, I g → f (fun s' => ∃ g', (I g' ∧ μ g' < μ g) ∧ leS fx s' (pat g')) (pat g)) : loopP fx f s :=
  ⟨G, pat, I, μ, leS fx, fun a _ h => ⟨a, .refl a, h⟩, ⟨g, h0, s0, hg, h1⟩, h⟩
theorem loopP_back {fx : List Nat} {f : (St → Prop) → St → Prop} {s : St} {G : Type} (pat : G → St) (I : G → Prop) (μ : G → Nat) (g : G) (h0 : I g) (h1 : leG fx s (pat g))
    (h : ∀ g, I g → f (fun s' => ∃ g', (I g' ∧ μ g' < μ g) ∧ leG fx s' (pat g')) (pat g)) : loopP fx f s :=
  ⟨G, pat, I, μ, leG fx, fun _ _ h => h, ⟨g, h0, h1⟩, h⟩
theorem loopP_give {fx : List Nat} {f : (St → Prop) → St → Prop} {s : St} {G : Type} (M : Nat → Bool) (pat : G → St) (I : G → Prop) (μ : G → Nat) (g : G) (hM : ∀ k ∈ fx, M k = false) (h0 : I g) (h1 : leS fx (s.give M) (pat g))
    (h : ∀ g, I g → f (fun s' => ∃ g', (I g' ∧ μ g' < μ g) ∧ leS fx s' (pat g')) (pat g)) : loopP fx f s :=
  loopP_ghost (.give M hM (.refl _)) pat I μ g h0 h1 h
theorem callP_pure {cx : Cx} {f : FuncId} {args : List V} {e : Env} {h : List Blk} {b : Nat} {K : V → St → Prop} (zas : List V) (R : V → List Blk → Prop) (h1 : lendsOk h (fun _ => none) args ∧ wkL zas (lends h (fun _ => none) args)) (h2 : cx.C f zas [] [] R)
    (h3 : ∀ r h', R r h' → keepP cx.fx (h ++ h'.map (renB (fun j => some (h.length + j)))) ∧ K (ren (fun j => some (h.length + j)) r) ⟨e, h ++ h'.map (renB (fun j => some (h.length + j))), b⟩) : callP cx f args ⟨e, h, b⟩ K := by
  have hp : pos [] = fun _ => none := rfl
  have hb : back [] h.length = fun j => some (h.length + j) := by funext j; simp [back]
  have hk : ∀ l : List Blk, l.map (killB []) = l := killB_nil
  refine ⟨[], zas, [], R, ⟨⟨List.nodup_nil, by simp⟩, by simp⟩, ?_, ?_, by simpa using h2, ?_⟩
  · rw [hp]; exact h1.1
  · rw [hp]; exact h1.2
  · intro r h' hR _
    have := h3 r h' hR
    simp only [hb, setAll, List.filterMap_nil, hk, killE_nil]
    exact this
section
variable {h : List Blk} {e : Env} {s : St} {fx bn : List Nat} {b : Nat}
def viewB (b : Blk) (i n : Nat) (K : Nat → List (List V) → Prop) : Prop :=
  match b with
  | .arr sz els => i + n ≤ els.length ∧ K sz ((els.drop i).take n)
  | .var cs => (i + n ≤ cs.length ∧ ((cs.drop i).take n).all isD = true) ∧ K 1 (((cs.drop i).take n).map fun c => [c])
  | _ => False
theorem jY {α : Type} {x : α} {K : α → Prop} : optK (some x) K = K x := rfl
theorem jZ {α : Type} {K : α → Prop} : optK none K = False := rfl
theorem qaa {n : Option Nat} {k i f : Nat} {K : V → Prop} : loadP h n (.ptr k i f) K = loadB n i f (blk h k) K := rfl
theorem qab {n : Option Nat} {z i f : Nat} {els : List (List V)} {K : V → Prop} : loadP h n (.rp z els i f) K = ∃ hi : i < els.length, loadCs n f (els[i]'hi) K := rfl
theorem qac {n : Option Nat} {f : Nat} {cs : List V} {K : V → Prop} : loadB n 0 f (.var cs) K = loadCs n f cs K := by
  show loadCs n (0 + f) cs K = _
  rw [Nat.zero_add]
theorem qad {n : Option Nat} {i : Nat} {cs : List V} {K : V → Prop} : loadB n i 0 (.var cs) K = loadCs n i cs K := rfl
theorem qae {n : Option Nat} {i f z : Nat} {els : List (List V)} {K : V → Prop} : loadB n i f (.arr z els) K = ∃ hi : i < els.length, loadCs n f (els[i]'hi) K := rfl
theorem qaf {n : Option Nat} {i f z : Nat} {els : List (List V)} {K : V → Prop} : loadB n i f (.arv z els) K = ∃ hi : i < els.length, loadCs n f (els[i]'hi) K := rfl
theorem qag {f : Nat} {cs : List V} {K : V → Prop} : loadCs none f cs K = optK cs[f]? K := rfl
theorem qah {m f : Nat} {cs : List V} {K : V → Prop} : loadCs (some m) f cs K = (f + m ≤ cs.length ∧ K (.agg ((cs.drop f).take m))) := rfl
theorem qai {n k i f : Nat} {cs : List V} {K : List Blk → Prop} : storeP bn h n (.ptr k i f) cs K = ((cs.length = n ∧ k ∉ bn) ∧ cs.all isC = true ∧ storeB n i f cs (blk h k) fun b => K (h.set k b)) := rfl
theorem qaj {n f : Nat} {cs old : List V} {K : Blk → Prop} : storeB n 0 f cs (.var old) K = ((f + n ≤ old.length) ∧ K (.var (splice old f cs))) := by
  show ((0 + f + n ≤ old.length) ∧ K (.var (splice old (0 + f) cs))) = _
  rw [Nat.zero_add]
theorem qak {n i : Nat} {cs old : List V} {K : Blk → Prop} : storeB n i 0 cs (.var old) K = ((i + n ≤ old.length) ∧ K (.var (splice old i cs))) := rfl
theorem qal {n i f z : Nat} {cs : List V} {els : List (List V)} {K : Blk → Prop} : storeB n i f cs (.arr z els) K = ((f + n ≤ z ∧ cs.all isD = true) ∧ ∃ hi : i < els.length, K (.arr z (els.set i (splice (els[i]'hi) f cs)))) := rfl
theorem qam {n i f z : Nat} {cs : List V} {els : List (List V)} {K : Blk → Prop} : storeB n i f cs (.arv z els) K = ((f + n ≤ z) ∧ ∃ hi : i < els.length, K (.arv z (els.set i (splice (els[i]'hi) f cs)))) := rfl
theorem qan {o k i f : Nat} {K : V → Prop} : fldP o (.ptr k i f) K = K (.ptr k i (f + o)) := rfl
theorem qao {o z i f : Nat} {els : List (List V)} {K : V → Prop} : fldP o (.rp z els i f) K = K (.rp z els i (f + o)) := rfl
theorem qap {z k i m : Nat} {n : Int} {K : V → Prop} : idxP h z n (.sl k i m) K = (arrSz z (blk h k) ∧ (0 ≤ n ∧ n < m) ∧ K (.ptr k (i + n.toNat) 0)) := rfl
theorem qaq {z y : Nat} {els : List (List V)} {n : Int} {K : V → Prop} : idxP h z n (.ro y els) K = (y = z ∧ (0 ≤ n ∧ n < els.length) ∧ K (.rp y els n.toNat 0)) := rfl
theorem qar {z y : Nat} {els : List (List V)} {n : Int} {K : V → Prop} : idxP h z n (.bro y els) K = (y = z ∧ (0 ≤ n ∧ n < els.length) ∧ K (.rp y els n.toNat 0)) := rfl
theorem qas {z y : Nat} {els : List (List V)} {n : Int} {K : V → Prop} : idxP h z n (.full y els) K = (y = z ∧ (0 ≤ n ∧ n < els.length) ∧ K (.rp y els n.toNat 0)) := rfl
theorem qat {z : Nat} {n : Int} {K : V → Prop} : idxP h z n (.v (.slice none 0 0)) K = False := rfl
theorem qau {k i n : Nat} {K : V → Prop} : lenP (.sl k i n) K = (n ≤ maxLen → K (.i n)) := rfl
theorem qav {y : Nat} {els : List (List V)} {K : V → Prop} : lenP (.ro y els) K = (els.length ≤ maxLen → K (.i els.length)) := rfl
theorem qaw {y : Nat} {els : List (List V)} {K : V → Prop} : lenP (.bro y els) K = (els.length ≤ maxLen → K (.i els.length)) := rfl
theorem qax {y : Nat} {els : List (List V)} {K : V → Prop} : lenP (.full y els) K = (els.length ≤ maxLen → K (.i els.length)) := rfl
theorem qay {K : V → Prop} : lenP (.v (.slice none 0 0)) K = K (.i 0) := rfl
theorem qaz {t : ByteArray} {K : V → Prop} : lensP (.v (.string t)) K = K (.i t.size) := rfl
theorem qaA {vs : List V} {K : List V → Prop} : tupK (.tup vs) K = K vs := rfl
theorem qaB {k i f : Nat} {K : V → Prop} : nilK (.ptr k i f) K = K (.ptr k i f) := rfl
theorem qaC {f : FuncId} {cs : List V} {K : V → Prop} : nilK (.clo f cs) K = K (.clo f cs) := rfl
theorem qaD {f : FuncId} {cs : List V} {K : FuncId → List V → Prop} : cloK (.clo f cs) K = K f cs := rfl
theorem qaE {cs : List V} {K : List V → Prop} : aggK (.agg cs) K = K cs := rfl
theorem qaF {k i n : Nat} {K : Nat → List (List V) → Prop} : viewK h (.sl k i n) K = viewB (blk h k) i n K := rfl
theorem qaG {i n z : Nat} {els : List (List V)} {K : Nat → List (List V) → Prop} : viewB (.arr z els) i n K = (i + n ≤ els.length ∧ K z ((els.drop i).take n)) := rfl
theorem qaH {z : Nat} {els : List (List V)} {K : Nat → List (List V) → Prop} : viewK h (.ro z els) K = K z els := rfl
theorem qaI {z : Nat} {els : List (List V)} {K : Nat → List (List V) → Prop} : viewK h (.bro z els) K = K z els := rfl
theorem qaJ {z : Nat} {els : List (List V)} {K : Nat → List (List V) → Prop} : viewK h (.full z els) K = K z els := rfl
theorem qaK {K : Nat → List (List V) → Prop} : viewK h (.v (.slice none 0 0)) K = K 0 [] := rfl
theorem qaL {K : Option Int → Prop} : optI none K = K none := rfl
theorem qaM {k : IntKind} {n : Int} {K : Option Int → Prop} : optI (some (.v (.int k n))) K = K (some n) := rfl
theorem qaN {z k i n : Nat} {l u m : Option Int} {K : V → Prop} : slcP h z (.sl k i n) l u m K = (arrSz z (blk h k) ∧ slcOk n l u m ∧ K (.sl k (i + (l.getD 0).toNat) ((u.getD n).toNat - (l.getD 0).toNat))) := rfl
theorem qaO {z y : Nat} {els : List (List V)} {l u m : Option Int} {K : V → Prop} : slcP h z (.ro y els) l u m K = (y = z ∧ slcOk els.length l u m ∧ K (.ro y ((els.drop (l.getD 0).toNat).take ((u.getD els.length).toNat - (l.getD 0).toNat)))) := rfl
theorem qaP {z y : Nat} {els : List (List V)} {l u m : Option Int} {K : V → Prop} : slcP h z (.bro y els) l u m K = (y = z ∧ slcOk els.length l u m ∧ K (.bro y ((els.drop (l.getD 0).toNat).take ((u.getD els.length).toNat - (l.getD 0).toNat)))) := rfl
theorem qaQ {z : Nat} {l u m : Option Int} {K : V → Prop} : slcP h z (.v (.slice none 0 0)) l u m K = (slcOk 0 l u m ∧ K (.v (.slice none 0 0))) := rfl
theorem qaR {k i n : Nat} {K : Bool → Prop} : eqnP (.sl k i n) K = ((0 < n → K false) ∧ (n = 0 → K true ∧ K false)) := rfl
theorem qaS {z : Nat} {els : List (List V)} {K : Bool → Prop} : eqnP (.ro z els) K = ((els ≠ [] → K false) ∧ (els = [] → K true ∧ K false)) := rfl
theorem qaT {z : Nat} {els : List (List V)} {K : Bool → Prop} : eqnP (.bro z els) K = ((els ≠ [] → K false) ∧ (els = [] → K true ∧ K false)) := rfl
theorem qaU {K : Bool → Prop} : eqnP (.v (.slice none 0 0)) K = K true := rfl
theorem qaV {id sz bytes : Nat} {old new : List (List V)} {K : V → St → Prop} : appNew id sz bytes ⟨e, h, b⟩ old new K = ((old.length + new.length) * bytes ≤ 140737488355328 ∧ freshP h id ∧ K (.sl id 0 (old.length + new.length)) ⟨e, h.set id (.arr sz (old ++ new)), b⟩) := rfl
theorem qaW {k i n sz bytes z : Nat} {new els : List (List V)} {K : V → St → Prop} : appB fx bn k i n sz bytes ⟨e, h, b⟩ new (.arr z els) K = ((z = sz ∧ i + n ≤ els.length ∧ (n + new.length) * bytes ≤ 140737488355328) ∧ (k ∉ fx ∧ k ∉ bn) ∧ K (.sl k 0 (n + new.length)) ⟨killE [k] e, (h.map (killB [k])).set k (.arr sz ((els.drop i).take n ++ new)), b⟩) := rfl
theorem qaX {k i n id sz bytes : Nat} {new : List (List V)} {K : V → St → Prop} : appP fx bn id sz bytes ⟨e, h, b⟩ (.sl k i n) new K = appB fx bn k i n sz bytes ⟨e, h, b⟩ new (blk h k) K := rfl
theorem qaY {id sz bytes : Nat} {new : List (List V)} {K : V → St → Prop} : appP fx bn id sz bytes s (.v (.slice none 0 0)) new K = appNew id sz bytes s [] new K := rfl
theorem qaZ {id sz bytes z : Nat} {els new : List (List V)} {K : V → St → Prop} : appP fx bn id sz bytes s (.full z els) new K = ((z = sz ∧ new ≠ []) ∧ appNew id sz bytes s els new K) := rfl
theorem qba {k i n sz z : Nat} {new els : List (List V)} {K : V → St → Prop} : copyB bn k i n sz ⟨e, h, b⟩ new (.arr z els) K = ((z = sz ∧ i + n ≤ els.length ∧ k ∉ bn) ∧ K (.i (min new.length n : Nat)) ⟨e, h.set k (.arr sz (els.take i ++ new.take n ++ els.drop (i + min new.length n))), b⟩) := rfl
theorem qbb {k i n sz : Nat} {new : List (List V)} {cs : List V} {K : V → St → Prop} : copyB bn k i n sz ⟨e, h, b⟩ new (.var cs) K = ((1 = sz ∧ i + n ≤ cs.length ∧ k ∉ bn) ∧ K (.i (min new.length n : Nat)) ⟨e, h.set k (.var (splice cs i (new.take n).flatten)), b⟩) := rfl
theorem qbc {i n : Nat} {cs : List V} {K : Nat → List (List V) → Prop} : viewB (.var cs) i n K = ((i + n ≤ cs.length ∧ ((cs.drop i).take n).all isD = true) ∧ K 1 (((cs.drop i).take n).map fun c => [c])) := rfl
theorem qbd {n k i f : Nat} {l u m : Option Int} {K : V → Prop} : slcAP h n (.ptr k i f) l u m K = slcAB n k (i + f) (blk h k) l u m K := rfl
theorem qbe {n z i f : Nat} {els : List (List V)} {l u m : Option Int} {K : V → Prop} : slcAP h n (.rp z els i f) l u m K = (slcOk n l u m ∧ ∃ hi : i < els.length, f + n ≤ (els[i]'hi).length ∧
      K (.bro 1 (((((els[i]'hi).drop f).drop (l.getD 0).toNat).take ((u.getD n).toNat - (l.getD 0).toNat)).map fun c => [c]))) := rfl
theorem qbf {n k i : Nat} {cs : List V} {l u m : Option Int} {K : V → Prop} : slcAB n k i (.var cs) l u m K = ((i + n ≤ cs.length ∧ slcOk n l u m) ∧ K (.sl k (i + (l.getD 0).toNat) ((u.getD n).toNat - (l.getD 0).toNat))) := rfl
theorem qbg {K : Bool → Prop} : peqP (.v (.pointer none)) (.v (.pointer none)) K = K true := rfl
theorem qbh {k i f : Nat} {K : Bool → Prop} : peqP (.ptr k i f) (.v (.pointer none)) K = K false := rfl
theorem qbi {z i f : Nat} {els : List (List V)} {K : Bool → Prop} : peqP (.rp z els i f) (.v (.pointer none)) K = K false := rfl
theorem qbj {t : ByteArray} {K : ByteArray → Prop} : strK (.v (.string t)) K = K t := rfl
theorem qbk {t : ByteArray} {l u : Option Int} {K : V → Prop} : sslcP t l u K = (slcOk t.size l u none ∧ K (.v (.string (t.extract (l.getD 0).toNat (u.getD t.size).toNat)))) := rfl
theorem qbl {t u : ByteArray} {K : V → Prop} : sbinP .add t u K = (t.size + u.size ≤ 9223372036854775807 ∧ K (.v (.string (t ++ u)))) := rfl
theorem qbm {t u : ByteArray} {K : V → Prop} : sbinP .eql t u K = K (.b (t.toList == u.toList)) := rfl
theorem qbn {t u : ByteArray} {K : V → Prop} : sbinP .neq t u K = K (.b (!(t.toList == u.toList))) := rfl
theorem qbo {t u : ByteArray} {K : V → Prop} : sbinP .lss t u K = K (.b (Op.bytesLess t.toList u.toList)) := rfl
theorem qbp {t u : ByteArray} {K : V → Prop} : sbinP .leq t u K = K (.b (Op.bytesLess t.toList u.toList || t.toList == u.toList)) := rfl
theorem qbq {t u : ByteArray} {K : V → Prop} : sbinP .gtr t u K = K (.b (!(Op.bytesLess t.toList u.toList || t.toList == u.toList))) := rfl
theorem qbr {t u : ByteArray} {K : V → Prop} : sbinP .geq t u K = K (.b (!(Op.bytesLess t.toList u.toList))) := rfl
theorem qbs {mx : Bool} {x : V} {K : V → Prop} : mmP mx x [] K = K x := rfl
theorem qbt {mx : Bool} {k k' : IntKind} {a c : Int} {r : List V} {K : V → Prop} : mmP mx (.v (.int k a)) (.v (.int k' c) :: r) K = (k' = k ∧ mmP mx (.v (.int k (if mx then max a c else min a c))) r K) := rfl
theorem qbu {sz k i n : Nat} {z : List Value} {K : V → St → Prop} : clrP bn sz z (.sl k i n) ⟨e, h, b⟩ K = clrB bn k i n sz z ⟨e, h, b⟩ (blk h k) K := rfl
theorem qbv {sz : Nat} {z : List Value} {K : V → St → Prop} : clrP bn sz z (.v (.slice none 0 0)) s K = K (.v (.tuple #[])) s := rfl
theorem qbw {k i n sz y : Nat} {z : List Value} {els : List (List V)} {K : V → St → Prop} : clrB bn k i n sz z ⟨e, h, b⟩ (.arr y els) K = ((y = sz ∧ i + n ≤ els.length ∧ k ∉ bn) ∧ K (.v (.tuple #[])) ⟨e, h.set k (.arr sz (els.take i ++ List.replicate n (z.map .v) ++ els.drop (i + n))), b⟩) := rfl
theorem qbx {ks : List (Nat × TypeDesc)} {x y : Value} {K : List Value → Prop} : keyA ks (.agg [.v x, .v y]) K = (([x, y].length = ks.length ∧ ([x, y].zip ks).all (fun p => isKey p.2.2 p.1) = true) ∧ K [x, y]) := rfl
theorem qby {ks : List (Nat × TypeDesc)} {x y z : Value} {K : List Value → Prop} : keyA ks (.agg [.v x, .v y, .v z]) K = (([x, y, z].length = ks.length ∧ ([x, y, z].zip ks).all (fun p => isKey p.2.2 p.1) = true) ∧ K [x, y, z]) := rfl
theorem qbz {ks : List (Nat × TypeDesc)} {us : List Value} {z : Value} {ok : Bool} {k : Nat} {K : V → Prop} : lookMA h ks us z ok (.mp k) K = mapB (blk h k) fun es _ => keysA ks es ∧ lookK (some (mfindA us es 0)) z ok K := rfl
theorem qbA {ks : List (Nat × TypeDesc)} {us : List Value} {z : Value} {ok : Bool} {K : V → Prop} : lookMA h ks us z ok (.v (.map none)) K = lookK (some none) z ok K := rfl
theorem qbB {k i n sz : Nat} {new : List (List V)} {K : V → St → Prop} : copyP bn sz ⟨e, h, b⟩ (.sl k i n) new K = copyB bn k i n sz ⟨e, h, b⟩ new (blk h k) K := rfl
theorem qbC {kd : TypeDesc} {y : Value} {K : Value → Prop} : keyK kd (.v y) K = (isKey kd y = true ∧ K y) := rfl
theorem qbD {k : Nat} {K : Nat → List (Value × V × Nat) → Nat → Prop} : mapK h (.mp k) K = mapB (blk h k) (K k) := rfl
theorem qbE {es : List (Value × V × Nat)} {c : Nat} {K : List (Value × V × Nat) → Nat → Prop} : mapB (.map es c) K = K es c := rfl
theorem qbF {kd : TypeDesc} {key z : Value} {ok : Bool} {k : Nat} {K : V → Prop} : lookM h kd key z ok (.mp k) K = mapB (blk h k) fun es _ => lookK (mfind kd key es 0) z ok K := rfl
theorem qbG {kd : TypeDesc} {key z : Value} {ok : Bool} {K : V → Prop} : lookM h kd key z ok (.v (.map none)) K = lookK (some none) z ok K := rfl
theorem qbH {i : Nat} {x : V} {z : Value} {K : V → Prop} : lookK (some (some (i, x))) z true K = K (.tup [x, .b true]) := rfl
theorem qbI {i : Nat} {x : V} {z : Value} {K : V → Prop} : lookK (some (some (i, x))) z false K = K x := rfl
theorem qbJ {z : Value} {K : V → Prop} : lookK (some none) z true K = K (.tup [ofConst z, .b false]) := rfl
theorem qbK {z : Value} {K : V → Prop} : lookK (some none) z false K = K (ofConst z) := rfl
theorem qbL {i c : Nat} {y x : V} {key : Value} {es : List (Value × V × Nat)} {K : Blk → Prop} : msetK (some (some (i, y))) key x es c K = K (.map (es.modify i fun e => (key, x, e.2.2)) c) := rfl
theorem qbM {c : Nat} {x : V} {key : Value} {es : List (Value × V × Nat)} {K : Blk → Prop} : msetK (some none) key x es c K = K (.map (es ++ [(key, x, c)]) (c + 1)) := rfl
theorem qbN {q : Value × V × Nat} {K : V → Prop} : entK (some q) K = K (.tup [.v q.1, q.2.1]) := rfl
theorem qbO {kd : TypeDesc} {key : Value} {i : Nat} : mfind kd key [] i = some none := rfl
theorem qbP {k : IntKind} {a : Int} : isKey (.int k) (.int k a) = true := by simp [isKey]
theorem qbQ {k : Nat} {K : Nat → V → Nat → List Nat → Nat → Prop} : itK h (.ptr k 0 0) K = itB (blk h k) (K k) := rfl
theorem qbR {m : V} {si la : Nat} {se : List Nat} {K : V → Nat → List Nat → Nat → Prop} : itB (.it m si se la) K = K m si se la := rfl
section
variable {k : IntKind} {a c : Int} {K : V → Prop}
theorem qbS : binInt .add true k a c K = ((lo k ≤ a + c ∧ a + c ≤ hi k) ∧ K (.v (.int k (a + c)))) := rfl
theorem qbT : binInt .add false k a c K = K (.v (.int k (k.wrap (a + c)))) := rfl
theorem qbU : binInt .sub true k a c K = ((lo k ≤ a - c ∧ a - c ≤ hi k) ∧ K (.v (.int k (a - c)))) := rfl
theorem qbV : binInt .sub false k a c K = K (.v (.int k (k.wrap (a - c)))) := rfl
theorem qbW : binInt .mul true k a c K = ((lo k ≤ a * c ∧ a * c ≤ hi k) ∧ K (.v (.int k (a * c)))) := rfl
theorem qbX : binInt .mul false k a c K = K (.v (.int k (k.wrap (a * c)))) := rfl
theorem qbY {x : Bool} : binInt .eql x k a c K = K (.b (a == c)) := rfl
theorem qbZ {x : Bool} : binInt .neq x k a c K = K (.b (a != c)) := rfl
theorem qca {x : Bool} : binInt .lss x k a c K = K (.b (decide (a < c))) := rfl
theorem qcb {x : Bool} : binInt .leq x k a c K = K (.b (decide (a ≤ c))) := rfl
theorem qcc {x : Bool} : binInt .gtr x k a c K = K (.b (decide (c < a))) := rfl
theorem qcd {x : Bool} : binInt .geq x k a c K = K (.b (decide (c ≤ a))) := rfl
theorem qce : binInt .quo true k a c K = (c ≠ 0 ∧ (lo k ≤ a.tdiv c ∧ a.tdiv c ≤ hi k) ∧ K (.v (.int k (a.tdiv c)))) := rfl
theorem qcf : binInt .quo false k a c K = (c ≠ 0 ∧ K (.v (.int k (k.wrap (a.tdiv c))))) := rfl
theorem qcg {x : Bool} : binInt .rem x k a c K = (c ≠ 0 ∧ K (.v (.int k (a.tmod c)))) := rfl
end
@[congr] theorem c_slcAP {n : Nat} {x x' : V} {l u m : Option Int} {K : V → Prop} (q : x = x') : slcAP h n x l u m K = slcAP h n x' l u m K := by rw [q]
@[congr] theorem c_slcAB {n k i i' : Nat} {b b' : Blk} {l u m : Option Int} {K : V → Prop} (q : b = b') (q2 : i = i') : slcAB n k i b l u m K = slcAB n k i' b' l u m K := by rw [q, q2]
@[congr] theorem c_peqP {x x' y y' : V} {K : Bool → Prop} (q : x = x') (q2 : y = y') : peqP x y K = peqP x' y' K := by rw [q, q2]
@[congr] theorem c_strK {x x' : V} {K : ByteArray → Prop} (q : x = x') : strK x K = strK x' K := by rw [q]
@[congr] theorem c_sslcP {t t' : ByteArray} {l u : Option Int} {K : V → Prop} (q : t = t') : sslcP t l u K = sslcP t' l u K := by rw [q]
@[congr] theorem c_sbinP {o : BinOp} {t t' u u' : ByteArray} {K : V → Prop} (q : t = t') (q2 : u = u') : sbinP o t u K = sbinP o t' u' K := by rw [q, q2]
@[congr] theorem c_mmP {mx : Bool} {x x' : V} {r r' : List V} {K : V → Prop} (q : x = x') (q2 : r = r') : mmP mx x r K = mmP mx x' r' K := by rw [q, q2]
@[congr] theorem c_clrP {sz : Nat} {z : List Value} {x x' : V} {K : V → St → Prop} (q : x = x') : clrP bn sz z x s K = clrP bn sz z x' s K := by rw [q]
@[congr] theorem c_clrB {k i n sz : Nat} {z : List Value} {b b' : Blk} {K : V → St → Prop} (q : b = b') : clrB bn k i n sz z s b K = clrB bn k i n sz z s b' K := by rw [q]
@[congr] theorem c_keyA {ks : List (Nat × TypeDesc)} {x x' : V} {K : List Value → Prop} (q : x = x') : keyA ks x K = keyA ks x' K := by rw [q]
@[congr] theorem c_lookMA {ks : List (Nat × TypeDesc)} {us : List Value} {z : Value} {ok : Bool} {m m' : V} {K : V → Prop} (q : m = m') : lookMA h ks us z ok m K = lookMA h ks us z ok m' K := by rw [q]
@[congr] theorem c_copyB {k i n sz : Nat} {new : List (List V)} {b b' : Blk} {K : V → St → Prop} (q : b = b') : copyB bn k i n sz s new b K = copyB bn k i n sz s new b' K := by rw [q]
@[congr] theorem c_keyK {kd : TypeDesc} {x x' : V} {K : Value → Prop} (q : x = x') : keyK kd x K = keyK kd x' K := by rw [q]
@[congr] theorem c_mapK {x x' : V} {K : Nat → List (Value × V × Nat) → Nat → Prop} (q : x = x') : mapK h x K = mapK h x' K := by rw [q]
@[congr] theorem c_mapB {x x' : Blk} {K : List (Value × V × Nat) → Nat → Prop} (q : x = x') : mapB x K = mapB x' K := by rw [q]
@[congr] theorem c_lookM {kd : TypeDesc} {key key' z : Value} {ok : Bool} {m m' : V} {K : V → Prop} (q : m = m') (q2 : key = key') : lookM h kd key z ok m K = lookM h kd key' z ok m' K := by rw [q, q2]
@[congr] theorem c_lookK {r r' : Option (Option (Nat × V))} {z : Value} {ok : Bool} {K : V → Prop} (q : r = r') : lookK r z ok K = lookK r' z ok K := by rw [q]
@[congr] theorem c_msetK {r r' : Option (Option (Nat × V))} {key key' : Value} {x x' : V} {es es' : List (Value × V × Nat)} {c c' : Nat} {K : Blk → Prop} (q : r = r') (q1 : key = key') (q2 : x = x') (q3 : es = es') (q4 : c = c') : msetK r key x es c K = msetK r' key' x' es' c' K := by rw [q, q1, q2, q3, q4]
@[congr] theorem c_nextK {es es' : List (Value × V × Nat)} {si si' la la' : Nat} {se se' : List Nat} {D : Prop} {K : Value → V → Nat → Prop} (q : es = es') (q1 : si = si') (q2 : se = se') (q3 : la = la') : nextK es si se la D K = nextK es' si' se' la' D K := by rw [q, q1, q2, q3]
@[congr] theorem c_entK {r r' : Option (Value × V × Nat)} {K : V → Prop} (q : r = r') : entK r K = entK r' K := by rw [q]
@[congr] theorem c_itK {x x' : V} {K : Nat → V → Nat → List Nat → Nat → Prop} (q : x = x') : itK h x K = itK h x' K := by rw [q]
@[congr] theorem c_itB {x x' : Blk} {K : V → Nat → List Nat → Nat → Prop} (q : x = x') : itB x K = itB x' K := by rw [q]
@[congr] theorem c_viewB {i n : Nat} {x x' : Blk} {K : Nat → List (List V) → Prop} (q : x = x') : viewB x i n K = viewB x' i n K := by rw [q]
end
section
variable {α : Type} {a : α} {l : List α} {x : α} {y : Nat}
theorem lg0 : (a :: l)[1]? = l[0]? := rfl
theorem kS : (a :: l).set 1 x = a :: l.set 0 x := rfl
theorem kT : (a :: l).drop 1 = l.drop 0 := rfl
theorem kU : (a :: l).take 1 = a :: l.take 0 := rfl
theorem kV : List.replicate 1 x = x :: List.replicate 0 x := rfl
theorem lg1 : (a :: l)[2]? = l[1]? := rfl
theorem kW : (a :: l).set 2 x = a :: l.set 1 x := rfl
theorem kX : (a :: l).drop 2 = l.drop 1 := rfl
theorem kY : (a :: l).take 2 = a :: l.take 1 := rfl
theorem kZ : List.replicate 2 x = x :: List.replicate 1 x := rfl
theorem lg2 : (a :: l)[3]? = l[2]? := rfl
theorem wa : (a :: l).set 3 x = a :: l.set 2 x := rfl
theorem wb : (a :: l).drop 3 = l.drop 2 := rfl
theorem wc : (a :: l).take 3 = a :: l.take 2 := rfl
theorem wd : List.replicate 3 x = x :: List.replicate 2 x := rfl
theorem lg3 : (a :: l)[4]? = l[3]? := rfl
theorem we : (a :: l).set 4 x = a :: l.set 3 x := rfl
theorem wg : (a :: l).drop 4 = l.drop 3 := rfl
theorem wh : (a :: l).take 4 = a :: l.take 3 := rfl
theorem wi : List.replicate 4 x = x :: List.replicate 3 x := rfl
theorem lg4 : (a :: l)[5]? = l[4]? := rfl
theorem wj : (a :: l).set 5 x = a :: l.set 4 x := rfl
theorem wl : (a :: l).drop 5 = l.drop 4 := rfl
theorem wm : (a :: l).take 5 = a :: l.take 4 := rfl
theorem wn : List.replicate 5 x = x :: List.replicate 4 x := rfl
theorem lg5 : (a :: l)[6]? = l[5]? := rfl
theorem wo : (a :: l).set 6 x = a :: l.set 5 x := rfl
theorem wq : (a :: l).drop 6 = l.drop 5 := rfl
theorem wr : (a :: l).take 6 = a :: l.take 5 := rfl
theorem wt : List.replicate 6 x = x :: List.replicate 5 x := rfl
theorem lg6 : (a :: l)[7]? = l[6]? := rfl
theorem wu : (a :: l).set 7 x = a :: l.set 6 x := rfl
theorem wv : (a :: l).drop 7 = l.drop 6 := rfl
theorem ww : (a :: l).take 7 = a :: l.take 6 := rfl
theorem wx : List.replicate 7 x = x :: List.replicate 6 x := rfl
theorem lg7 : (a :: l)[8]? = l[7]? := rfl
theorem wy : (a :: l).set 8 x = a :: l.set 7 x := rfl
theorem wz : (a :: l).drop 8 = l.drop 7 := rfl
theorem wB : (a :: l).take 8 = a :: l.take 7 := rfl
theorem wC : List.replicate 8 x = x :: List.replicate 7 x := rfl
theorem lg8 : (a :: l)[9]? = l[8]? := rfl
theorem wD : (a :: l).set 9 x = a :: l.set 8 x := rfl
theorem wE : (a :: l).drop 9 = l.drop 8 := rfl
theorem wF : (a :: l).take 9 = a :: l.take 8 := rfl
theorem wG : List.replicate 9 x = x :: List.replicate 8 x := rfl
theorem lg9 : (a :: l)[10]? = l[9]? := rfl
theorem wH : (a :: l).set 10 x = a :: l.set 9 x := rfl
theorem wI : (a :: l).drop 10 = l.drop 9 := rfl
theorem wJ : (a :: l).take 10 = a :: l.take 9 := rfl
theorem wK : List.replicate 10 x = x :: List.replicate 9 x := rfl
theorem wL : (a :: l)[11]? = l[10]? := rfl
theorem wM : (a :: l).set 11 x = a :: l.set 10 x := rfl
theorem wN : (a :: l).drop 11 = l.drop 10 := rfl
theorem wO : (a :: l).take 11 = a :: l.take 10 := rfl
theorem wP : List.replicate 11 x = x :: List.replicate 10 x := rfl
theorem wQ : (a :: l)[12]? = l[11]? := rfl
theorem wR : (a :: l).set 12 x = a :: l.set 11 x := rfl
theorem wS : (a :: l).drop 12 = l.drop 11 := rfl
theorem wT : (a :: l).take 12 = a :: l.take 11 := rfl
theorem wU : List.replicate 12 x = x :: List.replicate 11 x := rfl
theorem wV : (a :: l)[13]? = l[12]? := rfl
theorem wW : (a :: l).set 13 x = a :: l.set 12 x := rfl
theorem wX : (a :: l).drop 13 = l.drop 12 := rfl
theorem wY : (a :: l).take 13 = a :: l.take 12 := rfl
theorem wZ : List.replicate 13 x = x :: List.replicate 12 x := rfl
theorem ja : (a :: l)[14]? = l[13]? := rfl
theorem jb : (a :: l).set 14 x = a :: l.set 13 x := rfl
theorem jc : (a :: l).drop 14 = l.drop 13 := rfl
theorem jd : (a :: l).take 14 = a :: l.take 13 := rfl
theorem je : List.replicate 14 x = x :: List.replicate 13 x := rfl
theorem jf : (a :: l)[15]? = l[14]? := rfl
theorem jg : (a :: l).set 15 x = a :: l.set 14 x := rfl
theorem jh : (a :: l).drop 15 = l.drop 14 := rfl
theorem ji : (a :: l).take 15 = a :: l.take 14 := rfl
theorem jj : List.replicate 15 x = x :: List.replicate 14 x := rfl
theorem jk : (a :: l)[16]? = l[15]? := rfl
theorem jl : (a :: l).set 16 x = a :: l.set 15 x := rfl
theorem jm : (a :: l).drop 16 = l.drop 15 := rfl
theorem jn : (a :: l).take 16 = a :: l.take 15 := rfl
theorem jo : List.replicate 16 x = x :: List.replicate 15 x := rfl
theorem jp : (a :: l)[17]? = l[16]? := rfl
theorem jq : (a :: l).set 17 x = a :: l.set 16 x := rfl
theorem jr : (a :: l)[18]? = l[17]? := rfl
theorem jt : (a :: l).set 18 x = a :: l.set 17 x := rfl
theorem ju : (a :: l)[19]? = l[18]? := rfl
theorem jv : (a :: l).set 19 x = a :: l.set 18 x := rfl
theorem jx : (a :: l)[20]? = l[19]? := rfl
theorem jy : (a :: l).set 20 x = a :: l.set 19 x := rfl
theorem jz : (a :: l)[21]? = l[20]? := rfl
theorem jA : (a :: l).set 21 x = a :: l.set 20 x := rfl
theorem jB : (a :: l)[22]? = l[21]? := rfl
theorem jC : (a :: l).set 22 x = a :: l.set 21 x := rfl
theorem jD : (a :: l)[23]? = l[22]? := rfl
theorem jE : (a :: l).set 23 x = a :: l.set 22 x := rfl
theorem jF : (a :: l)[24]? = l[23]? := rfl
theorem jG : (a :: l).set 24 x = a :: l.set 23 x := rfl
theorem jH : (a :: l)[25]? = l[24]? := rfl
theorem jI : (a :: l)[26]? = l[25]? := rfl
theorem jJ : (a :: l)[27]? = l[26]? := rfl
theorem jK : (a :: l)[28]? = l[27]? := rfl
theorem jL : (a :: l)[29]? = l[28]? := rfl
theorem jM : (a :: l)[30]? = l[29]? := rfl
theorem jN : (a :: l)[31]? = l[30]? := rfl
theorem jO : (a :: l)[32]? = l[31]? := rfl
theorem jP : (a :: l)[33]? = l[32]? := rfl
theorem jQ : (a :: l)[34]? = l[33]? := rfl
theorem jR : (a :: l)[35]? = l[34]? := rfl
theorem jS : (a :: l)[36]? = l[35]? := rfl
theorem jT : (a :: l)[37]? = l[36]? := rfl
theorem jU : (a :: l)[38]? = l[37]? := rfl
theorem jV : (a :: l)[39]? = l[38]? := rfl
theorem jW : (a :: l)[40]? = l[39]? := rfl
theorem jX : List.replicate 0 x = [] := rfl
end
end Go.Fx
namespace Go.Fx
open Go.RowKit
theorem rep_none {ρ : Nat → Loc} {X : Nat → Prop} {w : World} {h : List Blk} (hr : Rep ρ X w h) : Rep (gvLoc ρ fun _ => true) X w [] :=
  ⟨fun j k _ h1 => by simp [gvLoc] at h1, fun k _ => by simp [gvLoc], fun k b hb => by simp at hb, fun b ho => hr.disj b (gv_own ho), fun k h1 => by simp [gvLoc] at h1, hr.xlt⟩
theorem Fn_give {P : Program} {f : FuncId} {args : List V} {mv : List Nat} {R : V → List Blk → Prop} {y : V} (h : Fn P f args [] mv R) (hy : ∀ r hs, R r hs → wk y (gvV (fun _ => true) hs r)) : Fn P f args [] mv (Is y) := by
  intro ρ X w vals h1 h2
  refine Calls.mono (h ρ X w vals h1 h2) ?_
  rintro e w' ⟨val, r, h', ρ', q1, q2, q3, q4, q5, q6⟩
  exact ⟨val, y, [], _, q1, ⟨⟨rfl, rfl⟩, Nat.le_refl _⟩, q3.trans gv_fr, rep_none q4, wk_rep _ _ _ (hy r h' q2.1) (gv_rep q4 _ _ q5), fun k hk => by simp at hk⟩
theorem Fn_ghost {P : Program} {f : FuncId} {args : List V} {mv : List Nat} {R R' : V → List Blk → Prop} (h : Fn P f args [] mv R) (hR : ∀ r hs, R r hs → ∃ r' hs', R' r' hs' ∧ leG [] ⟨[(0, r)], hs, 0⟩ ⟨[(0, r')], hs', 0⟩) : Fn P f args [] mv R' := by
  intro ρ X w vals h1 h2
  refine Calls.mono (h ρ X w vals h1 h2) ?_
  rintro e w' ⟨val, r, h', ρ', q1, q2, q3, q4, q5, q6⟩
  obtain ⟨r', hs', g1, g2⟩ := hR r h' q2.1
  have hg : Good ρ X w [] 1 ⟨[(0, r)], h', 0⟩ ⟨#[val], []⟩ w' := by
    refine ⟨ρ', ⟨⟨q3, fun k hk => by simp at hk⟩, trivial⟩, ⟨q4, fun i => ?_⟩, rfl, Marks.nil⟩
    by_cases hi : i = 0
    · subst hi; exact q5
    · have : get [(0, r)] i = .any := by simp [get, hi]
      rw [this]; trivial
  obtain ⟨ρ2, ⟨⟨p1, _⟩, _⟩, ⟨p2, p3⟩, _⟩ := hg.leG g2
  exact ⟨val, r', hs', ρ2, q1, ⟨g1, Nat.zero_le _⟩, p1, p2, p3 0, fun k hk => by simp at hk⟩
end Go.Fx
namespace Go.Fx
open Go.RowKit
section
variable (P : Program)
def C0 : Ctr := fun f xs h0 mv R => Callable P f ∧ Fn P f xs h0 mv R
def I0 : Itr := fun f zas fx k Y h K => Callable P f ∧ Iter P f zas fx k Y h K
def Y0 : Nat → Yt := fun _ _ _ _ => False
def cxN (fx : List Nat) : Cx := ⟨C0 P, fx, [], I0 P, Y0, none⟩
theorem cxN_ok (fx : List Nat) : (cxN P fx).ok P := ⟨fun _ _ _ _ _ h => h, fun _ _ _ _ _ _ _ h => h⟩
def OkN (f : FuncId) (xs : List V) (h0 : List Blk) (mv : List Nat) (R : V → List Blk → Prop) : Prop := C0 P f xs h0 mv R
variable {P}
theorem okN_of (hP : P.follows .mixedOrders = true) {f : FuncId} {l0 l : LCode} {rs : List LRes} {nt : Nat} (fx : List Nat) (hl : rlF P f l0 = some (l, rs, nt)) {args : List V} {h0 : List Blk} {mv : List Nat} {R : V → List Blk → Prop} (hlen : args.length ≤ nt) (hb : keepP fx h0)
    (hfx : ∀ k, k < h0.length → k ∉ mv → k ∈ fx) (h : aw (cxN P fx) l (retP fx h0.length rs R) (fun _ _ => False) (retP fx h0.length rs R) ⟨args0 0 args, h0, 0⟩) : OkN P f args h0 mv R :=
  ⟨rlF_callable hl, Fn_rl hP (cxN_ok P fx) hl hlen hb hfx h⟩
theorem itN_of (hP : P.follows .mixedOrders = true) {f : FuncId} {l0 l : LCode} {nt : Nat} (fx : List Nat) (hl : rlF P f l0 = some (l, [], nt)) {args : List V} {h0 : List Blk} {k : Nat} {Y : Yt} {K : List Blk → Prop} (hlen : args.length ≤ nt)
    (h : aw ⟨C0 P, fx, [], I0 P, fun k' xs s Z => k' = k ∧ Y xs s Z, none⟩ l (fun s => K s.h) (fun _ _ => False) (fun s => K s.h) ⟨args0 0 args, h0, 0⟩) : I0 P f args fx k Y h0 K :=
  ⟨rlF_callable hl, Iter_rl (cx := ⟨C0 P, fx, [], I0 P, fun k' xs s Z => k' = k ∧ Y xs s Z, none⟩) hP ⟨fun _ _ _ _ _ h => h, fun _ _ _ _ _ _ _ h => h⟩ hl hlen h rfl rfl⟩
theorem okN_post {f : FuncId} {xs : List V} {h0 : List Blk} {mv : List Nat} {R R' : V → List Blk → Prop} (h : OkN P f xs h0 mv R) (hR : ∀ r h', R r h' → R' r h') : OkN P f xs h0 mv R' := by
  refine ⟨h.1, ?_⟩
  intro ρ X w vals h1 h2
  refine Calls.mono (h.2 ρ X w vals h1 h2) ?_
  rintro e w' ⟨val, r, h', ρ', q1, q2, q3, q4, q5, q6⟩
  exact ⟨val, r, h', ρ', q1, ⟨hR r h' q2.1, q2.2⟩, q3, q4, q5, q6⟩
theorem okN_give {f : FuncId} {xs : List V} {y : V} {R : V → List Blk → Prop} (h : OkN P f xs [] [] R) (hy : ∀ r hs, R r hs → wk y (gvV (fun _ => true) hs r)) : OkN P f xs [] [] (Is y) := ⟨h.1, Fn_give h.2 hy⟩
theorem okN_ghost {f : FuncId} {xs : List V} {R R' : V → List Blk → Prop} (h : OkN P f xs [] [] R) (hR : ∀ r hs, R r hs → ∃ r' hs', R' r' hs' ∧ leG [] ⟨[(0, r)], hs, 0⟩ ⟨[(0, r')], hs', 0⟩) : OkN P f xs [] [] R' := ⟨h.1, Fn_ghost h.2 hR⟩
end
def IsA (x : V) (h0 : List Blk) : V → List Blk → Prop := fun r h => r = x ∧ h = h0
theorem retP_isA {fx : List Nat} {n : Nat} {e : Env} {h : List Blk} {b : Nat} {rs : List LRes} {x : V} {h0 : List Blk} : retP fx n rs (IsA x h0) ⟨e, h, b⟩ = resP h e rs [] fun xs => (leH h h0 ∧ keepP fx h0 ∧ n ≤ h0.length ∧ wfV h0 (tupV xs) ∧ wfB h0 h0) ∧ tupV xs = x := by
  rw [retP_eq]
  congr 1
  funext xs
  apply propext
  constructor
  · rintro ⟨p, h1, h2, rfl⟩
    exact ⟨h1, h2⟩
  · rintro ⟨h1, h2⟩
    exact ⟨h0, h1, h2, rfl⟩
def IsQ {G : Type} (Q : G → Prop) (x : G → V) (h0 : G → List Blk) : V → List Blk → Prop := fun r h => ∃ g, Q g ∧ r = x g ∧ h = h0 g
theorem retP_isQ {G : Type} {Q : G → Prop} {fx : List Nat} {n : Nat} {e : Env} {h : List Blk} {b : Nat} {rs : List LRes} {x : G → V} {h0 : G → List Blk} (g : G) (hq : Q g)
    (hr : resP h e rs [] fun xs => (leH h (h0 g) ∧ keepP fx (h0 g) ∧ n ≤ (h0 g).length ∧ wfV (h0 g) (tupV xs) ∧ wfB (h0 g) (h0 g)) ∧ tupV xs = x g) : retP fx n rs (IsQ Q x h0) ⟨e, h, b⟩ := by
  have hm : ∀ {h : List Blk} {e : Env} (rs : List LRes) (acc : List V) {K K' : List V → Prop}, (∀ xs, K xs → K' xs) → resP h e rs acc K → resP h e rs acc K' := by
    intro h e rs
    induction rs with
    | nil => intro acc K K' hk h; exact hk _ h
    | cons r rs ih =>
      intro acc K K' hk hh
      cases r with
      | tmp t => exact ih _ hk hh
      | cell a n =>
        simp only [resP] at hh ⊢
        have hcs : ∀ (n : Option Nat) (f : Nat) (cs : List V) {A B : V → Prop}, (∀ x, A x → B x) → loadCs n f cs A → loadCs n f cs B := by
          intro n f cs A B hab hl
          unfold loadCs at hl ⊢
          split at hl
          · unfold optK at hl ⊢
            split at hl
            · exact hab _ hl
            · exact hl.elim
          · exact ⟨hl.1, hab _ hl.2⟩
        unfold loadP at hh ⊢
        split at hh
        · unfold loadB at hh ⊢
          split at hh
          · exact hcs _ _ _ (fun x => ih _ hk) hh
          · obtain ⟨hi, hh⟩ := hh; exact ⟨hi, hcs _ _ _ (fun x => ih _ hk) hh⟩
          · obtain ⟨hi, hh⟩ := hh; exact ⟨hi, hcs _ _ _ (fun x => ih _ hk) hh⟩
          · exact hh.elim
        · obtain ⟨hi, hh⟩ := hh; exact ⟨hi, hcs _ _ _ (fun x => ih _ hk) hh⟩
        · exact hh.elim
  rw [retP_eq]
  refine hm rs [] ?_ hr
  rintro xs ⟨h1, h2⟩
  exact ⟨h0 g, h1, g, hq, h2, rfl⟩
section
variable {cx : Cx} {f : FuncId} {args : List V} {e : Env} {h : List Blk} {b : Nat} {K : V → St → Prop}
theorem call_is {xs : List V} {x : V} (hC : cx.C f xs [] [] (Is x)) (h1 : lendsOk h (fun _ => none) args ∧ wkL xs (lends h (fun _ => none) args)) (hx : ren (fun j => some (h.length + j)) x = x) (keep : keepP cx.fx h) (h3 : K x ⟨e, h, b⟩) : callP cx f args ⟨e, h, b⟩ K := by
  refine callP_pure xs (Is x) h1 hC ?_
  rintro r h' ⟨rfl, rfl⟩
  simp only [List.map_nil, List.append_nil]
  exact ⟨keep, by rw [hx]; exact h3⟩
theorem call_isA (xs : List V) (x x' : V) (h0 h0' : List Blk) (hC : cx.C f xs [] [] (IsA x h0)) (h1 : lendsOk h (fun _ => none) args ∧ wkL xs (lends h (fun _ => none) args))
    (hx : ren (fun j => some (h.length + j)) x = x') (hh : h0.map (renB (fun j => some (h.length + j))) = h0') (keep : keepP cx.fx (h ++ h0')) (h3 : K x' ⟨e, h ++ h0', b⟩) : callP cx f args ⟨e, h, b⟩ K := by
  refine callP_pure xs (IsA x h0) h1 hC ?_
  rintro r h' ⟨rfl, rfl⟩
  rw [hx, hh]
  exact ⟨keep, h3⟩
theorem call_isN (ι : List Nat) (xs : List V) (x x' : V) (h0 h1 h' : List Blk) (hC : cx.C f xs h0 [] (IsA x h1))
    (hι : ι.Nodup ∧ ∀ k ∈ ι, k < h.length ∧ k ∉ cx.bn) (r0 : ι.map (fun k => renB (pos ι) (blk h k)) = h0) (ha : lendsOk h (pos ι) args ∧ wkL xs (lends h (pos ι) args)) (hlen : ι.length ≤ h1.length)
    (hh : setAll ι (h1.map (renB (back ι h.length))) h = h') (hx : ren (back ι h.length) x = x') (keep : keepP cx.fx h') (h3 : K x' ⟨e, h', b⟩) : callP cx f args ⟨e, h, b⟩ K := by
  have hkb : ∀ l : List Blk, l.map (killB []) = l := killB_nil
  refine ⟨ι, xs, [], IsA x h1, ⟨hι, by simp⟩, ha.1, ha.2, by rw [r0]; exact hC, ?_⟩
  rintro r h2 ⟨rfl, rfl⟩ _
  simp only [List.filterMap_nil, hkb, killE_nil, hh, hx]
  exact ⟨keep, h3⟩
theorem call_isM {G : Type} (Q : G → Prop) (ι mv M : List Nat) (xs : List V) (x : G → V) (h0 : List Blk) (h1 : G → List Blk) (hC : cx.C f xs h0 mv (IsQ Q x h1))
    (hι : ι.Nodup ∧ ∀ k ∈ ι, k < h.length ∧ k ∉ cx.bn) (hM : mv.filterMap (ι[·]?) = M ∧ ∀ j ∈ mv, ∀ k, ι[j]? = some k → k ∉ cx.fx) (r0 : ι.map (fun k => renB (pos ι) (blk h k)) = h0) (ha : lendsOk h (pos ι) args ∧ wkL xs (lends h (pos ι) args))
    (h3 : ∀ g, Q g → keepP cx.fx (setAll ι ((h1 g).map (renB (back ι h.length))) (h.map (killB M))) ∧ K (ren (back ι h.length) (x g)) ⟨killE M e, setAll ι ((h1 g).map (renB (back ι h.length))) (h.map (killB M)), b⟩) : callP cx f args ⟨e, h, b⟩ K := by
  refine ⟨ι, xs, mv, IsQ Q x h1, ⟨hι, hM.2⟩, ha.1, ha.2, by rw [r0]; exact hC, ?_⟩
  rintro r h2 ⟨g, hq, rfl, rfl⟩ _
  rw [hM.1]
  exact h3 g hq
end
end Go.Fx
namespace Go.Fx
open Go.RowKit
def rcdB (b : Option Blk) (K : RS → Env → Prop) : Prop :=
  match b with
  | some (.rcd t e) => K t e
  | _ => False
theorem rcdB_s {t : RS} {e : Env} {K : RS → Env → Prop} : rcdB (some (.rcd t e)) K = K t e := rfl
@[congr] theorem c_rcdB {b b' : Option Blk} {K : RS → Env → Prop} (q : b = b') : rcdB b K = rcdB b' K := by rw [q]
theorem rcdK_b {h : List Blk} {k : Nat} {K : RS → Env → Prop} : rcdK h k K = rcdB h[k]? K := by
  unfold rcdK rcdB; rfl
def itrK (x : V) (K : Nat → Prop) : Prop :=
  match x with
  | .itr k => K k
  | _ => False
theorem itrK_i {k : Nat} {K : Nat → Prop} : itrK (.itr k) K = K k := rfl
@[congr] theorem c_itrK {x x' : V} {K : Nat → Prop} (q : x = x') : itrK x K = itrK x' K := by rw [q]
def callY (Y : Nat → Yt) (k : Nat) (xs : List V) (s : St) (K : V → St → Prop) : Prop := Y k xs s K
@[congr] theorem c_callY {Y : Nat → Yt} {k : Nat} {xs xs' : List V} {s s' : St} {K : V → St → Prop} (q : xs = xs') (q2 : s = s') : callY Y k xs s K = callY Y k xs' s' K := by rw [q, q2]
def endT (t : RS) (A : Prop) (B : Nat → Prop) (C : Prop) : Prop :=
  match t with
  | .ready => A
  | .out none => C
  | .out (some j) => B j
  | _ => False
theorem endT_r {A C : Prop} {B : Nat → Prop} : endT .ready A B C = A := rfl
theorem endT_n {A C : Prop} {B : Nat → Prop} : endT (.out none) A B C = C := rfl
theorem endT_s {A C : Prop} {B : Nat → Prop} {j : Nat} : endT (.out (some j)) A B C = B j := rfl
@[congr] theorem c_endT {t t' : RS} {A C : Prop} {B : Nat → Prop} (q : t = t') : endT t A B C = endT t' A B C := by rw [q]
section
variable {cx : Cx} {e : Env} {h : List Blk} {b : Nat} {K : V → St → Prop} {Ks : St → Prop} {N R : St → Prop} {X : Nat → St → Prop} {d : Option Nat} {op : LOp}
@[congr] theorem c_aOpsY {l : List LOper} {s s' : St} {Ks : St → Prop} (q : s = s') : aOpsY cx l s Ks = aOpsY cx l s' Ks := by rw [q]
theorem aw_yreg {m n : Nat} {l : List LOper} : aw cx (.yreg m n l) N X R ⟨e, h, b⟩ = aOpsY cx l ⟨e, h ++ List.replicate n .dead, h.length⟩ N := rfl
theorem aw_ytree {n m : Nat} {p : LPlan} {l : List LOper} : aw cx (.ytree n p m l) N X R ⟨e, h, b⟩ = awP cx p [] (fun s' => aOpsY cx l s' N) ⟨e, h ++ List.replicate n .dead, h.length⟩ := rfl
theorem aOpsY_nil : aOpsY cx [] ⟨e, h, b⟩ Ks = Ks ⟨e, h, b⟩ := rfl
theorem yo_yld {f : Operand} {xs : List Operand} {r : List LOper} : aOpsY cx (⟨d, .yld f xs, none⟩ :: r) ⟨e, h, b⟩ Ks = itrK (ev e f) fun k => callY cx.y k (xs.map (ev e)) ⟨e, h, b⟩ fun x s' => aOpsY cx r (s'.put d x) Ks := by
  show yieldP cx f xs ⟨e, h, b⟩ _ = _
  unfold yieldP itrK callY; rfl
theorem yo_yldg {f : Operand} {xs : List Operand} {g : Nat} {w : Bool} {r : List LOper} : aOpsY cx (⟨d, .yld f xs, some (g, w)⟩ :: r) ⟨e, h, b⟩ Ks = guardP (get e g) w
      (itrK (ev ((g, .b w) :: e) f) fun k => callY cx.y k (xs.map (ev ((g, .b w) :: e))) ⟨(g, .b w) :: e, h, b⟩ fun x s' => aOpsY cx r (s'.put d x) Ks)
      (aOpsY cx r (St.put ⟨(g, .b !w) :: e, h, b⟩ d (.v (.tuple #[]))) Ks)
      (aOpsY cx r (St.put ⟨e, h, b⟩ d (.v (.tuple #[]))) Ks) := by
  show guardP (get e g) w (yieldP cx f xs ⟨(g, .b w) :: e, h, b⟩ _) _ _ = _
  unfold yieldP itrK callY; rfl
theorem yo_mov {x : Operand} {r : List LOper} : aOpsY cx (⟨d, (.mov x), none⟩ :: r) ⟨e, h, b⟩ Ks = aOp cx (.mov x) ⟨e, h, b⟩ fun x s' => aOpsY cx r (s'.put d x) Ks := rfl
theorem yg_mov {x : Operand} {g : Nat} {w : Bool} {r : List LOper} : aOpsY cx (⟨d, (.mov x), some (g, w)⟩ :: r) ⟨e, h, b⟩ Ks = guardP (get e g) w
      (aOp cx (.mov x) ⟨(g, .b w) :: e, h, b⟩ fun x s' => aOpsY cx r (s'.put d x) Ks)
      (aOpsY cx r (St.put ⟨(g, .b !w) :: e, h, b⟩ d (.v (.tuple #[]))) Ks)
      (aOpsY cx r (St.put ⟨e, h, b⟩ d (.v (.tuple #[]))) Ks) := rfl
theorem yo_pick {c x y : Operand} {r : List LOper} : aOpsY cx (⟨d, (.pick c x y), none⟩ :: r) ⟨e, h, b⟩ Ks = aOp cx (.pick c x y) ⟨e, h, b⟩ fun x s' => aOpsY cx r (s'.put d x) Ks := rfl
theorem yg_pick {c x y : Operand} {g : Nat} {w : Bool} {r : List LOper} : aOpsY cx (⟨d, (.pick c x y), some (g, w)⟩ :: r) ⟨e, h, b⟩ Ks = guardP (get e g) w
      (aOp cx (.pick c x y) ⟨(g, .b w) :: e, h, b⟩ fun x s' => aOpsY cx r (s'.put d x) Ks)
      (aOpsY cx r (St.put ⟨(g, .b !w) :: e, h, b⟩ d (.v (.tuple #[]))) Ks)
      (aOpsY cx r (St.put ⟨e, h, b⟩ d (.v (.tuple #[]))) Ks) := rfl
theorem yo_box {j : Nat} {x : Operand} {r : List LOper} : aOpsY cx (⟨d, (.box j x), none⟩ :: r) ⟨e, h, b⟩ Ks = aOp cx (.box j x) ⟨e, h, b⟩ fun x s' => aOpsY cx r (s'.put d x) Ks := rfl
theorem yg_box {j : Nat} {x : Operand} {g : Nat} {w : Bool} {r : List LOper} : aOpsY cx (⟨d, (.box j x), some (g, w)⟩ :: r) ⟨e, h, b⟩ Ks = guardP (get e g) w
      (aOp cx (.box j x) ⟨(g, .b w) :: e, h, b⟩ fun x s' => aOpsY cx r (s'.put d x) Ks)
      (aOpsY cx r (St.put ⟨(g, .b !w) :: e, h, b⟩ d (.v (.tuple #[]))) Ks)
      (aOpsY cx r (St.put ⟨e, h, b⟩ d (.v (.tuple #[]))) Ks) := rfl
theorem yo_alloc {j : Nat} {z : Value} {r : List LOper} : aOpsY cx (⟨d, (.alloc j z), none⟩ :: r) ⟨e, h, b⟩ Ks = aOp cx (.alloc j z) ⟨e, h, b⟩ fun x s' => aOpsY cx r (s'.put d x) Ks := rfl
theorem yg_alloc {j : Nat} {z : Value} {g : Nat} {w : Bool} {r : List LOper} : aOpsY cx (⟨d, (.alloc j z), some (g, w)⟩ :: r) ⟨e, h, b⟩ Ks = guardP (get e g) w
      (aOp cx (.alloc j z) ⟨(g, .b w) :: e, h, b⟩ fun x s' => aOpsY cx r (s'.put d x) Ks)
      (aOpsY cx r (St.put ⟨(g, .b !w) :: e, h, b⟩ d (.v (.tuple #[]))) Ks)
      (aOpsY cx r (St.put ⟨e, h, b⟩ d (.v (.tuple #[]))) Ks) := rfl
theorem yo_load {n : Option Nat} {x : Operand} {r : List LOper} : aOpsY cx (⟨d, (.load n x), none⟩ :: r) ⟨e, h, b⟩ Ks = aOp cx (.load n x) ⟨e, h, b⟩ fun x s' => aOpsY cx r (s'.put d x) Ks := rfl
theorem yg_load {n : Option Nat} {x : Operand} {g : Nat} {w : Bool} {r : List LOper} : aOpsY cx (⟨d, (.load n x), some (g, w)⟩ :: r) ⟨e, h, b⟩ Ks = guardP (get e g) w
      (aOp cx (.load n x) ⟨(g, .b w) :: e, h, b⟩ fun x s' => aOpsY cx r (s'.put d x) Ks)
      (aOpsY cx r (St.put ⟨(g, .b !w) :: e, h, b⟩ d (.v (.tuple #[]))) Ks)
      (aOpsY cx r (St.put ⟨e, h, b⟩ d (.v (.tuple #[]))) Ks) := rfl
theorem yo_store {n : Nat} {x y : Operand} {r : List LOper} : aOpsY cx (⟨d, (.store n x y), none⟩ :: r) ⟨e, h, b⟩ Ks = aOp cx (.store n x y) ⟨e, h, b⟩ fun x s' => aOpsY cx r (s'.put d x) Ks := rfl
theorem yg_store {n : Nat} {x y : Operand} {g : Nat} {w : Bool} {r : List LOper} : aOpsY cx (⟨d, (.store n x y), some (g, w)⟩ :: r) ⟨e, h, b⟩ Ks = guardP (get e g) w
      (aOp cx (.store n x y) ⟨(g, .b w) :: e, h, b⟩ fun x s' => aOpsY cx r (s'.put d x) Ks)
      (aOpsY cx r (St.put ⟨(g, .b !w) :: e, h, b⟩ d (.v (.tuple #[]))) Ks)
      (aOpsY cx r (St.put ⟨e, h, b⟩ d (.v (.tuple #[]))) Ks) := rfl
theorem yo_fld {n : Nat} {x : Operand} {r : List LOper} : aOpsY cx (⟨d, (.fld n x), none⟩ :: r) ⟨e, h, b⟩ Ks = aOp cx (.fld n x) ⟨e, h, b⟩ fun x s' => aOpsY cx r (s'.put d x) Ks := rfl
theorem yg_fld {n : Nat} {x : Operand} {g : Nat} {w : Bool} {r : List LOper} : aOpsY cx (⟨d, (.fld n x), some (g, w)⟩ :: r) ⟨e, h, b⟩ Ks = guardP (get e g) w
      (aOp cx (.fld n x) ⟨(g, .b w) :: e, h, b⟩ fun x s' => aOpsY cx r (s'.put d x) Ks)
      (aOpsY cx r (St.put ⟨(g, .b !w) :: e, h, b⟩ d (.v (.tuple #[]))) Ks)
      (aOpsY cx r (St.put ⟨e, h, b⟩ d (.v (.tuple #[]))) Ks) := rfl
theorem yo_idx {n : Nat} {x i : Operand} {r : List LOper} : aOpsY cx (⟨d, (.idx n x i), none⟩ :: r) ⟨e, h, b⟩ Ks = aOp cx (.idx n x i) ⟨e, h, b⟩ fun x s' => aOpsY cx r (s'.put d x) Ks := rfl
theorem yg_idx {n : Nat} {x i : Operand} {g : Nat} {w : Bool} {r : List LOper} : aOpsY cx (⟨d, (.idx n x i), some (g, w)⟩ :: r) ⟨e, h, b⟩ Ks = guardP (get e g) w
      (aOp cx (.idx n x i) ⟨(g, .b w) :: e, h, b⟩ fun x s' => aOpsY cx r (s'.put d x) Ks)
      (aOpsY cx r (St.put ⟨(g, .b !w) :: e, h, b⟩ d (.v (.tuple #[]))) Ks)
      (aOpsY cx r (St.put ⟨e, h, b⟩ d (.v (.tuple #[]))) Ks) := rfl
theorem yo_bin {o : BinOp} {ex : Bool} {x y : Operand} {r : List LOper} : aOpsY cx (⟨d, (.bin o ex x y), none⟩ :: r) ⟨e, h, b⟩ Ks = aOp cx (.bin o ex x y) ⟨e, h, b⟩ fun x s' => aOpsY cx r (s'.put d x) Ks := rfl
theorem yg_bin {o : BinOp} {ex : Bool} {x y : Operand} {g : Nat} {w : Bool} {r : List LOper} : aOpsY cx (⟨d, (.bin o ex x y), some (g, w)⟩ :: r) ⟨e, h, b⟩ Ks = guardP (get e g) w
      (aOp cx (.bin o ex x y) ⟨(g, .b w) :: e, h, b⟩ fun x s' => aOpsY cx r (s'.put d x) Ks)
      (aOpsY cx r (St.put ⟨(g, .b !w) :: e, h, b⟩ d (.v (.tuple #[]))) Ks)
      (aOpsY cx r (St.put ⟨e, h, b⟩ d (.v (.tuple #[]))) Ks) := rfl
theorem yo_len {x : Operand} {r : List LOper} : aOpsY cx (⟨d, (.len x), none⟩ :: r) ⟨e, h, b⟩ Ks = aOp cx (.len x) ⟨e, h, b⟩ fun x s' => aOpsY cx r (s'.put d x) Ks := rfl
theorem yg_len {x : Operand} {g : Nat} {w : Bool} {r : List LOper} : aOpsY cx (⟨d, (.len x), some (g, w)⟩ :: r) ⟨e, h, b⟩ Ks = guardP (get e g) w
      (aOp cx (.len x) ⟨(g, .b w) :: e, h, b⟩ fun x s' => aOpsY cx r (s'.put d x) Ks)
      (aOpsY cx r (St.put ⟨(g, .b !w) :: e, h, b⟩ d (.v (.tuple #[]))) Ks)
      (aOpsY cx r (St.put ⟨e, h, b⟩ d (.v (.tuple #[]))) Ks) := rfl
theorem yo_lens {x : Operand} {r : List LOper} : aOpsY cx (⟨d, (.lens x), none⟩ :: r) ⟨e, h, b⟩ Ks = aOp cx (.lens x) ⟨e, h, b⟩ fun x s' => aOpsY cx r (s'.put d x) Ks := rfl
theorem yg_lens {x : Operand} {g : Nat} {w : Bool} {r : List LOper} : aOpsY cx (⟨d, (.lens x), some (g, w)⟩ :: r) ⟨e, h, b⟩ Ks = guardP (get e g) w
      (aOp cx (.lens x) ⟨(g, .b w) :: e, h, b⟩ fun x s' => aOpsY cx r (s'.put d x) Ks)
      (aOpsY cx r (St.put ⟨(g, .b !w) :: e, h, b⟩ d (.v (.tuple #[]))) Ks)
      (aOpsY cx r (St.put ⟨e, h, b⟩ d (.v (.tuple #[]))) Ks) := rfl
theorem yo_not {x : Operand} {r : List LOper} : aOpsY cx (⟨d, (.not x), none⟩ :: r) ⟨e, h, b⟩ Ks = aOp cx (.not x) ⟨e, h, b⟩ fun x s' => aOpsY cx r (s'.put d x) Ks := rfl
theorem yg_not {x : Operand} {g : Nat} {w : Bool} {r : List LOper} : aOpsY cx (⟨d, (.not x), some (g, w)⟩ :: r) ⟨e, h, b⟩ Ks = guardP (get e g) w
      (aOp cx (.not x) ⟨(g, .b w) :: e, h, b⟩ fun x s' => aOpsY cx r (s'.put d x) Ks)
      (aOpsY cx r (St.put ⟨(g, .b !w) :: e, h, b⟩ d (.v (.tuple #[]))) Ks)
      (aOpsY cx r (St.put ⟨e, h, b⟩ d (.v (.tuple #[]))) Ks) := rfl
theorem yo_neg {x : Operand} {r : List LOper} : aOpsY cx (⟨d, (.neg x), none⟩ :: r) ⟨e, h, b⟩ Ks = aOp cx (.neg x) ⟨e, h, b⟩ fun x s' => aOpsY cx r (s'.put d x) Ks := rfl
theorem yg_neg {x : Operand} {g : Nat} {w : Bool} {r : List LOper} : aOpsY cx (⟨d, (.neg x), some (g, w)⟩ :: r) ⟨e, h, b⟩ Ks = guardP (get e g) w
      (aOp cx (.neg x) ⟨(g, .b w) :: e, h, b⟩ fun x s' => aOpsY cx r (s'.put d x) Ks)
      (aOpsY cx r (St.put ⟨(g, .b !w) :: e, h, b⟩ d (.v (.tuple #[]))) Ks)
      (aOpsY cx r (St.put ⟨e, h, b⟩ d (.v (.tuple #[]))) Ks) := rfl
theorem yo_conv {ex : Bool} {k : IntKind} {x : Operand} {r : List LOper} : aOpsY cx (⟨d, (.conv ex k x), none⟩ :: r) ⟨e, h, b⟩ Ks = aOp cx (.conv ex k x) ⟨e, h, b⟩ fun x s' => aOpsY cx r (s'.put d x) Ks := rfl
theorem yg_conv {ex : Bool} {k : IntKind} {x : Operand} {g : Nat} {w : Bool} {r : List LOper} : aOpsY cx (⟨d, (.conv ex k x), some (g, w)⟩ :: r) ⟨e, h, b⟩ Ks = guardP (get e g) w
      (aOp cx (.conv ex k x) ⟨(g, .b w) :: e, h, b⟩ fun x s' => aOpsY cx r (s'.put d x) Ks)
      (aOpsY cx r (St.put ⟨(g, .b !w) :: e, h, b⟩ d (.v (.tuple #[]))) Ks)
      (aOpsY cx r (St.put ⟨e, h, b⟩ d (.v (.tuple #[]))) Ks) := rfl
theorem yo_minmax {mx : Bool} {x y : Operand} {r : List LOper} : aOpsY cx (⟨d, (.minmax mx x y), none⟩ :: r) ⟨e, h, b⟩ Ks = aOp cx (.minmax mx x y) ⟨e, h, b⟩ fun x s' => aOpsY cx r (s'.put d x) Ks := rfl
theorem yg_minmax {mx : Bool} {x y : Operand} {g : Nat} {w : Bool} {r : List LOper} : aOpsY cx (⟨d, (.minmax mx x y), some (g, w)⟩ :: r) ⟨e, h, b⟩ Ks = guardP (get e g) w
      (aOp cx (.minmax mx x y) ⟨(g, .b w) :: e, h, b⟩ fun x s' => aOpsY cx r (s'.put d x) Ks)
      (aOpsY cx r (St.put ⟨(g, .b !w) :: e, h, b⟩ d (.v (.tuple #[]))) Ks)
      (aOpsY cx r (St.put ⟨e, h, b⟩ d (.v (.tuple #[]))) Ks) := rfl
theorem yo_fn {f : FuncId} {cs : List Operand} {r : List LOper} : aOpsY cx (⟨d, (.fn f cs), none⟩ :: r) ⟨e, h, b⟩ Ks = aOp cx (.fn f cs) ⟨e, h, b⟩ fun x s' => aOpsY cx r (s'.put d x) Ks := rfl
theorem yg_fn {f : FuncId} {cs : List Operand} {g : Nat} {w : Bool} {r : List LOper} : aOpsY cx (⟨d, (.fn f cs), some (g, w)⟩ :: r) ⟨e, h, b⟩ Ks = guardP (get e g) w
      (aOp cx (.fn f cs) ⟨(g, .b w) :: e, h, b⟩ fun x s' => aOpsY cx r (s'.put d x) Ks)
      (aOpsY cx r (St.put ⟨(g, .b !w) :: e, h, b⟩ d (.v (.tuple #[]))) Ks)
      (aOpsY cx r (St.put ⟨e, h, b⟩ d (.v (.tuple #[]))) Ks) := rfl
theorem yo_field {off : Nat} {n : Option Nat} {x : Operand} {r : List LOper} : aOpsY cx (⟨d, (.field off n x), none⟩ :: r) ⟨e, h, b⟩ Ks = aOp cx (.field off n x) ⟨e, h, b⟩ fun x s' => aOpsY cx r (s'.put d x) Ks := rfl
theorem yg_field {off : Nat} {n : Option Nat} {x : Operand} {g : Nat} {w : Bool} {r : List LOper} : aOpsY cx (⟨d, (.field off n x), some (g, w)⟩ :: r) ⟨e, h, b⟩ Ks = guardP (get e g) w
      (aOp cx (.field off n x) ⟨(g, .b w) :: e, h, b⟩ fun x s' => aOpsY cx r (s'.put d x) Ks)
      (aOpsY cx r (St.put ⟨(g, .b !w) :: e, h, b⟩ d (.v (.tuple #[]))) Ks)
      (aOpsY cx r (St.put ⟨e, h, b⟩ d (.v (.tuple #[]))) Ks) := rfl
theorem yo_slice {z : Nat} {x : Operand} {l u m : Option Operand} {r : List LOper} : aOpsY cx (⟨d, (.slice z x l u m), none⟩ :: r) ⟨e, h, b⟩ Ks = aOp cx (.slice z x l u m) ⟨e, h, b⟩ fun x s' => aOpsY cx r (s'.put d x) Ks := rfl
theorem yg_slice {z : Nat} {x : Operand} {l u m : Option Operand} {g : Nat} {w : Bool} {r : List LOper} : aOpsY cx (⟨d, (.slice z x l u m), some (g, w)⟩ :: r) ⟨e, h, b⟩ Ks = guardP (get e g) w
      (aOp cx (.slice z x l u m) ⟨(g, .b w) :: e, h, b⟩ fun x s' => aOpsY cx r (s'.put d x) Ks)
      (aOpsY cx r (St.put ⟨(g, .b !w) :: e, h, b⟩ d (.v (.tuple #[]))) Ks)
      (aOpsY cx r (St.put ⟨e, h, b⟩ d (.v (.tuple #[]))) Ks) := rfl
theorem yo_build {z : List Value} {ps : List (Nat × Nat × Operand)} {r : List LOper} : aOpsY cx (⟨d, (.build z ps), none⟩ :: r) ⟨e, h, b⟩ Ks = aOp cx (.build z ps) ⟨e, h, b⟩ fun x s' => aOpsY cx r (s'.put d x) Ks := rfl
theorem yg_build {z : List Value} {ps : List (Nat × Nat × Operand)} {g : Nat} {w : Bool} {r : List LOper} : aOpsY cx (⟨d, (.build z ps), some (g, w)⟩ :: r) ⟨e, h, b⟩ Ks = guardP (get e g) w
      (aOp cx (.build z ps) ⟨(g, .b w) :: e, h, b⟩ fun x s' => aOpsY cx r (s'.put d x) Ks)
      (aOpsY cx r (St.put ⟨(g, .b !w) :: e, h, b⟩ d (.v (.tuple #[]))) Ks)
      (aOpsY cx r (St.put ⟨e, h, b⟩ d (.v (.tuple #[]))) Ks) := rfl
theorem yo_eqb {neg : Bool} {x y : Operand} {r : List LOper} : aOpsY cx (⟨d, (.eqb neg x y), none⟩ :: r) ⟨e, h, b⟩ Ks = aOp cx (.eqb neg x y) ⟨e, h, b⟩ fun x s' => aOpsY cx r (s'.put d x) Ks := rfl
theorem yg_eqb {neg : Bool} {x y : Operand} {g : Nat} {w : Bool} {r : List LOper} : aOpsY cx (⟨d, (.eqb neg x y), some (g, w)⟩ :: r) ⟨e, h, b⟩ Ks = guardP (get e g) w
      (aOp cx (.eqb neg x y) ⟨(g, .b w) :: e, h, b⟩ fun x s' => aOpsY cx r (s'.put d x) Ks)
      (aOpsY cx r (St.put ⟨(g, .b !w) :: e, h, b⟩ d (.v (.tuple #[]))) Ks)
      (aOpsY cx r (St.put ⟨e, h, b⟩ d (.v (.tuple #[]))) Ks) := rfl
theorem yo_eqf {neg : Bool} {ks : List (Nat × TypeDesc)} {x y : Operand} {r : List LOper} : aOpsY cx (⟨d, (.eqf neg ks x y), none⟩ :: r) ⟨e, h, b⟩ Ks = aOp cx (.eqf neg ks x y) ⟨e, h, b⟩ fun x s' => aOpsY cx r (s'.put d x) Ks := rfl
theorem yg_eqf {neg : Bool} {ks : List (Nat × TypeDesc)} {x y : Operand} {g : Nat} {w : Bool} {r : List LOper} : aOpsY cx (⟨d, (.eqf neg ks x y), some (g, w)⟩ :: r) ⟨e, h, b⟩ Ks = guardP (get e g) w
      (aOp cx (.eqf neg ks x y) ⟨(g, .b w) :: e, h, b⟩ fun x s' => aOpsY cx r (s'.put d x) Ks)
      (aOpsY cx r (St.put ⟨(g, .b !w) :: e, h, b⟩ d (.v (.tuple #[]))) Ks)
      (aOpsY cx r (St.put ⟨e, h, b⟩ d (.v (.tuple #[]))) Ks) := rfl
theorem yo_shift {o : BinOp} {x y : Operand} {r : List LOper} : aOpsY cx (⟨d, (.shift o x y), none⟩ :: r) ⟨e, h, b⟩ Ks = aOp cx (.shift o x y) ⟨e, h, b⟩ fun x s' => aOpsY cx r (s'.put d x) Ks := rfl
theorem yg_shift {o : BinOp} {x y : Operand} {g : Nat} {w : Bool} {r : List LOper} : aOpsY cx (⟨d, (.shift o x y), some (g, w)⟩ :: r) ⟨e, h, b⟩ Ks = guardP (get e g) w
      (aOp cx (.shift o x y) ⟨(g, .b w) :: e, h, b⟩ fun x s' => aOpsY cx r (s'.put d x) Ks)
      (aOpsY cx r (St.put ⟨(g, .b !w) :: e, h, b⟩ d (.v (.tuple #[]))) Ks)
      (aOpsY cx r (St.put ⟨e, h, b⟩ d (.v (.tuple #[]))) Ks) := rfl
theorem yo_eqn {neg : Bool} {x : Operand} {v : Value} {r : List LOper} : aOpsY cx (⟨d, (.eqn neg x (.const v)), none⟩ :: r) ⟨e, h, b⟩ Ks = aOp cx (.eqn neg x (.const v)) ⟨e, h, b⟩ fun x s' => aOpsY cx r (s'.put d x) Ks := rfl
theorem yg_eqn {neg : Bool} {x : Operand} {v : Value} {g : Nat} {w : Bool} {r : List LOper} : aOpsY cx (⟨d, (.eqn neg x (.const v)), some (g, w)⟩ :: r) ⟨e, h, b⟩ Ks = guardP (get e g) w
      (aOp cx (.eqn neg x (.const v)) ⟨(g, .b w) :: e, h, b⟩ fun x s' => aOpsY cx r (s'.put d x) Ks)
      (aOpsY cx r (St.put ⟨(g, .b !w) :: e, h, b⟩ d (.v (.tuple #[]))) Ks)
      (aOpsY cx r (St.put ⟨e, h, b⟩ d (.v (.tuple #[]))) Ks) := rfl
theorem yo_lits {j sz n : Nat} {z : List Value} {ps : List (Nat × Operand)} {r : List LOper} : aOpsY cx (⟨d, (.lits j sz n z ps), none⟩ :: r) ⟨e, h, b⟩ Ks = aOp cx (.lits j sz n z ps) ⟨e, h, b⟩ fun x s' => aOpsY cx r (s'.put d x) Ks := rfl
theorem yg_lits {j sz n : Nat} {z : List Value} {ps : List (Nat × Operand)} {g : Nat} {w : Bool} {r : List LOper} : aOpsY cx (⟨d, (.lits j sz n z ps), some (g, w)⟩ :: r) ⟨e, h, b⟩ Ks = guardP (get e g) w
      (aOp cx (.lits j sz n z ps) ⟨(g, .b w) :: e, h, b⟩ fun x s' => aOpsY cx r (s'.put d x) Ks)
      (aOpsY cx r (St.put ⟨(g, .b !w) :: e, h, b⟩ d (.v (.tuple #[]))) Ks)
      (aOpsY cx r (St.put ⟨e, h, b⟩ d (.v (.tuple #[]))) Ks) := rfl
theorem yo_mk {j sz bytes : Nat} {z : List Value} {l c : Operand} {r : List LOper} : aOpsY cx (⟨d, (.mk j sz bytes z l c), none⟩ :: r) ⟨e, h, b⟩ Ks = aOp cx (.mk j sz bytes z l c) ⟨e, h, b⟩ fun x s' => aOpsY cx r (s'.put d x) Ks := rfl
theorem yg_mk {j sz bytes : Nat} {z : List Value} {l c : Operand} {g : Nat} {w : Bool} {r : List LOper} : aOpsY cx (⟨d, (.mk j sz bytes z l c), some (g, w)⟩ :: r) ⟨e, h, b⟩ Ks = guardP (get e g) w
      (aOp cx (.mk j sz bytes z l c) ⟨(g, .b w) :: e, h, b⟩ fun x s' => aOpsY cx r (s'.put d x) Ks)
      (aOpsY cx r (St.put ⟨(g, .b !w) :: e, h, b⟩ d (.v (.tuple #[]))) Ks)
      (aOpsY cx r (St.put ⟨e, h, b⟩ d (.v (.tuple #[]))) Ks) := rfl
theorem yo_append {j sz bytes : Nat} {x y : Operand} {r : List LOper} : aOpsY cx (⟨d, (.append j sz bytes x y), none⟩ :: r) ⟨e, h, b⟩ Ks = aOp cx (.append j sz bytes x y) ⟨e, h, b⟩ fun x s' => aOpsY cx r (s'.put d x) Ks := rfl
theorem yg_append {j sz bytes : Nat} {x y : Operand} {g : Nat} {w : Bool} {r : List LOper} : aOpsY cx (⟨d, (.append j sz bytes x y), some (g, w)⟩ :: r) ⟨e, h, b⟩ Ks = guardP (get e g) w
      (aOp cx (.append j sz bytes x y) ⟨(g, .b w) :: e, h, b⟩ fun x s' => aOpsY cx r (s'.put d x) Ks)
      (aOpsY cx r (St.put ⟨(g, .b !w) :: e, h, b⟩ d (.v (.tuple #[]))) Ks)
      (aOpsY cx r (St.put ⟨e, h, b⟩ d (.v (.tuple #[]))) Ks) := rfl
theorem yo_copy {sz : Nat} {x y : Operand} {r : List LOper} : aOpsY cx (⟨d, (.copy sz x y), none⟩ :: r) ⟨e, h, b⟩ Ks = aOp cx (.copy sz x y) ⟨e, h, b⟩ fun x s' => aOpsY cx r (s'.put d x) Ks := rfl
theorem yg_copy {sz : Nat} {x y : Operand} {g : Nat} {w : Bool} {r : List LOper} : aOpsY cx (⟨d, (.copy sz x y), some (g, w)⟩ :: r) ⟨e, h, b⟩ Ks = guardP (get e g) w
      (aOp cx (.copy sz x y) ⟨(g, .b w) :: e, h, b⟩ fun x s' => aOpsY cx r (s'.put d x) Ks)
      (aOpsY cx r (St.put ⟨(g, .b !w) :: e, h, b⟩ d (.v (.tuple #[]))) Ks)
      (aOpsY cx r (St.put ⟨e, h, b⟩ d (.v (.tuple #[]))) Ks) := rfl
theorem yo_mkv {j sz bytes : Nat} {z : List Value} {l c : Operand} {r : List LOper} : aOpsY cx (⟨d, (.mkv j sz bytes z l c), none⟩ :: r) ⟨e, h, b⟩ Ks = aOp cx (.mkv j sz bytes z l c) ⟨e, h, b⟩ fun x s' => aOpsY cx r (s'.put d x) Ks := rfl
theorem yg_mkv {j sz bytes : Nat} {z : List Value} {l c : Operand} {g : Nat} {w : Bool} {r : List LOper} : aOpsY cx (⟨d, (.mkv j sz bytes z l c), some (g, w)⟩ :: r) ⟨e, h, b⟩ Ks = guardP (get e g) w
      (aOp cx (.mkv j sz bytes z l c) ⟨(g, .b w) :: e, h, b⟩ fun x s' => aOpsY cx r (s'.put d x) Ks)
      (aOpsY cx r (St.put ⟨(g, .b !w) :: e, h, b⟩ d (.v (.tuple #[]))) Ks)
      (aOpsY cx r (St.put ⟨e, h, b⟩ d (.v (.tuple #[]))) Ks) := rfl
theorem yo_mset {kd : TypeDesc} {m k x : Operand} {r : List LOper} : aOpsY cx (⟨d, (.mset kd m k x), none⟩ :: r) ⟨e, h, b⟩ Ks = aOp cx (.mset kd m k x) ⟨e, h, b⟩ fun x s' => aOpsY cx r (s'.put d x) Ks := rfl
theorem yg_mset {kd : TypeDesc} {m k x : Operand} {g : Nat} {w : Bool} {r : List LOper} : aOpsY cx (⟨d, (.mset kd m k x), some (g, w)⟩ :: r) ⟨e, h, b⟩ Ks = guardP (get e g) w
      (aOp cx (.mset kd m k x) ⟨(g, .b w) :: e, h, b⟩ fun x s' => aOpsY cx r (s'.put d x) Ks)
      (aOpsY cx r (St.put ⟨(g, .b !w) :: e, h, b⟩ d (.v (.tuple #[]))) Ks)
      (aOpsY cx r (St.put ⟨e, h, b⟩ d (.v (.tuple #[]))) Ks) := rfl
theorem yo_mkmap {j : Nat} {r : List LOper} : aOpsY cx (⟨d, (.mkmap j none), none⟩ :: r) ⟨e, h, b⟩ Ks = aOp cx (.mkmap j none) ⟨e, h, b⟩ fun x s' => aOpsY cx r (s'.put d x) Ks := rfl
theorem yg_mkmap {j : Nat} {g : Nat} {w : Bool} {r : List LOper} : aOpsY cx (⟨d, (.mkmap j none), some (g, w)⟩ :: r) ⟨e, h, b⟩ Ks = guardP (get e g) w
      (aOp cx (.mkmap j none) ⟨(g, .b w) :: e, h, b⟩ fun x s' => aOpsY cx r (s'.put d x) Ks)
      (aOpsY cx r (St.put ⟨(g, .b !w) :: e, h, b⟩ d (.v (.tuple #[]))) Ks)
      (aOpsY cx r (St.put ⟨e, h, b⟩ d (.v (.tuple #[]))) Ks) := rfl
theorem yo_lookup {kd : TypeDesc} {z : Value} {ok : Bool} {m k : Operand} {r : List LOper} : aOpsY cx (⟨d, (.lookup kd z ok m k), none⟩ :: r) ⟨e, h, b⟩ Ks = aOp cx (.lookup kd z ok m k) ⟨e, h, b⟩ fun x s' => aOpsY cx r (s'.put d x) Ks := rfl
theorem yg_lookup {kd : TypeDesc} {z : Value} {ok : Bool} {m k : Operand} {g : Nat} {w : Bool} {r : List LOper} : aOpsY cx (⟨d, (.lookup kd z ok m k), some (g, w)⟩ :: r) ⟨e, h, b⟩ Ks = guardP (get e g) w
      (aOp cx (.lookup kd z ok m k) ⟨(g, .b w) :: e, h, b⟩ fun x s' => aOpsY cx r (s'.put d x) Ks)
      (aOpsY cx r (St.put ⟨(g, .b !w) :: e, h, b⟩ d (.v (.tuple #[]))) Ks)
      (aOpsY cx r (St.put ⟨e, h, b⟩ d (.v (.tuple #[]))) Ks) := rfl
theorem yo_mlen {m : Operand} {r : List LOper} : aOpsY cx (⟨d, (.mlen m), none⟩ :: r) ⟨e, h, b⟩ Ks = aOp cx (.mlen m) ⟨e, h, b⟩ fun x s' => aOpsY cx r (s'.put d x) Ks := rfl
theorem yg_mlen {m : Operand} {g : Nat} {w : Bool} {r : List LOper} : aOpsY cx (⟨d, (.mlen m), some (g, w)⟩ :: r) ⟨e, h, b⟩ Ks = guardP (get e g) w
      (aOp cx (.mlen m) ⟨(g, .b w) :: e, h, b⟩ fun x s' => aOpsY cx r (s'.put d x) Ks)
      (aOpsY cx r (St.put ⟨(g, .b !w) :: e, h, b⟩ d (.v (.tuple #[]))) Ks)
      (aOpsY cx r (St.put ⟨e, h, b⟩ d (.v (.tuple #[]))) Ks) := rfl
theorem yo_range {j : Nat} {m : Operand} {r : List LOper} : aOpsY cx (⟨d, (.range j m), none⟩ :: r) ⟨e, h, b⟩ Ks = aOp cx (.range j m) ⟨e, h, b⟩ fun x s' => aOpsY cx r (s'.put d x) Ks := rfl
theorem yg_range {j : Nat} {m : Operand} {g : Nat} {w : Bool} {r : List LOper} : aOpsY cx (⟨d, (.range j m), some (g, w)⟩ :: r) ⟨e, h, b⟩ Ks = guardP (get e g) w
      (aOp cx (.range j m) ⟨(g, .b w) :: e, h, b⟩ fun x s' => aOpsY cx r (s'.put d x) Ks)
      (aOpsY cx r (St.put ⟨(g, .b !w) :: e, h, b⟩ d (.v (.tuple #[]))) Ks)
      (aOpsY cx r (St.put ⟨e, h, b⟩ d (.v (.tuple #[]))) Ks) := rfl
theorem yo_next {i : Operand} {r : List LOper} : aOpsY cx (⟨d, (.next i), none⟩ :: r) ⟨e, h, b⟩ Ks = aOp cx (.next i) ⟨e, h, b⟩ fun x s' => aOpsY cx r (s'.put d x) Ks := rfl
theorem yg_next {i : Operand} {g : Nat} {w : Bool} {r : List LOper} : aOpsY cx (⟨d, (.next i), some (g, w)⟩ :: r) ⟨e, h, b⟩ Ks = guardP (get e g) w
      (aOp cx (.next i) ⟨(g, .b w) :: e, h, b⟩ fun x s' => aOpsY cx r (s'.put d x) Ks)
      (aOpsY cx r (St.put ⟨(g, .b !w) :: e, h, b⟩ d (.v (.tuple #[]))) Ks)
      (aOpsY cx r (St.put ⟨e, h, b⟩ d (.v (.tuple #[]))) Ks) := rfl
theorem yo_entry {i : Operand} {r : List LOper} : aOpsY cx (⟨d, (.entry i), none⟩ :: r) ⟨e, h, b⟩ Ks = aOp cx (.entry i) ⟨e, h, b⟩ fun x s' => aOpsY cx r (s'.put d x) Ks := rfl
theorem yg_entry {i : Operand} {g : Nat} {w : Bool} {r : List LOper} : aOpsY cx (⟨d, (.entry i), some (g, w)⟩ :: r) ⟨e, h, b⟩ Ks = guardP (get e g) w
      (aOp cx (.entry i) ⟨(g, .b w) :: e, h, b⟩ fun x s' => aOpsY cx r (s'.put d x) Ks)
      (aOpsY cx r (St.put ⟨(g, .b !w) :: e, h, b⟩ d (.v (.tuple #[]))) Ks)
      (aOpsY cx r (St.put ⟨e, h, b⟩ d (.v (.tuple #[]))) Ks) := rfl
theorem yo_pidx {n sz : Nat} {x i : Operand} {r : List LOper} : aOpsY cx (⟨d, (.prim (.pidx n sz) [x, i]), none⟩ :: r) ⟨e, h, b⟩ Ks = aOp cx (.prim (.pidx n sz) [x, i]) ⟨e, h, b⟩ fun x s' => aOpsY cx r (s'.put d x) Ks := rfl
theorem yg_pidx {n sz : Nat} {x i : Operand} {g : Nat} {w : Bool} {r : List LOper} : aOpsY cx (⟨d, (.prim (.pidx n sz) [x, i]), some (g, w)⟩ :: r) ⟨e, h, b⟩ Ks = guardP (get e g) w
      (aOp cx (.prim (.pidx n sz) [x, i]) ⟨(g, .b w) :: e, h, b⟩ fun x s' => aOpsY cx r (s'.put d x) Ks)
      (aOpsY cx r (St.put ⟨(g, .b !w) :: e, h, b⟩ d (.v (.tuple #[]))) Ks)
      (aOpsY cx r (St.put ⟨e, h, b⟩ d (.v (.tuple #[]))) Ks) := rfl
theorem yo_ps0 {n : Nat} {x : Operand} {r : List LOper} : aOpsY cx (⟨d, (.prim (.pslc n false false false) [x]), none⟩ :: r) ⟨e, h, b⟩ Ks = aOp cx (.prim (.pslc n false false false) [x]) ⟨e, h, b⟩ fun x s' => aOpsY cx r (s'.put d x) Ks := rfl
theorem yg_ps0 {n : Nat} {x : Operand} {g : Nat} {w : Bool} {r : List LOper} : aOpsY cx (⟨d, (.prim (.pslc n false false false) [x]), some (g, w)⟩ :: r) ⟨e, h, b⟩ Ks = guardP (get e g) w
      (aOp cx (.prim (.pslc n false false false) [x]) ⟨(g, .b w) :: e, h, b⟩ fun x s' => aOpsY cx r (s'.put d x) Ks)
      (aOpsY cx r (St.put ⟨(g, .b !w) :: e, h, b⟩ d (.v (.tuple #[]))) Ks)
      (aOpsY cx r (St.put ⟨e, h, b⟩ d (.v (.tuple #[]))) Ks) := rfl
theorem yo_psl {n : Nat} {x l : Operand} {r : List LOper} : aOpsY cx (⟨d, (.prim (.pslc n true false false) [x, l]), none⟩ :: r) ⟨e, h, b⟩ Ks = aOp cx (.prim (.pslc n true false false) [x, l]) ⟨e, h, b⟩ fun x s' => aOpsY cx r (s'.put d x) Ks := rfl
theorem yg_psl {n : Nat} {x l : Operand} {g : Nat} {w : Bool} {r : List LOper} : aOpsY cx (⟨d, (.prim (.pslc n true false false) [x, l]), some (g, w)⟩ :: r) ⟨e, h, b⟩ Ks = guardP (get e g) w
      (aOp cx (.prim (.pslc n true false false) [x, l]) ⟨(g, .b w) :: e, h, b⟩ fun x s' => aOpsY cx r (s'.put d x) Ks)
      (aOpsY cx r (St.put ⟨(g, .b !w) :: e, h, b⟩ d (.v (.tuple #[]))) Ks)
      (aOpsY cx r (St.put ⟨e, h, b⟩ d (.v (.tuple #[]))) Ks) := rfl
theorem yo_psu {n : Nat} {x u : Operand} {r : List LOper} : aOpsY cx (⟨d, (.prim (.pslc n false true false) [x, u]), none⟩ :: r) ⟨e, h, b⟩ Ks = aOp cx (.prim (.pslc n false true false) [x, u]) ⟨e, h, b⟩ fun x s' => aOpsY cx r (s'.put d x) Ks := rfl
theorem yg_psu {n : Nat} {x u : Operand} {g : Nat} {w : Bool} {r : List LOper} : aOpsY cx (⟨d, (.prim (.pslc n false true false) [x, u]), some (g, w)⟩ :: r) ⟨e, h, b⟩ Ks = guardP (get e g) w
      (aOp cx (.prim (.pslc n false true false) [x, u]) ⟨(g, .b w) :: e, h, b⟩ fun x s' => aOpsY cx r (s'.put d x) Ks)
      (aOpsY cx r (St.put ⟨(g, .b !w) :: e, h, b⟩ d (.v (.tuple #[]))) Ks)
      (aOpsY cx r (St.put ⟨e, h, b⟩ d (.v (.tuple #[]))) Ks) := rfl
theorem yo_pslu {n : Nat} {x l u : Operand} {r : List LOper} : aOpsY cx (⟨d, (.prim (.pslc n true true false) [x, l, u]), none⟩ :: r) ⟨e, h, b⟩ Ks = aOp cx (.prim (.pslc n true true false) [x, l, u]) ⟨e, h, b⟩ fun x s' => aOpsY cx r (s'.put d x) Ks := rfl
theorem yg_pslu {n : Nat} {x l u : Operand} {g : Nat} {w : Bool} {r : List LOper} : aOpsY cx (⟨d, (.prim (.pslc n true true false) [x, l, u]), some (g, w)⟩ :: r) ⟨e, h, b⟩ Ks = guardP (get e g) w
      (aOp cx (.prim (.pslc n true true false) [x, l, u]) ⟨(g, .b w) :: e, h, b⟩ fun x s' => aOpsY cx r (s'.put d x) Ks)
      (aOpsY cx r (St.put ⟨(g, .b !w) :: e, h, b⟩ d (.v (.tuple #[]))) Ks)
      (aOpsY cx r (St.put ⟨e, h, b⟩ d (.v (.tuple #[]))) Ks) := rfl
theorem yo_pslum {n : Nat} {x l u m : Operand} {r : List LOper} : aOpsY cx (⟨d, (.prim (.pslc n true true true) [x, l, u, m]), none⟩ :: r) ⟨e, h, b⟩ Ks = aOp cx (.prim (.pslc n true true true) [x, l, u, m]) ⟨e, h, b⟩ fun x s' => aOpsY cx r (s'.put d x) Ks := rfl
theorem yg_pslum {n : Nat} {x l u m : Operand} {g : Nat} {w : Bool} {r : List LOper} : aOpsY cx (⟨d, (.prim (.pslc n true true true) [x, l, u, m]), some (g, w)⟩ :: r) ⟨e, h, b⟩ Ks = guardP (get e g) w
      (aOp cx (.prim (.pslc n true true true) [x, l, u, m]) ⟨(g, .b w) :: e, h, b⟩ fun x s' => aOpsY cx r (s'.put d x) Ks)
      (aOpsY cx r (St.put ⟨(g, .b !w) :: e, h, b⟩ d (.v (.tuple #[]))) Ks)
      (aOpsY cx r (St.put ⟨e, h, b⟩ d (.v (.tuple #[]))) Ks) := rfl
theorem yo_peq {neg : Bool} {x y : Operand} {r : List LOper} : aOpsY cx (⟨d, (.prim (.peq neg) [x, y]), none⟩ :: r) ⟨e, h, b⟩ Ks = aOp cx (.prim (.peq neg) [x, y]) ⟨e, h, b⟩ fun x s' => aOpsY cx r (s'.put d x) Ks := rfl
theorem yg_peq {neg : Bool} {x y : Operand} {g : Nat} {w : Bool} {r : List LOper} : aOpsY cx (⟨d, (.prim (.peq neg) [x, y]), some (g, w)⟩ :: r) ⟨e, h, b⟩ Ks = guardP (get e g) w
      (aOp cx (.prim (.peq neg) [x, y]) ⟨(g, .b w) :: e, h, b⟩ fun x s' => aOpsY cx r (s'.put d x) Ks)
      (aOpsY cx r (St.put ⟨(g, .b !w) :: e, h, b⟩ d (.v (.tuple #[]))) Ks)
      (aOpsY cx r (St.put ⟨e, h, b⟩ d (.v (.tuple #[]))) Ks) := rfl
theorem yo_aidt {n sz : Nat} {x i : Operand} {r : List LOper} : aOpsY cx (⟨d, (.prim (.aidx n sz true) [x, i]), none⟩ :: r) ⟨e, h, b⟩ Ks = aOp cx (.prim (.aidx n sz true) [x, i]) ⟨e, h, b⟩ fun x s' => aOpsY cx r (s'.put d x) Ks := rfl
theorem yg_aidt {n sz : Nat} {x i : Operand} {g : Nat} {w : Bool} {r : List LOper} : aOpsY cx (⟨d, (.prim (.aidx n sz true) [x, i]), some (g, w)⟩ :: r) ⟨e, h, b⟩ Ks = guardP (get e g) w
      (aOp cx (.prim (.aidx n sz true) [x, i]) ⟨(g, .b w) :: e, h, b⟩ fun x s' => aOpsY cx r (s'.put d x) Ks)
      (aOpsY cx r (St.put ⟨(g, .b !w) :: e, h, b⟩ d (.v (.tuple #[]))) Ks)
      (aOpsY cx r (St.put ⟨e, h, b⟩ d (.v (.tuple #[]))) Ks) := rfl
theorem yo_aidf {n sz : Nat} {x i : Operand} {r : List LOper} : aOpsY cx (⟨d, (.prim (.aidx n sz false) [x, i]), none⟩ :: r) ⟨e, h, b⟩ Ks = aOp cx (.prim (.aidx n sz false) [x, i]) ⟨e, h, b⟩ fun x s' => aOpsY cx r (s'.put d x) Ks := rfl
theorem yg_aidf {n sz : Nat} {x i : Operand} {g : Nat} {w : Bool} {r : List LOper} : aOpsY cx (⟨d, (.prim (.aidx n sz false) [x, i]), some (g, w)⟩ :: r) ⟨e, h, b⟩ Ks = guardP (get e g) w
      (aOp cx (.prim (.aidx n sz false) [x, i]) ⟨(g, .b w) :: e, h, b⟩ fun x s' => aOpsY cx r (s'.put d x) Ks)
      (aOpsY cx r (St.put ⟨(g, .b !w) :: e, h, b⟩ d (.v (.tuple #[]))) Ks)
      (aOpsY cx r (St.put ⟨e, h, b⟩ d (.v (.tuple #[]))) Ks) := rfl
theorem yo_aeq {neg : Bool} {ks : List (Nat × TypeDesc)} {x y : Operand} {r : List LOper} : aOpsY cx (⟨d, (.prim (.aeq neg ks) [x, y]), none⟩ :: r) ⟨e, h, b⟩ Ks = aOp cx (.prim (.aeq neg ks) [x, y]) ⟨e, h, b⟩ fun x s' => aOpsY cx r (s'.put d x) Ks := rfl
theorem yg_aeq {neg : Bool} {ks : List (Nat × TypeDesc)} {x y : Operand} {g : Nat} {w : Bool} {r : List LOper} : aOpsY cx (⟨d, (.prim (.aeq neg ks) [x, y]), some (g, w)⟩ :: r) ⟨e, h, b⟩ Ks = guardP (get e g) w
      (aOp cx (.prim (.aeq neg ks) [x, y]) ⟨(g, .b w) :: e, h, b⟩ fun x s' => aOpsY cx r (s'.put d x) Ks)
      (aOpsY cx r (St.put ⟨(g, .b !w) :: e, h, b⟩ d (.v (.tuple #[]))) Ks)
      (aOpsY cx r (St.put ⟨e, h, b⟩ d (.v (.tuple #[]))) Ks) := rfl
theorem yo_sidx {x i : Operand} {r : List LOper} : aOpsY cx (⟨d, (.prim .sidx [x, i]), none⟩ :: r) ⟨e, h, b⟩ Ks = aOp cx (.prim .sidx [x, i]) ⟨e, h, b⟩ fun x s' => aOpsY cx r (s'.put d x) Ks := rfl
theorem yg_sidx {x i : Operand} {g : Nat} {w : Bool} {r : List LOper} : aOpsY cx (⟨d, (.prim .sidx [x, i]), some (g, w)⟩ :: r) ⟨e, h, b⟩ Ks = guardP (get e g) w
      (aOp cx (.prim .sidx [x, i]) ⟨(g, .b w) :: e, h, b⟩ fun x s' => aOpsY cx r (s'.put d x) Ks)
      (aOpsY cx r (St.put ⟨(g, .b !w) :: e, h, b⟩ d (.v (.tuple #[]))) Ks)
      (aOpsY cx r (St.put ⟨e, h, b⟩ d (.v (.tuple #[]))) Ks) := rfl
theorem yo_ss0 {x : Operand} {r : List LOper} : aOpsY cx (⟨d, (.prim (.sslc false false) [x]), none⟩ :: r) ⟨e, h, b⟩ Ks = aOp cx (.prim (.sslc false false) [x]) ⟨e, h, b⟩ fun x s' => aOpsY cx r (s'.put d x) Ks := rfl
theorem yg_ss0 {x : Operand} {g : Nat} {w : Bool} {r : List LOper} : aOpsY cx (⟨d, (.prim (.sslc false false) [x]), some (g, w)⟩ :: r) ⟨e, h, b⟩ Ks = guardP (get e g) w
      (aOp cx (.prim (.sslc false false) [x]) ⟨(g, .b w) :: e, h, b⟩ fun x s' => aOpsY cx r (s'.put d x) Ks)
      (aOpsY cx r (St.put ⟨(g, .b !w) :: e, h, b⟩ d (.v (.tuple #[]))) Ks)
      (aOpsY cx r (St.put ⟨e, h, b⟩ d (.v (.tuple #[]))) Ks) := rfl
theorem yo_ssl {x l : Operand} {r : List LOper} : aOpsY cx (⟨d, (.prim (.sslc true false) [x, l]), none⟩ :: r) ⟨e, h, b⟩ Ks = aOp cx (.prim (.sslc true false) [x, l]) ⟨e, h, b⟩ fun x s' => aOpsY cx r (s'.put d x) Ks := rfl
theorem yg_ssl {x l : Operand} {g : Nat} {w : Bool} {r : List LOper} : aOpsY cx (⟨d, (.prim (.sslc true false) [x, l]), some (g, w)⟩ :: r) ⟨e, h, b⟩ Ks = guardP (get e g) w
      (aOp cx (.prim (.sslc true false) [x, l]) ⟨(g, .b w) :: e, h, b⟩ fun x s' => aOpsY cx r (s'.put d x) Ks)
      (aOpsY cx r (St.put ⟨(g, .b !w) :: e, h, b⟩ d (.v (.tuple #[]))) Ks)
      (aOpsY cx r (St.put ⟨e, h, b⟩ d (.v (.tuple #[]))) Ks) := rfl
theorem yo_ssu {x u : Operand} {r : List LOper} : aOpsY cx (⟨d, (.prim (.sslc false true) [x, u]), none⟩ :: r) ⟨e, h, b⟩ Ks = aOp cx (.prim (.sslc false true) [x, u]) ⟨e, h, b⟩ fun x s' => aOpsY cx r (s'.put d x) Ks := rfl
theorem yg_ssu {x u : Operand} {g : Nat} {w : Bool} {r : List LOper} : aOpsY cx (⟨d, (.prim (.sslc false true) [x, u]), some (g, w)⟩ :: r) ⟨e, h, b⟩ Ks = guardP (get e g) w
      (aOp cx (.prim (.sslc false true) [x, u]) ⟨(g, .b w) :: e, h, b⟩ fun x s' => aOpsY cx r (s'.put d x) Ks)
      (aOpsY cx r (St.put ⟨(g, .b !w) :: e, h, b⟩ d (.v (.tuple #[]))) Ks)
      (aOpsY cx r (St.put ⟨e, h, b⟩ d (.v (.tuple #[]))) Ks) := rfl
theorem yo_sslu {x l u : Operand} {r : List LOper} : aOpsY cx (⟨d, (.prim (.sslc true true) [x, l, u]), none⟩ :: r) ⟨e, h, b⟩ Ks = aOp cx (.prim (.sslc true true) [x, l, u]) ⟨e, h, b⟩ fun x s' => aOpsY cx r (s'.put d x) Ks := rfl
theorem yg_sslu {x l u : Operand} {g : Nat} {w : Bool} {r : List LOper} : aOpsY cx (⟨d, (.prim (.sslc true true) [x, l, u]), some (g, w)⟩ :: r) ⟨e, h, b⟩ Ks = guardP (get e g) w
      (aOp cx (.prim (.sslc true true) [x, l, u]) ⟨(g, .b w) :: e, h, b⟩ fun x s' => aOpsY cx r (s'.put d x) Ks)
      (aOpsY cx r (St.put ⟨(g, .b !w) :: e, h, b⟩ d (.v (.tuple #[]))) Ks)
      (aOpsY cx r (St.put ⟨e, h, b⟩ d (.v (.tuple #[]))) Ks) := rfl
theorem yo_sbin {o : BinOp} {x y : Operand} {r : List LOper} : aOpsY cx (⟨d, (.prim (.sbin o) [x, y]), none⟩ :: r) ⟨e, h, b⟩ Ks = aOp cx (.prim (.sbin o) [x, y]) ⟨e, h, b⟩ fun x s' => aOpsY cx r (s'.put d x) Ks := rfl
theorem yg_sbin {o : BinOp} {x y : Operand} {g : Nat} {w : Bool} {r : List LOper} : aOpsY cx (⟨d, (.prim (.sbin o) [x, y]), some (g, w)⟩ :: r) ⟨e, h, b⟩ Ks = guardP (get e g) w
      (aOp cx (.prim (.sbin o) [x, y]) ⟨(g, .b w) :: e, h, b⟩ fun x s' => aOpsY cx r (s'.put d x) Ks)
      (aOpsY cx r (St.put ⟨(g, .b !w) :: e, h, b⟩ d (.v (.tuple #[]))) Ks)
      (aOpsY cx r (St.put ⟨e, h, b⟩ d (.v (.tuple #[]))) Ks) := rfl
theorem yo_mm {mx : Bool} {x : Operand} {xr : List Operand} {r : List LOper} : aOpsY cx (⟨d, (.prim (.mm mx) (x :: xr)), none⟩ :: r) ⟨e, h, b⟩ Ks = aOp cx (.prim (.mm mx) (x :: xr)) ⟨e, h, b⟩ fun x s' => aOpsY cx r (s'.put d x) Ks := rfl
theorem yg_mm {mx : Bool} {x : Operand} {xr : List Operand} {g : Nat} {w : Bool} {r : List LOper} : aOpsY cx (⟨d, (.prim (.mm mx) (x :: xr)), some (g, w)⟩ :: r) ⟨e, h, b⟩ Ks = guardP (get e g) w
      (aOp cx (.prim (.mm mx) (x :: xr)) ⟨(g, .b w) :: e, h, b⟩ fun x s' => aOpsY cx r (s'.put d x) Ks)
      (aOpsY cx r (St.put ⟨(g, .b !w) :: e, h, b⟩ d (.v (.tuple #[]))) Ks)
      (aOpsY cx r (St.put ⟨e, h, b⟩ d (.v (.tuple #[]))) Ks) := rfl
theorem yo_clr {sz j : Nat} {z : List Value} {x : Operand} {r : List LOper} : aOpsY cx (⟨d, (.eff (.clr sz z) j [x]), none⟩ :: r) ⟨e, h, b⟩ Ks = aOp cx (.eff (.clr sz z) j [x]) ⟨e, h, b⟩ fun x s' => aOpsY cx r (s'.put d x) Ks := rfl
theorem yg_clr {sz j : Nat} {z : List Value} {x : Operand} {g : Nat} {w : Bool} {r : List LOper} : aOpsY cx (⟨d, (.eff (.clr sz z) j [x]), some (g, w)⟩ :: r) ⟨e, h, b⟩ Ks = guardP (get e g) w
      (aOp cx (.eff (.clr sz z) j [x]) ⟨(g, .b w) :: e, h, b⟩ fun x s' => aOpsY cx r (s'.put d x) Ks)
      (aOpsY cx r (St.put ⟨(g, .b !w) :: e, h, b⟩ d (.v (.tuple #[]))) Ks)
      (aOpsY cx r (St.put ⟨e, h, b⟩ d (.v (.tuple #[]))) Ks) := rfl
theorem yo_looka {ks : List (Nat × TypeDesc)} {z : Value} {ok : Bool} {j : Nat} {m k : Operand} {r : List LOper} : aOpsY cx (⟨d, (.eff (.look ks z ok) j [m, k]), none⟩ :: r) ⟨e, h, b⟩ Ks = aOp cx (.eff (.look ks z ok) j [m, k]) ⟨e, h, b⟩ fun x s' => aOpsY cx r (s'.put d x) Ks := rfl
theorem yg_looka {ks : List (Nat × TypeDesc)} {z : Value} {ok : Bool} {j : Nat} {m k : Operand} {g : Nat} {w : Bool} {r : List LOper} : aOpsY cx (⟨d, (.eff (.look ks z ok) j [m, k]), some (g, w)⟩ :: r) ⟨e, h, b⟩ Ks = guardP (get e g) w
      (aOp cx (.eff (.look ks z ok) j [m, k]) ⟨(g, .b w) :: e, h, b⟩ fun x s' => aOpsY cx r (s'.put d x) Ks)
      (aOpsY cx r (St.put ⟨(g, .b !w) :: e, h, b⟩ d (.v (.tuple #[]))) Ks)
      (aOpsY cx r (St.put ⟨e, h, b⟩ d (.v (.tuple #[]))) Ks) := rfl
theorem yo_mseta {ks : List (Nat × TypeDesc)} {j : Nat} {m k x : Operand} {r : List LOper} : aOpsY cx (⟨d, (.eff (.mset ks) j [m, k, x]), none⟩ :: r) ⟨e, h, b⟩ Ks = aOp cx (.eff (.mset ks) j [m, k, x]) ⟨e, h, b⟩ fun x s' => aOpsY cx r (s'.put d x) Ks := rfl
theorem yg_mseta {ks : List (Nat × TypeDesc)} {j : Nat} {m k x : Operand} {g : Nat} {w : Bool} {r : List LOper} : aOpsY cx (⟨d, (.eff (.mset ks) j [m, k, x]), some (g, w)⟩ :: r) ⟨e, h, b⟩ Ks = guardP (get e g) w
      (aOp cx (.eff (.mset ks) j [m, k, x]) ⟨(g, .b w) :: e, h, b⟩ fun x s' => aOpsY cx r (s'.put d x) Ks)
      (aOpsY cx r (St.put ⟨(g, .b !w) :: e, h, b⟩ d (.v (.tuple #[]))) Ks)
      (aOpsY cx r (St.put ⟨e, h, b⟩ d (.v (.tuple #[]))) Ks) := rfl
theorem yo_b2s {j : Nat} {x : Operand} {r : List LOper} : aOpsY cx (⟨d, (.eff .b2s j [x]), none⟩ :: r) ⟨e, h, b⟩ Ks = aOp cx (.eff .b2s j [x]) ⟨e, h, b⟩ fun x s' => aOpsY cx r (s'.put d x) Ks := rfl
theorem yg_b2s {j : Nat} {x : Operand} {g : Nat} {w : Bool} {r : List LOper} : aOpsY cx (⟨d, (.eff .b2s j [x]), some (g, w)⟩ :: r) ⟨e, h, b⟩ Ks = guardP (get e g) w
      (aOp cx (.eff .b2s j [x]) ⟨(g, .b w) :: e, h, b⟩ fun x s' => aOpsY cx r (s'.put d x) Ks)
      (aOpsY cx r (St.put ⟨(g, .b !w) :: e, h, b⟩ d (.v (.tuple #[]))) Ks)
      (aOpsY cx r (St.put ⟨e, h, b⟩ d (.v (.tuple #[]))) Ks) := rfl
theorem yo_litv {sz n j : Nat} {z : List Value} {ix : List Nat} {xs : List Operand} {r : List LOper} : aOpsY cx (⟨d, (.eff (.litv sz n z ix) j xs), none⟩ :: r) ⟨e, h, b⟩ Ks = aOp cx (.eff (.litv sz n z ix) j xs) ⟨e, h, b⟩ fun x s' => aOpsY cx r (s'.put d x) Ks := rfl
theorem yg_litv {sz n j : Nat} {z : List Value} {ix : List Nat} {xs : List Operand} {g : Nat} {w : Bool} {r : List LOper} : aOpsY cx (⟨d, (.eff (.litv sz n z ix) j xs), some (g, w)⟩ :: r) ⟨e, h, b⟩ Ks = guardP (get e g) w
      (aOp cx (.eff (.litv sz n z ix) j xs) ⟨(g, .b w) :: e, h, b⟩ fun x s' => aOpsY cx r (s'.put d x) Ks)
      (aOpsY cx r (St.put ⟨(g, .b !w) :: e, h, b⟩ d (.v (.tuple #[]))) Ks)
      (aOpsY cx r (St.put ⟨e, h, b⟩ d (.v (.tuple #[]))) Ks) := rfl
theorem yo_appv {sz bytes j : Nat} {x y : Operand} {r : List LOper} : aOpsY cx (⟨d, (.eff (.appv sz bytes) j [x, y]), none⟩ :: r) ⟨e, h, b⟩ Ks = aOp cx (.eff (.appv sz bytes) j [x, y]) ⟨e, h, b⟩ fun x s' => aOpsY cx r (s'.put d x) Ks := rfl
theorem yg_appv {sz bytes j : Nat} {x y : Operand} {g : Nat} {w : Bool} {r : List LOper} : aOpsY cx (⟨d, (.eff (.appv sz bytes) j [x, y]), some (g, w)⟩ :: r) ⟨e, h, b⟩ Ks = guardP (get e g) w
      (aOp cx (.eff (.appv sz bytes) j [x, y]) ⟨(g, .b w) :: e, h, b⟩ fun x s' => aOpsY cx r (s'.put d x) Ks)
      (aOpsY cx r (St.put ⟨(g, .b !w) :: e, h, b⟩ d (.v (.tuple #[]))) Ks)
      (aOpsY cx r (St.put ⟨e, h, b⟩ d (.v (.tuple #[]))) Ks) := rfl
theorem yo_call {f : FuncId} {xs : List Operand} {r : List LOper} : aOpsY cx (⟨d, (.call f xs), none⟩ :: r) ⟨e, h, b⟩ Ks = aOp cx (.call f xs) ⟨e, h, b⟩ fun x s' => aOpsY cx r (s'.put d x) Ks := rfl
theorem yg_call {f : FuncId} {xs : List Operand} {g : Nat} {w : Bool} {r : List LOper} : aOpsY cx (⟨d, (.call f xs), some (g, w)⟩ :: r) ⟨e, h, b⟩ Ks = guardP (get e g) w
      (aOp cx (.call f xs) ⟨(g, .b w) :: e, h, b⟩ fun x s' => aOpsY cx r (s'.put d x) Ks)
      (aOpsY cx r (St.put ⟨(g, .b !w) :: e, h, b⟩ d (.v (.tuple #[]))) Ks)
      (aOpsY cx r (St.put ⟨e, h, b⟩ d (.v (.tuple #[]))) Ks) := rfl
theorem yo_ext {x : Operand} {i : Nat} {r : List LOper} : aOpsY cx (⟨d, (.ext x i), none⟩ :: r) ⟨e, h, b⟩ Ks = aOp cx (.ext x i) ⟨e, h, b⟩ fun x s' => aOpsY cx r (s'.put d x) Ks := rfl
theorem yg_ext {x : Operand} {i : Nat} {g : Nat} {w : Bool} {r : List LOper} : aOpsY cx (⟨d, (.ext x i), some (g, w)⟩ :: r) ⟨e, h, b⟩ Ks = guardP (get e g) w
      (aOp cx (.ext x i) ⟨(g, .b w) :: e, h, b⟩ fun x s' => aOpsY cx r (s'.put d x) Ks)
      (aOpsY cx r (St.put ⟨(g, .b !w) :: e, h, b⟩ d (.v (.tuple #[]))) Ks)
      (aOpsY cx r (St.put ⟨e, h, b⟩ d (.v (.tuple #[]))) Ks) := rfl
theorem yo_nilc {x : Operand} {r : List LOper} : aOpsY cx (⟨d, (.nilc x), none⟩ :: r) ⟨e, h, b⟩ Ks = aOp cx (.nilc x) ⟨e, h, b⟩ fun x s' => aOpsY cx r (s'.put d x) Ks := rfl
theorem yg_nilc {x : Operand} {g : Nat} {w : Bool} {r : List LOper} : aOpsY cx (⟨d, (.nilc x), some (g, w)⟩ :: r) ⟨e, h, b⟩ Ks = guardP (get e g) w
      (aOp cx (.nilc x) ⟨(g, .b w) :: e, h, b⟩ fun x s' => aOpsY cx r (s'.put d x) Ks)
      (aOpsY cx r (St.put ⟨(g, .b !w) :: e, h, b⟩ d (.v (.tuple #[]))) Ks)
      (aOpsY cx r (St.put ⟨e, h, b⟩ d (.v (.tuple #[]))) Ks) := rfl
theorem yo_callv {f : Operand} {xs : List Operand} {r : List LOper} : aOpsY cx (⟨d, (.callv f xs), none⟩ :: r) ⟨e, h, b⟩ Ks = aOp cx (.callv f xs) ⟨e, h, b⟩ fun x s' => aOpsY cx r (s'.put d x) Ks := rfl
theorem yg_callv {f : Operand} {xs : List Operand} {g : Nat} {w : Bool} {r : List LOper} : aOpsY cx (⟨d, (.callv f xs), some (g, w)⟩ :: r) ⟨e, h, b⟩ Ks = guardP (get e g) w
      (aOp cx (.callv f xs) ⟨(g, .b w) :: e, h, b⟩ fun x s' => aOpsY cx r (s'.put d x) Ks)
      (aOpsY cx r (St.put ⟨(g, .b !w) :: e, h, b⟩ d (.v (.tuple #[]))) Ks)
      (aOpsY cx r (St.put ⟨e, h, b⟩ d (.v (.tuple #[]))) Ks) := rfl
theorem begRd_e {k : Nat} : begRd k Ks ⟨e, h, b⟩ = rcdB h[k]? fun t e' => t = .ready ∧ Ks ⟨e, h.set k (.rcd .busy e'), b⟩ := rcdK_b
theorem endRd_e {k kE bI : Nat} {t : RS} {y : Bool} : endRd k kE bI K y t ⟨e, h, b⟩ = rcdB h[k]? fun t2 e2 => t2 = .busy ∧ rcdB h[kE]? fun t3 eI => t3 = .ghost ∧ K (.b y) ⟨eI, (h.set k (.rcd t e2)).set kE .dead, bI⟩ := by
  unfold endRd
  simp only [rcdK_b]
theorem endLp_e {k : Nat} : endLp k N X R h = rcdB h[k]? fun t e => (wfE (h.set k .dead) e ∧ wfB (h.set k .dead) (h.set k .dead)) ∧ endT t (N ⟨e, h.set k .dead, 0⟩) (fun j => X j ⟨e, h.set k .dead, 0⟩) (R ⟨e, h.set k .dead, 0⟩) := by
  unfold endLp
  simp only [rcdK_b]
  rfl
@[congr] theorem c_begRd {k : Nat} {s s' : St} (q : s = s') : begRd k Ks s = begRd k Ks s' := by rw [q]
@[congr] theorem c_endRd {k kE bI : Nat} {t : RS} {y : Bool} {s s' : St} (q : s = s') : endRd k kE bI K y t s = endRd k kE bI K y t s' := by rw [q]
@[congr] theorem c_endLp {k : Nat} {h h' : List Blk} (q : h = h') : endLp k N X R h = endLp k N X R h' := by rw [q]
def yR (cx : Cx) (ps : List Nat) (asg body : LCode) (k : Nat) : Yt := fun xs sI K => rcdK sI.h k fun t e => t = .ready ∧ xs.length = ps.length ∧
  aw { cx with fx := sI.h.length :: k :: cx.fx, y := fun _ _ _ _ => False, rk := some k } asg
    (begRd k fun s1 => aw { cx with fx := sI.h.length :: k :: cx.fx, y := fun _ _ _ _ => False, rk := some k } body
      (endRd k sI.h.length sI.b K true .ready) (fun j => endRd k sI.h.length sI.b K false (.out (some j))) (endRd k sI.h.length sI.b K false (.out none)) s1)
    (fun _ _ => False) (fun _ => False) ⟨setPs ps xs e, sI.h ++ [.rcd .ghost sI.e], sI.b⟩
theorem rfn_go {g : Operand} {ps : List Nat} {asg body : LCode} {gf : FuncId} {caps : List V} (n : Nat) (hn : h.length = n) (hg : ev e g = .clo gf caps) (hrk : inRdP cx.rk h)
    (hit : cx.it gf (.itr n :: caps) (n :: cx.fx) n (yR cx ps asg body n) (h ++ [.rcd .ready e]) (endLp n N X R)) : aw cx (.rfn g ps asg body) N X R ⟨e, h, b⟩ := by
  subst hn
  simp only [aw, hg]
  exact ⟨hrk, hit⟩
theorem yR_go {ps : List Nat} {asg body : LCode} {k : Nat} {xs : List V} {e0 : Env} (n : Nat) (hn : h.length = n) (hk : h[k]? = some (.rcd .ready e0)) (hl : xs.length = ps.length)
    (hgo : aw ⟨cx.C, n :: k :: cx.fx, cx.bn, cx.it, Y0, some k⟩ asg (begRd k fun s1 => aw ⟨cx.C, n :: k :: cx.fx, cx.bn, cx.it, Y0, some k⟩ body
      (endRd k n b K true .ready) (fun j => endRd k n b K false (.out (some j))) (endRd k n b K false (.out none)) s1) (fun _ _ => False) (fun _ => False) ⟨setPs ps xs e0, h ++ [.rcd .ghost e], b⟩) :
    yR cx ps asg body k xs ⟨e, h, b⟩ K := by
  subst hn
  unfold yR rcdK
  rw [show (⟨e, h, b⟩ : St).h[k]? = some (.rcd .ready e0) from hk]
  exact ⟨rfl, hl, hgo⟩
end
end Go.Fx
namespace Go.Fx
open Go.RowKit
theorem Fn_ghostN {P : Program} {f : FuncId} {args : List V} {h0 : List Blk} {mv : List Nat} {R R' : V → List Blk → Prop} (fx : List Nat) (hfx : ∀ k, k < h0.length → k ∉ mv → k ∈ fx) (hlt : ∀ k ∈ fx, k < h0.length ∧ k ∉ mv) (h : Fn P f args h0 mv R)
    (hR : ∀ r hs, R r hs → keepP fx hs ∧ ∃ r' hs', R' r' hs' ∧ h0.length ≤ hs'.length ∧ leG fx ⟨[(0, r)], hs, 0⟩ ⟨[(0, r')], hs', 0⟩) : Fn P f args h0 mv R' := by
  intro ρ X w vals h1 h2
  refine Calls.mono (h ρ X w vals h1 h2) ?_
  rintro e w' ⟨val, r, h', ρ', q1, q2, q3, q4, q5, q6⟩
  obtain ⟨hk, r', hs', g1, g1l, g2⟩ := hR r h' q2.1
  have hg : Good ρ X w fx 1 ⟨[(0, r)], h', 0⟩ ⟨#[val], []⟩ w' := by
    refine ⟨ρ', ⟨⟨q3, fun k hk => q6 k (hlt k hk).1 (hlt k hk).2⟩, hk⟩, ⟨q4, fun i => ?_⟩, rfl, Marks.nil⟩
    by_cases hi : i = 0
    · subst hi; exact q5
    · have : get [(0, r)] i = .any := by simp [get, hi]
      rw [this]; trivial
  obtain ⟨ρ2, ⟨⟨p1, p1b⟩, _⟩, ⟨p2, p3⟩, _⟩ := hg.leG g2
  exact ⟨val, r', hs', ρ2, q1, ⟨g1, g1l⟩, p1, p2, p3 0, fun k hk hm => p1b k (hfx k hk hm)⟩
theorem Fn_wk {P : Program} {f : FuncId} {args : List V} {h0 : List Blk} {mv : List Nat} {R R' : V → List Blk → Prop} (h : Fn P f args h0 mv R) (hR : ∀ r hs, R r hs → ∃ r', wk r' r ∧ R' r' hs) : Fn P f args h0 mv R' := by
  intro ρ X w vals h1 h2
  refine Calls.mono (h ρ X w vals h1 h2) ?_
  rintro e w' ⟨val, r, h', ρ', q1, q2, q3, q4, q5, q6⟩
  obtain ⟨r', g1, g2⟩ := hR r h' q2.1
  exact ⟨val, r', h', ρ', q1, ⟨g2, q2.2⟩, q3, q4, wk_rep _ _ _ g1 q5, q6⟩
theorem Fn_giveQ {P : Program} {f : FuncId} {args : List V} {mv : List Nat} {R R' : V → List Blk → Prop} (h : Fn P f args [] mv R) (hy : ∀ r hs, R r hs → ∃ y, wk y (gvV (fun _ => true) hs r) ∧ R' y []) : Fn P f args [] mv R' := by
  intro ρ X w vals h1 h2
  refine Calls.mono (h ρ X w vals h1 h2) ?_
  rintro e w' ⟨val, r, h', ρ', q1, q2, q3, q4, q5, q6⟩
  obtain ⟨y, g1, g2⟩ := hy r h' q2.1
  exact ⟨val, y, [], _, q1, ⟨g2, Nat.zero_le _⟩, q3.trans gv_fr, rep_none q4, wk_rep _ _ _ g1 (gv_rep q4 _ _ q5), fun k hk hm => by
    have := q6 k hk hm
    exact absurd hk (by simp)⟩
theorem okN_ofG {P : Program} (hP : P.follows .mixedOrders = true) {f : FuncId} {l0 l : LCode} {rs : List LRes} {nt : Nat} (fx : List Nat) (hl : rlF P f l0 = some (l, rs, nt)) {args : List V} {h0 : List Blk} {mv : List Nat} {R : V → List Blk → Prop} (hlen : args.length ≤ nt) (hb : keepP fx h0)
    (hfx : ∀ k, k < h0.length → k ∉ mv → k ∈ fx) {s0 : St} (hg : leG fx ⟨args0 0 args, h0, 0⟩ s0) (h : aw (cxN P fx) l (retP fx h0.length rs R) (fun _ _ => False) (retP fx h0.length rs R) s0) : OkN P f args h0 mv R := by
  refine ⟨rlF_callable hl, ?_⟩
  unfold rlF at hl
  split at hl
  · rename_i fn hf
    split at hl
    · rename_i c rs' hb' hr ht
      simp only [Bool.and_eq_true, Bool.not_eq_true', decide_eq_true_eq] at ht
      cases hm : rlC P fn.ntmps c l0 with
      | none => simp [hm] at hl
      | some l1 =>
        simp only [hm, Option.map_some, Option.some.injEq, Prod.mk.injEq] at hl
        obtain ⟨rfl, rfl, rfl⟩ := hl
        intro ρ X w vals hr0 ha
        have hvl := RepL_len ha
        refine (callsIn_wide (n := 0)).1 (callsIn_of_wp_marks hf hb' trivial ?_)
        have hgd : Good ρ X w fx fn.ntmps ⟨args0 0 args, h0, 0⟩ { tmps := vals.toArray ++ Array.replicate (fn.ntmps - vals.toArray.size) undef, defers := [] } w :=
          ⟨ρ, ⟨⟨Fr.refl _ _, fun _ _ => rfl⟩, hb⟩, ⟨hr0, args0_rep ha _⟩, by simp; omega, Marks.nil⟩
        have hend : ∀ s, retP fx h0.length rs' R s → ∀ a w', Good ρ X w fx fn.ntmps s a w' → ∃ v, (results fn a.tmps).run P w' = .ok v w' ∧ ∃ val r h' ρ', Ending.returned v = .returned val ∧ (R r h' ∧ h0.length ≤ h'.length) ∧ Fr ρ w ρ' w' ∧ Rep ρ' X w' h' ∧ RepV ρ' X w' r val ∧
            ∀ k, k < h0.length → k ∉ mv → ρ' k = ρ k := by
          intro s hret a w' hgood
          obtain ⟨ρ', ⟨⟨hf1, hfx1⟩, hk1⟩, ⟨hr1, he1⟩, hN1, hd1⟩ := hgood
          obtain ⟨xs, vs, h5, h6, h7⟩ := resP_run hr1 he1 fn.results.toList rs' [] [] hr trivial hret
          obtain ⟨p, ⟨h8, h9, h10, h11, h12⟩, h13⟩ := h5
          refine ⟨tupU vs, results_run ht.1 h7, _, _, p, dropLoc ρ' p, rfl, ⟨h13, h10⟩, hf1.trans drop_fr, dropRep hr1 h8 h12, ?_, fun k hk hkm => ?_⟩
          · exact drop_rep _ _ h11 (tup_rep (by simpa using h6))
          · have hkf := hfx k hk hkm
            rw [live_loc (keepP_get h9 k hkf)]
            exact hfx1 k hkf
        refine aw_sound (P := P) (X := X) (N := fn.ntmps) hP c l0 l1 hm none (cxN P fx) ρ w (cxN_ok P fx) (.inl rfl) trivial (fun k => YOk_none) _ (retP fx h0.length rs' R) (fun _ _ => False) (retP fx h0.length rs' R) ?_ ?_ (fun _ _ _ _ hx _ => hx.elim) ?_ _ _ _ h (hgd.leG hg)
        · rintro ⟨a, w', val, _, _, _, hq, _⟩
          cases hq
        · intro s a w' hret hgood
          exact leaves_of (hend s hret) a.defers a w' rfl hgood
        · intro s a w' hret hgood
          exact leaves_of (hend s hret) a.defers a w' rfl hgood
    · cases hl
  · cases hl
end Go.Fx
namespace Go.Fx
open Go.RowKit
theorem I0_le {P : Program} {f : FuncId} {zas : List V} {fx : List Nat} {k : Nat} {Y : Yt} {h h' : List Blk} {K : List Blk → Prop} (hle : leH h h') (hk : keepP fx h') (hw : wfB h' h') (ha : wfL h' zas) (hi : I0 P f zas fx k Y h' K) : I0 P f zas fx k Y h K := by
  refine ⟨hi.1, ?_⟩
  intro ρ X w vals hr hv hkp hY
  have := hi.2 (dropLoc ρ h') X w vals (dropRep hr hle hw) (drops_rep _ _ ha hv) hk (by
    intro ρ1 w1 s tmps xs vs Z ⟨hf, hfx⟩ g1 g2 g3 g4 g5
    exact hY ρ1 w1 s tmps xs vs Z ⟨drop_fr.trans hf, fun j hj => (hfx j hj).trans (live_loc (keepP_get hk j hj))⟩ g1 g2 g3 g4 g5)
  refine this.mono ?_
  rintro e w' ⟨val, h1, ρ', rfl, hK, ⟨hf, hr'⟩, hfx, hkp'⟩
  exact ⟨val, h1, ρ', rfl, hK, ⟨drop_fr.trans hf, hr'⟩, fun j hj => (hfx j hj).trans (live_loc (keepP_get hk j hj)), hkp'⟩
end Go.Fx
namespace Go.Fx.P
open Go Go.Fx Go.Proofs
structure Arc where
  from_ : Int
  to : Int
  cap : Int
  cost : Int
  deriving Inhabited
def Arc.enc (a : Arc) : List V := [.i a.from_, .i a.to, .i a.cap, .i a.cost]
def encI (x : Int) : List V := [.i x]
def encB (x : Bool) : List V := [.b x]
def net (n : Int) (arcs : List Arc) : V := .agg [.i n, .ro 4 (arcs.map Arc.enc)]
def li (l : List Int) : V := .ro 1 (l.map encI)
structure Fr where
  sent : Int
  cost : Int
  flow : List Int
  price : List Int
  cut : List Int
def Fr.enc (f : Fr) : V := .agg [.i f.sent, .i f.cost, li f.flow, li f.price, li f.cut]
structure Allot where
  gate : Int
  origin : Int
  n : Int
  deriving Inhabited, DecidableEq
def Allot.enc (a : Allot) : List V := [.i a.gate, .i a.origin, .i a.n]
structure Spot where
  kind : Int
  num : Int
  cap : Int
  deriving Inhabited, DecidableEq
def Spot.enc (a : Spot) : List V := [.i a.kind, .i a.num, .i a.cap]
structure Road where
  from_ : Int
  to : Int
  cap : Int
  cost : Int
  deriving Inhabited
def Road.enc (a : Road) : List V := [.i a.from_, .i a.to, .i a.cap, .i a.cost]
def sps (l : List Spot) : V := .ro 3 (l.map Spot.enc)
def rds (l : List Road) : V := .ro 4 (l.map Road.enc)
def plant (ps : List Spot) (rs : List Road) : V := .agg [sps ps, rds rs]
def als (l : List Allot) : V := .ro 3 (l.map Allot.enc)
abbrev Ok (f : FuncId) (xs : List V) (R : V → List Blk → Prop) : Prop := OkN Try.prog f xs [] [] R
theorem ok_of {f : FuncId} {l0 l : LCode} {rs : List LRes} {nt : Nat} (hl : rlF Try.prog f l0 = some (l, rs, nt)) {args : List V} {R : V → List Blk → Prop} (hlen : args.length ≤ nt)
    (h : aw (cxN Try.prog []) l (retP [] 0 rs R) (fun _ _ => False) (retP [] 0 rs R) ⟨args0 0 args, [], 0⟩) : Ok f args R :=
  okN_of pol [] hl hlen trivial (fun k hk => by simp at hk) h
theorem enc_len (a : Arc) : a.enc.length = 4 := rfl
theorem enc_take (a : Arc) : List.take 4 a.enc = a.enc := rfl
theorem enc_0 (a : Arc) : a.enc[0]? = some (.i a.from_) := rfl
theorem enc_1 (a : Arc) : a.enc[1]? = some (.i a.to) := rfl
theorem enc_2 (a : Arc) : a.enc[2]? = some (.i a.cap) := rfl
theorem enc_3 (a : Arc) : a.enc[3]? = some (.i a.cost) := rfl
theorem enc_isC (a : Arc) : a.enc.all isC = true := rfl
theorem enc_isD (a : Arc) : a.enc.all isD = true := rfl
theorem al_len (a : Allot) : a.enc.length = 3 := rfl
theorem al_take (a : Allot) : List.take 3 a.enc = a.enc := rfl
theorem al_0 (a : Allot) : a.enc[0]? = some (.i a.gate) := rfl
theorem al_1 (a : Allot) : a.enc[1]? = some (.i a.origin) := rfl
theorem al_2 (a : Allot) : a.enc[2]? = some (.i a.n) := rfl
theorem al_isC (a : Allot) : a.enc.all isC = true := rfl
theorem al_isD (a : Allot) : a.enc.all isD = true := rfl
theorem sp_len (a : Spot) : a.enc.length = 3 := rfl
theorem sp_take (a : Spot) : List.take 3 a.enc = a.enc := rfl
theorem sp_0 (a : Spot) : a.enc[0]? = some (.i a.kind) := rfl
theorem sp_1 (a : Spot) : a.enc[1]? = some (.i a.num) := rfl
theorem sp_2 (a : Spot) : a.enc[2]? = some (.i a.cap) := rfl
theorem sp_isC (a : Spot) : a.enc.all isC = true := rfl
theorem sp_isD (a : Spot) : a.enc.all isD = true := rfl
theorem rd_len (a : Road) : a.enc.length = 4 := rfl
theorem rd_take (a : Road) : List.take 4 a.enc = a.enc := rfl
theorem rd_0 (a : Road) : a.enc[0]? = some (.i a.from_) := rfl
theorem rd_1 (a : Road) : a.enc[1]? = some (.i a.to) := rfl
theorem rd_2 (a : Road) : a.enc[2]? = some (.i a.cap) := rfl
theorem rd_3 (a : Road) : a.enc[3]? = some (.i a.cost) := rfl
theorem rd_isC (a : Road) : a.enc.all isC = true := rfl
theorem rd_isD (a : Road) : a.enc.all isD = true := rfl
theorem encI_len (x : Int) : (encI x).length = 1 := rfl
theorem encI_0 (x : Int) : (encI x)[0]? = some (.i x) := rfl
theorem encI_drop (x : Int) : List.drop 1 (encI x) = [] := rfl
theorem encB_drop (x : Bool) : List.drop 1 (encB x) = [] := rfl
theorem encB_len (x : Bool) : (encB x).length = 1 := rfl
theorem encB_0 (x : Bool) : (encB x)[0]? = some (.b x) := rfl
end Go.Fx.P
namespace Go.Fx.P
open Go Go.Fx Go.Proofs
set_option maxRecDepth 20000
theorem leH_rf : ∀ h : List Blk, leH h h
  | [] => trivial
  | b :: h => by
    refine ⟨?_, leH_rf h⟩
    cases b <;> simp [leB]
    · rename_i cs
      induction cs with
      | nil => trivial
      | cons x cs ih => exact ⟨by cases x <;> simp [leV], ih⟩
def RightP (x : Spot) : Prop := (0 ≤ x.cap ∧ x.cap ≤ 1073741824) ∧ ((x.kind = 1 ∧ 0 ≤ x.num ∧ x.num < 64) ∨ ((x.kind = 2 ∨ x.kind = 3) ∧ 1 ≤ x.num ∧ x.num ≤ 1073741824))
instance (x : Spot) : Decidable (RightP x) := by unfold RightP; infer_instance
def rightB (x : Spot) : Bool := decide (RightP x)
theorem right_iff {x : Spot} {t : Bool} : (t = true ↔ RightP x) → t = rightB x := fun h => by
  rw [Bool.eq_iff_iff, h]; simp [rightB]
theorem ok43 (x : Spot) : Ok 43 [.agg x.enc] (Is (.b (rightB x))) := by
  refine ok_of lw43 (by simp) ?_
  unfold c43 Spot.enc
  simp -implicitDefEqProofs only [qV, qW, qZ, za, zb, ze, zf, zg, zh, zi, zj, zk, zm, zo, zq, kA, kC, kD, kH, ofConst, cells?, List.length_nil, List.length_cons, List.set_cons_zero, kI, List.getD_eq_getElem?_getD, List.getElem?_cons_zero, ↓reduceIte, Nat.reduceEqDiff, Option.getD_some, kJ, kL, Bool.not_true, Bool.not_false, ↓kM, ↓kN, kO, List.nil_append, List.append_nil, Nat.zero_add, Nat.add_zero, freshP, kQ, resP, tupV, List.reverse_cons, List.reverse_nil, wfV, true_and, V.v.injEq, Value.int.injEq, Value.bool.injEq, Bool.false_eq_true, lg0, kV, lg1, jX, ↓jY, ↓qaa, ↓qac, ↓qad, ↓qag, ↓qan, ↓qbY, ↓qca, ↓qcb, ↓qcc, ↓qcd, cxN, args0]
  simp only [br, decide_eq_true_eq, decide_eq_false_iff_not, beq_iff_eq, beq_eq_false_iff_ne]
  have e : ∀ t : Bool, (t = true ↔ RightP x) → t = rightB x := fun t => right_iff
  simp only [RightP] at e
  repeat' (first | (refine ⟨(0 : _), ?_⟩) | (refine ⟨by omega, ?_⟩) | (refine And.intro ?_ ?_) | (refine (fun _ => ?_)))
  all_goals (apply e; first | omega | (simp only [Bool.false_eq_true, false_iff, decide_eq_true_eq]; omega))
theorem ok44 (x : Spot) : Ok 44 [.agg x.enc] (Is (.b (rightB x))) := by
  refine ok_of lw44 (by simp) ?_
  unfold c44 Spot.enc
  simp -implicitDefEqProofs only [qV, qW, qZ, za, zb, ze, zf, zg, zh, zi, zj, zk, zm, zo, zq, kA, kC, kD, kH, ofConst, cells?, List.length_nil, List.length_cons, List.set_cons_zero, kI, List.getD_eq_getElem?_getD, List.getElem?_cons_zero, ↓reduceIte, Nat.reduceEqDiff, Option.getD_some, kJ, kL, Bool.not_true, Bool.not_false, ↓kM, ↓kN, kO, List.nil_append, List.append_nil, Nat.zero_add, Nat.add_zero, freshP, kQ, resP, tupV, List.reverse_cons, List.reverse_nil, wfV, true_and, V.v.injEq, Value.int.injEq, Value.bool.injEq, Bool.false_eq_true, lg0, kV, lg1, jX, ↓jY, ↓qaa, ↓qac, ↓qad, ↓qag, ↓qan, ↓qbY, ↓qca, ↓qcb, ↓qcc, ↓qcd, cxN, args0]
  simp only [br, decide_eq_true_eq, decide_eq_false_iff_not, beq_iff_eq, beq_eq_false_iff_ne]
  have e : ∀ t : Bool, (t = true ↔ RightP x) → t = rightB x := fun t => right_iff
  simp only [RightP] at e
  repeat' (first | (refine ⟨(0 : _), ?_⟩) | (refine ⟨by omega, ?_⟩) | (refine And.intro ?_ ?_) | (refine (fun _ => ?_)))
  all_goals (apply e; first | omega | (simp only [Bool.false_eq_true, false_iff, decide_eq_true_eq]; omega))
def SoundP (ps : List Spot) (r : Road) : Prop := ∃ (h1 : 0 ≤ r.from_ ∧ r.from_ < ps.length) (h2 : 0 ≤ r.to ∧ r.to < ps.length), r.from_ ≠ r.to ∧ (0 ≤ r.cap ∧ r.cap ≤ 1073741824) ∧ (0 ≤ r.cost ∧ r.cost ≤ 1048576) ∧ (ps[r.from_.toNat]'(by omega)).kind ≠ 3 ∧ (ps[r.to.toNat]'(by omega)).kind ≠ 1
open Classical in
noncomputable def soundB (ps : List Spot) (r : Road) : Bool := decide (SoundP ps r)
theorem sound_iff {ps : List Spot} {x : Road} {t : Bool} : (t = true ↔ SoundP ps x) → t = soundB ps x := fun h => by
  rw [Bool.eq_iff_iff, h]; simp [soundB]
theorem ok45 (ps : List Spot) (rs : List Road) (r : Road) : Ok 45 [plant ps rs, .agg r.enc] (Is (.b (soundB ps r))) := by
  refine ok_of lw45 (by simp) ?_
  unfold c45 plant sps rds Road.enc
  simp -implicitDefEqProofs only [qV, qW, qZ, za, ze, zf, zg, zh, zi, zj, zk, zm, zo, zp, zq, zr, kA, kC, kD, kH, ofConst, cells?, List.length_nil, List.length_cons, List.set_cons_zero, kI, List.getD_eq_getElem?_getD, List.getElem?_cons_zero, ↓reduceIte, Nat.reduceEqDiff, Option.getD_some, kJ, kL, Bool.not_true, Bool.not_false, ↓kM, ↓kN, kO, List.nil_append, List.append_nil, Nat.zero_add, Nat.reduceAdd, Nat.add_zero, reduceCtorEq, freshP, kQ, resP, tupV, List.reverse_cons, List.reverse_nil, wfV, true_and, V.v.injEq, Value.int.injEq, Value.bool.injEq, List.length_map, Bool.false_eq_true, lg0, kS, kV, lg1, kZ, lg2, jX, ↓jY, ↓qaa, ↓qab, ↓qac, ↓qad, ↓qag, ↓qan, ↓qao, ↓qaq, ↓qav, ↓qbY, ↓qbZ, ↓qca, ↓qcc, ↓qcd, List.length_map, List.getElem_map, sp_0, cxN, args0]
  simp only [br, decide_eq_true_eq, decide_eq_false_iff_not, beq_iff_eq, beq_eq_false_iff_ne]
  have e : ∀ t : Bool, (t = true ↔ SoundP ps r) → t = soundB ps r := fun t => sound_iff
  have bad : ¬ SoundP ps r → false = soundB ps r := fun h => by simp [soundB, h]
  repeat' (first | (refine ⟨(0 : _), ?_⟩) | (refine ⟨by omega, ?_⟩) | (refine And.intro ?_ ?_) | (refine (fun _ => ?_)))
  all_goals first
    | omega
    | (apply bad; rintro ⟨h1, h2, h3, h4, h5, h6, h7⟩; omega)
    | skip
  · rename_i h1 h2 h3 h4 h5 h6 h7 h8 h9 h10 h11
    apply e
    simp only [bne_iff_ne] at *
    exact ⟨fun h => ⟨⟨by omega, by omega⟩, ⟨by omega, by omega⟩, by omega, ⟨by omega, by omega⟩, ⟨by omega, by omega⟩, by assumption, h⟩, fun ⟨_, _, _, _, _, _, h⟩ => h⟩
  · rename_i hb
    apply bad
    rintro ⟨_, _, _, _, _, h, _⟩
    simp only [bne_eq_false_iff_eq] at hb
    exact h hb
end Go.Fx.P
namespace Go.Fx.P
open Go Go.Fx Go.Proofs
set_option maxRecDepth 20000
def firstE (f : Nat → Int) : Nat → Nat → Int
  | 0, _ => 0
  | n + 1, k => if f k = 0 then firstE f n (k + 1) else f k
theorem firstE_0 {f : Nat → Int} : ∀ {n k : Nat}, (∀ j, k ≤ j → j < k + n → f j = 0) → firstE f n k = 0
  | 0, _, _ => rfl
  | n + 1, k, h => by
    rw [firstE, if_pos (h k (by omega) (by omega))]
    exact firstE_0 fun j h1 h2 => h j (by omega) (by omega)
theorem firstE_at {f : Nat → Int} : ∀ {n k i : Nat}, k ≤ i → i < k + n → (∀ j, k ≤ j → j < i → f j = 0) → f i ≠ 0 → firstE f n k = f i
  | 0, _, _, h1, h2, _, _ => by omega
  | n + 1, k, i, h1, h2, h, hi => by
    rw [firstE]
    by_cases hk : k = i
    · subst hk; rw [if_neg hi]
    · rw [if_pos (h k (by omega) (by omega))]
      exact firstE_at (by omega) (by omega) (fun j h3 h4 => h j (by omega) h4) hi
def sameS (x y : Spot) : Bool := x.kind == y.kind && x.num == y.num
def twB (l : List Spot) (x : Spot) : Bool := l.any (sameS x)
def eAt (ps : List Spot) (i : Nat) : Int :=
  match ps[i]? with
  | some x => if rightB x = false then 400 else if twB (ps.take i) x then 6 else 0
  | none => 0
theorem eAt_lt {ps : List Spot} {i : Nat} (h : i < ps.length) : eAt ps i = if rightB ps[i] = false then 400 else if twB (ps.take i) ps[i] then 6 else 0 := by
  rw [eAt, List.getElem?_eq_getElem h]
open Classical in
noncomputable def chkP (ps : List Spot) (rs : List Road) : Int :=
  if 100 < ps.length ∨ 1500 < rs.length then 2 else if firstE (eAt ps) ps.length 0 ≠ 0 then firstE (eAt ps) ps.length 0 else if ∀ r ∈ rs, SoundP ps r then 0 else 400
structure PInv (ps : List Spot) (k : Nat) : Prop where
  h : ∀ j, j < k → eAt ps j = 0
structure RInv (ps : List Spot) (rs : List Road) (k : Nat) : Prop where
  h : ∀ j (h : j < rs.length), j < k → SoundP ps rs[j]
theorem chk_2 {ps : List Spot} {rs : List Road} (h : 100 < ps.length ∨ 1500 < rs.length) : chkP ps rs = 2 := by rw [chkP, if_pos h]
theorem chk_p {ps : List Spot} {rs : List Road} (h1 : ¬ 100 < ps.length) (h2 : ¬ 1500 < rs.length) {k : Nat} (hk : k < ps.length) (hv : PInv ps k) (h : eAt ps k ≠ 0) : chkP ps rs = eAt ps k := by
  have : firstE (eAt ps) ps.length 0 = eAt ps k := firstE_at (by omega) (by omega) (fun j _ hj => hv.h j hj) h
  rw [chkP, if_neg (by omega), this, if_pos h]
theorem chk_r {ps : List Spot} {rs : List Road} (h1 : ¬ 100 < ps.length) (h2 : ¬ 1500 < rs.length) (hv : PInv ps ps.length) {k : Nat} (hk : k < rs.length) (h : ¬ SoundP ps rs[k]) : chkP ps rs = 400 := by
  have : firstE (eAt ps) ps.length 0 = 0 := firstE_0 fun j _ hj => hv.h j (by omega)
  rw [chkP, if_neg (by omega), this, if_neg (by simp), if_neg]
  intro h3
  exact h (h3 _ (List.getElem_mem hk))
theorem chk_0 {ps : List Spot} {rs : List Road} (h1 : ¬ 100 < ps.length) (h2 : ¬ 1500 < rs.length) (hv : PInv ps ps.length) (hr : RInv ps rs rs.length) : chkP ps rs = 0 := by
  have : firstE (eAt ps) ps.length 0 = 0 := firstE_0 fun j _ hj => hv.h j (by omega)
  rw [chkP, if_neg (by omega), this, if_neg (by simp), if_pos]
  intro r hr2
  obtain ⟨j, hj, rfl⟩ := List.getElem_of_mem hr2
  exact hr.h j hj hj
theorem PInv.next {ps : List Spot} {k : Nat} (hv : PInv ps k) (h : eAt ps k = 0) : PInv ps (k + 1) := ⟨fun j hj => by
  by_cases h2 : j = k
  · subst h2; exact h
  · exact hv.h j (by omega)⟩
theorem RInv.next {ps : List Spot} {rs : List Road} {k : Nat} (hv : RInv ps rs k) (hk : k < rs.length) (h : SoundP ps rs[k]) : RInv ps rs (k + 1) := ⟨fun j hj hjk => by
  by_cases h2 : j = k
  · subst h2; exact h
  · exact hv.h j hj (by omega)⟩
def keyV (x : Spot) : Value := .agg #[.int .i64 x.kind, .int .i64 x.num, .int .i64 0]
def ents : List Spot → Nat → List (Value × V × Nat)
  | [], _ => []
  | x :: l, i => (keyV x, .b true, i) :: ents l (i + 1)
theorem ents_app : ∀ {l : List Spot} {i : Nat} {x : Spot}, ents (l ++ [x]) i = ents l i ++ [(keyV x, .b true, i + l.length)]
  | [], i, x => rfl
  | y :: l, i, x => by
    simp only [List.cons_append, ents, ents_app, List.length_cons]
    rw [show i + 1 + l.length = i + (l.length + 1) by omega]
abbrev spK : List (Nat × TypeDesc) := [(0, .int .i64), (1, .int .i64), (2, .int .i64)]
theorem ents_keys : ∀ {l : List Spot} {i : Nat}, keysA spK (ents l i)
  | [], _ => fun e he => by cases he
  | x :: l, i => fun e he => by
    rcases List.mem_cons.1 he with rfl | he
    · exact ⟨_, rfl, rfl, rfl⟩
    · exact ents_keys e he
theorem mf_ents : ∀ {l : List Spot} {x : Spot} {i j : Nat}, mfindA [.int .i64 x.kind, .int .i64 x.num, .int .i64 0] (ents l i) j = if twB l x then some (j + l.findIdx (sameS x), .b true) else none
  | [], x, i, j => rfl
  | y :: l, x, i, j => by
    simp only [ents, mfindA, keyV, mf_ents]
    have key : (List.zip [Value.int .i64 x.kind, .int .i64 x.num, .int .i64 0] (#[Value.int .i64 y.kind, .int .i64 y.num, .int .i64 0] : Array Value).toList).all (fun p => eqK p.1 p.2) = sameS x y := by
      simp [eqK, sameS]
    rw [key]
    cases h : sameS x y with
    | true => simp [twB, h, List.findIdx_cons]
    | false =>
      simp only [twB, List.any_cons, h, Bool.false_or, List.findIdx_cons, Bool.false_eq_true, if_false, cond_false]
      by_cases h2 : l.any (sameS x) = true
      · simp only [h2, if_true]; congr 2; omega
      · simp only [h2, Bool.false_eq_true, if_false]
theorem ents_wf {h : List Blk} : ∀ {l : List Spot} {i : Nat}, wfL h ((ents l i).map fun x => x.2.1)
  | [], _ => by simp [ents, wfL]
  | x :: l, i => by
    simp only [ents, List.map_cons, wfL]
    exact ⟨by simp [wfV], ents_wf⟩
theorem ok11 (ps : List Spot) (rs : List Road) : Ok 11 [plant ps rs] (Is (.i (chkP ps rs))) := by
  refine ok_of lw11 (by simp) ?_
  unfold c11 plant sps rds
  simp -implicitDefEqProofs only [qV, qW, qZ, za, zb, zc, ze, zf, zg, zh, zi, zj, zk, zm, zo, zq, zr, zM, kA, kC, kD, kH, ofConst, cells?, List.length_nil, List.length_cons, List.set_cons_zero, kI, List.getD_eq_getElem?_getD, List.getElem?_cons_zero, ↓reduceIte, Nat.reduceEqDiff, Option.getD_some, kJ, kL, Bool.not_false, ↓kM, ↓kN, kO, List.nil_append, List.cons_append, List.append_nil, Nat.zero_add, Nat.reduceAdd, Nat.add_zero, freshP, kQ, resP, tupV, List.reverse_cons, List.reverse_nil, wfV, true_and, V.v.injEq, Value.int.injEq, Value.bool.injEq, List.length_map, Bool.false_eq_true, lg0, kS, kV, jX, ↓jY, ↓qaa, ↓qac, ↓qad, ↓qag, ↓qan, ↓qav, ↓qcc, List.length_map, cxN, args0]
  simp only [br, decide_eq_true_eq, decide_eq_false_iff_not]
  refine fun hm => ⟨fun h => (chk_2 (.inl (by omega))).symm, fun h1 hm2 => ⟨fun h => (chk_2 (.inr (by omega))).symm, fun h2 => ?_⟩⟩
  intro _
  refine loopP_intro (fun k : Nat => ⟨[(22, .i k), (21, .i ps.length), (20, .ro 3 (ps.map Spot.enc)), (3, .mp 1), (1, .ptr 0 0 0)], [.var [.ro 3 (ps.map Spot.enc), .ro 4 (rs.map Road.enc)], .map (ents (ps.take k) 0) k], 0⟩) (fun k => k ≤ ps.length ∧ PInv ps k) (fun k => ps.length - k) 0 ⟨by omega, ⟨by simp⟩⟩ ?_ ?_
  · simp -implicitDefEqProofs only [kH, List.getElem?_cons_zero, ↓reduceIte, Nat.reduceEqDiff, kR, leE, leH, leB, leV, leVs, keepP, liveP, wfE, wfB, wfV, wfL, List.map_nil, List.take_zero, Bool.and_self, and_self, lg0, Int.natCast_zero, List.take_zero, ents]
  rintro k ⟨hk, hv⟩
  unfold c11l0
  simp -implicitDefEqProofs only [qV, qW, qZ, za, zb, zc, zd, zf, zg, zi, zl, zm, zn, zo, zp, zq, zr, kw, kA, kB, kC, kD, kH, ofConst, cells?, List.length_nil, List.length_cons, List.set_cons_zero, splice, kI, List.getD_eq_getElem?_getD, List.getElem?_cons_zero, ↓reduceIte, Nat.reduceEqDiff, Option.getD_some, kJ, kL, List.nil_append, List.cons_append, List.append_nil, Nat.zero_add, Nat.reduceAdd, Nat.add_zero, freshP, List.map_cons, List.map_nil, List.drop_zero, List.take_zero, List.drop_nil, Bool.and_true, true_and, and_true, List.not_mem_nil, List.length_append, List.length_map, not_false_eq_true, Nat.le_refl, lg0, kS, kT, kV, lg1, kW, kX, wb, jX, ↓jY, ↓qaa, ↓qab, ↓qac, ↓qad, ↓qag, ↓qah, ↓qai, ↓qak, ↓qan, ↓qaq, ↓qav, ↓qca, List.length_map, List.getElem_map, sp_len, sp_take, sp_isC, Int.toNat_natCast]
  simp only [br, decide_eq_true_eq, decide_eq_false_iff_not, Int.toNat_natCast]
  refine ⟨fun h => ?_, fun h => ?_⟩
  · have hk : k < ps.length := by omega
    refine ⟨⟨by omega, by omega⟩, hk, ?_⟩
    refine call_is (ok43 ps[k]) (by simp [lendsOk, lendOk, lends, lend, wkL, wk, Spot.enc, wkR]) rfl trivial ?_
    have he := eAt_lt hk
    cases hr : rightB ps[k] with
    | false =>
      rw [if_pos hr] at he
      simp -implicitDefEqProofs only [qW, qZ, za, ze, zf, zg, zi, zu, kA, kC, kD, kH, ofConst, List.length_nil, List.length_cons, ↓reduceIte, kK, kL, Bool.not_false, ↓kM, List.nil_append, List.append_nil, Nat.zero_add, Nat.reduceAdd, kQ, resP, tupV, List.reverse_cons, List.reverse_nil, wfV, true_and, V.v.injEq, Value.int.injEq, Value.bool.injEq, jX]
      rw [chk_p (by omega) (by omega) hk hv (by omega), he]
    | true =>
      rw [if_neg (by simp [hr])] at he
      simp -implicitDefEqProofs only [qV, qW, qZ, za, ze, zf, zg, zi, zm, zn, zo, zq, zu, ko, kp, kA, kB, kC, kD, kH, ofConst, cells?, List.length_nil, List.length_cons, List.set_cons_zero, splice, kI, List.getD_eq_getElem?_getD, List.getElem?_cons_zero, ↓reduceIte, Nat.reduceEqDiff, Option.getD_some, kJ, kK, kL, Bool.not_true, ↓kN, List.nil_append, List.cons_append, List.append_nil, Nat.zero_add, Nat.reduceAdd, Nat.add_zero, kQ, resP, tupV, List.reverse_cons, List.reverse_nil, kR, leE, leH, leB, leV, leVs, keepP, liveP, wfE, wfB, wfV, wfL, List.drop_zero, List.take_zero, List.take_nil, List.drop_nil, List.all_cons, List.all_nil, isC, Bool.and_true, Bool.and_self, true_and, and_true, and_self, V.v.injEq, Value.int.injEq, Value.bool.injEq, List.not_mem_nil, List.length_append, not_false_eq_true, Nat.reduceLeDiff, Nat.le_refl, lg0, kS, kT, kU, lg1, kW, kX, kY, wb, wc, jX, ↓jY, ↓qaa, ↓qad, ↓qah, ↓qai, ↓qaj, ↓qan, ↓qby, ↓qbz, ↓qbD, ↓qbE, ↓qbS, Spot.enc]
      simp only [mf_ents]
      refine ⟨rfl, ents_keys, ?_⟩
      cases ht : twB (ps.take k) ps[k] with
      | true =>
        rw [if_pos ht] at he
        have hc : 6 = chkP ps rs := by rw [chk_p (by omega) (by omega) hk hv (by omega), he]
        simp [lookK, brV, br, hc]
      | false =>
        rw [if_neg (by simp [ht])] at he
        simp only [Bool.false_eq_true, if_false, lookK, ofConst, brV, br, false_implies, true_implies, true_and, msetK]
        refine ⟨rfl, ents_keys, by simp only [lo, hi, maxLen] at *; omega, k + 1, ⟨⟨by omega, hv.next he⟩, by omega⟩, by omega, ?_, ents_wf⟩
        rw [List.take_succ_eq_append_getElem hk, ents_app, List.length_take]
        rw [show 0 + min k ps.length = k by omega]
        rfl
  have hk : k = ps.length := by omega
  subst hk
  intro hm3
  refine loopP_intro (fun k : Nat => ⟨[(39, .i k), (38, .i rs.length), (37, .ro 4 (rs.map Road.enc)), (1, .ptr 0 0 0)], [.var [.ro 3 (ps.map Spot.enc), .ro 4 (rs.map Road.enc)]], 0⟩) (fun k => k ≤ rs.length ∧ RInv ps rs k) (fun k => rs.length - k) 0 ⟨by omega, ⟨by simp⟩⟩ ?_ ?_
  · simp -implicitDefEqProofs only [kH, List.getElem?_cons_zero, ↓reduceIte, Nat.reduceEqDiff, kR, leE, leH, leB, leV, leVs, keepP, liveP, wfE, wfB, wfV, wfL, Bool.and_self, and_self, Int.natCast_zero]
  rintro k ⟨hk, hw⟩
  unfold c11l1
  simp -implicitDefEqProofs only [qV, qW, qZ, za, zb, zd, ze, zf, zg, zh, zi, zj, zl, zm, zn, zo, zp, zq, zr, zx, kk, kA, kB, kC, kD, kH, ofConst, cells?, List.length_nil, List.length_cons, List.set_cons_zero, splice, kI, List.getD_eq_getElem?_getD, List.getElem?_cons_zero, ↓reduceIte, Nat.reduceEqDiff, Option.getD_some, kJ, kL, Bool.not_false, ↓kM, ↓kN, kO, List.nil_append, List.cons_append, List.append_nil, Nat.zero_add, Nat.reduceAdd, Nat.add_zero, freshP, kQ, resP, tupV, List.reverse_cons, List.reverse_nil, kR, leE, leH, leB, leV, leVs, keepP, liveP, wfE, wfB, wfV, wfL, List.map_cons, List.map_nil, List.drop_zero, List.take_zero, List.drop_nil, Bool.and_true, Bool.and_self, true_and, and_true, and_self, V.v.injEq, Value.int.injEq, Value.bool.injEq, List.not_mem_nil, List.length_map, not_false_eq_true, Bool.false_eq_true, Nat.le_refl, lg0, kS, kT, kV, kX, wb, wg, jX, ↓jY, ↓qaa, ↓qab, ↓qac, ↓qad, ↓qag, ↓qah, ↓qai, ↓qak, ↓qan, ↓qao, ↓qaq, ↓qav, ↓qbs, ↓qbt, ↓qbS, ↓qbY, ↓qca, ↓qcc, ↓qcd, List.length_map, List.getElem_map, sp_0, rd_len, rd_take, rd_0, rd_1, rd_2, rd_3, rd_isC, Int.toNat_natCast]
  simp only [br, decide_eq_true_eq, decide_eq_false_iff_not, Int.toNat_natCast]
  refine ⟨fun h => ?_, fun h => ?_⟩
  · have hkl : k < rs.length := by omega
    have bad : ¬ SoundP ps rs[k] → 400 = chkP ps rs := fun h => (chk_r (by omega) (by omega) hv hkl h).symm
    simp only [beq_iff_eq, beq_eq_false_iff_ne, lo, hi, maxLen] at *
    repeat' (first | (refine ⟨(k + 1 : _), ?_⟩) | (refine ⟨by omega, ?_⟩) | (refine And.intro ?_ ?_) | (refine (fun _ => ?_)))
    all_goals first
      | omega
      | (apply bad; rintro ⟨⟨_, _⟩, ⟨_, _⟩, _, ⟨_, _⟩, ⟨_, _⟩, _, _⟩; first | omega | contradiction)
      | skip
    exact hw.next hkl ⟨⟨by omega, by omega⟩, ⟨by omega, by omega⟩, by assumption, ⟨by omega, by omega⟩, ⟨by omega, by omega⟩, by assumption, by assumption⟩
  · have hkl : k = rs.length := by omega
    subst hkl
    exact (chk_0 (by omega) (by omega) hv hw).symm
end Go.Fx.P
namespace Go.Fx.P
open Go Go.Fx Go.Proofs
set_option maxRecDepth 20000
structure TInv (ps : List Spot) (n k : Nat) : Prop where
  h : ∀ j (hn : n < ps.length) (h : j < ps.length), j < k → sameS ps[n] ps[j] = false
theorem tw_false {ps : List Spot} {n : Nat} (hn : n < ps.length) (h : TInv ps n n) : twB (ps.take n) ps[n] = false := by
  rw [twB, List.any_eq_false]
  intro y hy
  obtain ⟨j, hj, rfl⟩ := List.getElem_of_mem hy
  have := List.length_take (l := ps) (i := n)
  rw [List.getElem_take, h.h j hn (by omega) (by omega)]
  simp
theorem tw_true {ps : List Spot} {n k : Nat} (hn : n < ps.length) (hk : k < n) (h : sameS ps[n] ps[k] = true) : twB (ps.take n) ps[n] = true := by
  rw [twB, List.any_eq_true]
  have h2 : k < (ps.take n).length := by rw [List.length_take]; omega
  exact ⟨(ps.take n)[k], List.getElem_mem h2, by rw [List.getElem_take]; exact h⟩
theorem ok12 (ps : List Spot) (rs : List Road) : Ok 12 [plant ps rs] (Is (.i (chkP ps rs))) := by
  refine ok_of lw12 (by simp) ?_
  unfold c12 plant sps rds
  simp -implicitDefEqProofs only [qV, qW, qZ, za, zb, zc, ze, zf, zg, zh, zi, zj, zk, zm, zo, zq, zr, kA, kC, kD, kH, ofConst, cells?, List.length_nil, List.length_cons, List.set_cons_zero, kI, List.getD_eq_getElem?_getD, List.getElem?_cons_zero, ↓reduceIte, Nat.reduceEqDiff, Option.getD_some, kJ, kL, Bool.not_false, ↓kM, ↓kN, kO, List.nil_append, List.append_nil, Nat.zero_add, Nat.add_zero, freshP, kQ, resP, tupV, List.reverse_cons, List.reverse_nil, wfV, true_and, V.v.injEq, Value.int.injEq, Value.bool.injEq, List.length_map, Bool.false_eq_true, lg0, kV, jX, ↓jY, ↓qaa, ↓qac, ↓qad, ↓qag, ↓qan, ↓qav, ↓qcc, List.length_map, cxN, args0]
  simp only [br, decide_eq_true_eq, decide_eq_false_iff_not]
  refine fun hm => ⟨fun h => (chk_2 (.inl (by omega))).symm, fun h1 hm2 => ⟨fun h => (chk_2 (.inr (by omega))).symm, fun h2 => ?_⟩⟩
  refine loopP_intro (fun k : Nat => ⟨[(3, .i k), (1, .ptr 0 0 0)], [.var [.ro 3 (ps.map Spot.enc), .ro 4 (rs.map Road.enc)]], 0⟩) (fun k => k ≤ ps.length ∧ PInv ps k) (fun k => ps.length - k) 0 ⟨by omega, ⟨by simp⟩⟩ ?_ ?_
  · simp -implicitDefEqProofs only [kH, List.getElem?_cons_zero, ↓reduceIte, Nat.reduceEqDiff, kR, leE, leH, leB, leV, leVs, keepP, liveP, wfE, wfB, wfV, wfL, Bool.and_self, and_self, Int.natCast_zero]
  rintro n ⟨hn, hv⟩
  unfold c12l0
  simp -implicitDefEqProofs only [qV, qW, qZ, za, zb, zc, zd, zf, zg, zi, zm, zo, zp, zq, zr, kw, kA, kC, kD, kH, ofConst, List.length_nil, List.length_cons, kI, List.getD_eq_getElem?_getD, List.getElem?_cons_zero, ↓reduceIte, Nat.reduceEqDiff, Option.getD_some, kJ, kL, List.append_nil, Nat.zero_add, Nat.add_zero, List.map_cons, List.map_nil, List.drop_zero, true_and, List.length_map, Nat.le_refl, jX, ↓jY, ↓qaa, ↓qab, ↓qad, ↓qag, ↓qah, ↓qan, ↓qaq, ↓qav, ↓qca, List.length_map, List.getElem_map, sp_len, sp_take, Int.toNat_natCast]
  simp only [br, decide_eq_true_eq, decide_eq_false_iff_not, Int.toNat_natCast]
  refine fun _ => ⟨fun h => ?_, fun h => ?_⟩
  · have hnl : n < ps.length := by omega
    refine ⟨⟨by omega, by omega⟩, hnl, ?_⟩
    refine call_is (ok44 ps[n]) (by simp [lendsOk, lendOk, lends, lend, wkL, wk, Spot.enc, wkR]) rfl trivial ?_
    have he := eAt_lt hnl
    cases hr : rightB ps[n] with
    | false =>
      rw [if_pos hr] at he
      simp -implicitDefEqProofs only [qW, qZ, za, ze, zf, zg, zi, zu, kA, kC, kD, kH, ofConst, List.length_nil, List.length_cons, ↓reduceIte, kK, kL, Bool.not_false, ↓kM, List.nil_append, List.append_nil, Nat.zero_add, kQ, resP, tupV, List.reverse_cons, List.reverse_nil, wfV, true_and, V.v.injEq, Value.int.injEq, Value.bool.injEq, jX]
      rw [chk_p (by omega) (by omega) hnl hv (by omega), he]
    | true =>
      rw [if_neg (by simp [hr])] at he
      simp -implicitDefEqProofs only [qV, qW, qZ, za, zb, zc, zf, zg, zi, zu, kA, kC, kD, kH, ofConst, List.length_nil, List.length_cons, ↓reduceIte, kK, kL, Bool.not_true, ↓kN, List.append_nil, Nat.zero_add, jX]
      refine loopP_intro (fun k : Nat => ⟨[(5, .i k), (3, .i n), (1, .ptr 0 0 0)], [.var [.ro 3 (ps.map Spot.enc), .ro 4 (rs.map Road.enc)]], 0⟩) (fun k => k ≤ n ∧ TInv ps n k) (fun k => n - k) 0 ⟨by omega, ⟨by simp⟩⟩ ?_ ?_
      · simp -implicitDefEqProofs only [kH, List.getElem?_cons_zero, ↓reduceIte, Nat.reduceEqDiff, kR, leE, leH, leB, leV, leVs, keepP, liveP, wfE, wfB, wfV, wfL, Bool.and_self, and_self, Int.natCast_zero]
      rintro k ⟨hk, hw⟩
      unfold c12l1
      simp -implicitDefEqProofs only [qV, qW, qY, qZ, za, zb, zd, ze, zf, zg, zh, zi, zj, zm, zo, zp, zq, kA, kC, kD, kH, ofConst, List.length_nil, List.length_cons, kI, List.getD_eq_getElem?_getD, List.getElem?_cons_zero, ↓reduceIte, Nat.reduceEqDiff, Option.getD_some, kJ, kL, Bool.not_true, ↓kM, ↓kN, kO, List.nil_append, List.append_nil, Nat.zero_add, Nat.add_zero, kQ, resP, tupV, List.reverse_cons, List.reverse_nil, kR, leE, leH, leB, leV, leVs, keepP, liveP, wfE, wfB, wfV, wfL, Bool.and_true, Bool.and_self, true_and, and_true, and_self, V.v.injEq, Value.int.injEq, Value.bool.injEq, List.length_map, jX, ↓jY, ↓qaa, ↓qab, ↓qad, ↓qag, ↓qan, ↓qao, ↓qaq, ↓qbS, ↓qbY, ↓qca, List.length_map, List.getElem_map, sp_0, sp_1, Int.toNat_natCast]
      simp only [br, decide_eq_true_eq, decide_eq_false_iff_not, Int.toNat_natCast]
      refine ⟨fun h2 => ?_, fun h2 => ?_⟩
      · have hkn : k < n := by omega
        have bad : sameS ps[n] ps[k] = true → 6 = chkP ps rs := fun h3 => by
          rw [if_pos (tw_true hnl hkn h3)] at he
          rw [chk_p (by omega) (by omega) hnl hv (by omega), he]
        have good : sameS ps[n] ps[k] = false → TInv ps n (k + 1) := by
          intro h3
          refine ⟨fun j h5 h6 h7 => ?_⟩
          by_cases h8 : j = k
          · subst h8; exact h3
          · exact hw.h j h5 h6 (by omega)
        simp only [sameS] at bad good
        simp only [beq_iff_eq, beq_eq_false_iff_ne, Bool.and_eq_true, Bool.and_eq_false_iff, lo, hi, maxLen] at *
        repeat' (first | (refine ⟨(k + 1 : _), ?_⟩) | (refine ⟨by omega, ?_⟩) | (refine And.intro ?_ ?_) | (refine (fun _ => ?_)))
        all_goals first
          | omega
          | (apply bad; exact ⟨by omega, by omega⟩)
          | skip
        all_goals (apply good; first | (left; omega) | (right; omega))
      · have hkn : k = n := by omega
        subst hkn
        rw [if_neg (by simp [tw_false hnl hw])] at he
        exact ⟨by simp only [lo, hi, maxLen] at *; omega, k + 1, ⟨⟨by omega, hv.next he⟩, by omega⟩, by omega⟩
  have hk : n = ps.length := by omega
  subst hk
  refine loopP_intro (fun k : Nat => ⟨[(6, .i k), (1, .ptr 0 0 0)], [.var [.ro 3 (ps.map Spot.enc), .ro 4 (rs.map Road.enc)]], 0⟩) (fun k => k ≤ rs.length ∧ RInv ps rs k) (fun k => rs.length - k) 0 ⟨by omega, ⟨by simp⟩⟩ ?_ ?_
  · simp -implicitDefEqProofs only [kH, List.getElem?_cons_zero, ↓reduceIte, Nat.reduceEqDiff, kR, leE, leH, leB, leV, leVs, keepP, liveP, wfE, wfB, wfV, wfL, Bool.and_self, and_self, Int.natCast_zero]
  rintro k ⟨hk, hw⟩
  unfold c12l2
  simp -implicitDefEqProofs only [qV, qW, qX, qZ, za, zb, zd, ze, zf, zg, zi, zm, zo, zp, zq, zr, kw, kA, kC, kD, kH, ofConst, List.length_nil, List.length_cons, kI, List.getD_eq_getElem?_getD, List.getElem?_cons_zero, ↓reduceIte, Nat.reduceEqDiff, Option.getD_some, kJ, kL, List.nil_append, List.append_nil, Nat.zero_add, Nat.reduceAdd, kQ, resP, tupV, List.reverse_cons, List.reverse_nil, wfV, List.map_cons, List.map_nil, List.drop_zero, List.take_nil, true_and, V.v.injEq, Value.int.injEq, Value.bool.injEq, List.length_map, Nat.le_refl, lg0, kU, kY, jX, ↓jY, ↓qaa, ↓qab, ↓qac, ↓qad, ↓qag, ↓qah, ↓qan, ↓qaq, ↓qav, ↓qca, List.length_map, List.getElem_map, rd_len, rd_take, Int.toNat_natCast]
  simp only [br, decide_eq_true_eq, decide_eq_false_iff_not, Int.toNat_natCast]
  refine fun _ => ⟨fun h => ?_, fun h => ?_⟩
  · have hkl : k < rs.length := by omega
    refine ⟨⟨by omega, by omega⟩, hkl, ?_⟩
    refine call_is (ok45 ps rs rs[k]) (by simp [plant, sps, rds, lendsOk, lendOk, lends, lend, wkL, wk, Road.enc, wkR]) rfl trivial ?_
    cases hs : soundB ps rs[k] with
    | true =>
      have hS : SoundP ps rs[k] := by simpa [soundB] using hs
      simp -implicitDefEqProofs only [qV, qW, qZ, za, zf, zg, zi, zq, zu, kA, kC, kD, kH, ofConst, List.length_nil, List.length_cons, List.getElem?_cons_zero, ↓reduceIte, Nat.reduceEqDiff, kJ, kK, kL, Bool.not_true, ↓kN, List.append_nil, Nat.zero_add, kR, leE, leH, leB, leV, leVs, keepP, liveP, wfE, wfB, wfV, wfL, Bool.and_true, Bool.and_self, true_and, and_true, and_self, V.v.injEq, Value.int.injEq, Value.bool.injEq, jX, ↓qbS]
      exact ⟨by simp only [lo, hi, maxLen] at *; omega, k + 1, ⟨⟨by omega, hw.next hkl hS⟩, by omega⟩, by omega⟩
    | false =>
      have hS : ¬ SoundP ps rs[k] := by simpa [soundB] using hs
      simp -implicitDefEqProofs only [qW, qZ, za, ze, zf, zg, zi, zu, kA, kC, kD, kH, ofConst, List.length_nil, List.length_cons, ↓reduceIte, kK, kL, Bool.not_false, ↓kM, List.nil_append, List.append_nil, Nat.zero_add, kQ, resP, tupV, List.reverse_cons, List.reverse_nil, wfV, true_and, V.v.injEq, Value.int.injEq, Value.bool.injEq, jX]
      exact (chk_r (by omega) (by omega) hv hkl hS).symm
  · have hkl : k = rs.length := by omega
    subst hkl
    exact (chk_0 (by omega) (by omega) hv hw).symm
end Go.Fx.P
namespace Go.Fx.P
open Go Go.Fx Go.Proofs
set_option maxRecDepth 20000
def isK (ps : List Spot) (kind : Int) (i : Nat) : Bool :=
  match ps[i]? with
  | some x => x.kind == kind
  | none => false
theorem isK_lt {ps : List Spot} {kind : Int} {i : Nat} (h : i < ps.length) : isK ps kind i = (ps[i].kind == kind) := by
  rw [isK, List.getElem?_eq_getElem h]
def ofN (ps : List Spot) (kind : Int) (n : Nat) : List Nat := (List.range n).filter (isK ps kind)
theorem ofN_succ {ps : List Spot} {kind : Int} {n : Nat} : ofN ps kind (n + 1) = ofN ps kind n ++ (if isK ps kind n then [n] else []) := by
  rw [ofN, List.range_succ, List.filter_append]
  by_cases h : isK ps kind n = true <;> simp [ofN, h]
theorem ofN_len {ps : List Spot} {kind : Int} {n : Nat} : (ofN ps kind n).length ≤ n := by
  have := List.length_filter_le (isK ps kind) (List.range n)
  rw [List.length_range] at this
  exact this
theorem ofN_mem {ps : List Spot} {kind : Int} {n i : Nat} (h : i ∈ ofN ps kind n) : i < n := by
  have := (List.mem_filter.1 h).1
  exact List.mem_range.1 this
def nE (n : Nat) : List V := [.i n]
theorem nE_len (x : Nat) : (nE x).length = 1 := rfl
theorem nE_0 (x : Nat) : (nE x)[0]? = some (.i x) := rfl
theorem nE_take (x : Nat) : List.take 1 (nE x) = nE x := rfl
theorem nE_isC (x : Nat) : (nE x).all isC = true := rfl
theorem nE_isD (x : Nat) : (nE x).all isD = true := rfl
def lnat (l : List Nat) : V := .ro 1 (l.map nE)
theorem ok47 (ps : List Spot) (rs : List Road) (kind : Int) (hl : ps.length ≤ 100) : Ok 47 [plant ps rs, .i kind] (Is (lnat (ofN ps kind ps.length))) := by
  refine okN_give (R := fun r hs => wk (lnat (ofN ps kind ps.length)) (gvV (fun _ => true) hs r)) ?_ fun _ _ h => h
  refine ok_of lw47 (by simp) ?_
  unfold c47 plant sps rds
  simp -implicitDefEqProofs only [qW, qZ, zb, zc, zf, zg, zi, zk, zm, zo, zr, kA, kC, kD, kH, ofConst, cells?, List.length_nil, List.length_cons, List.set_cons_zero, kI, List.getD_eq_getElem?_getD, List.getElem?_cons_zero, ↓reduceIte, Nat.reduceEqDiff, Option.getD_some, List.nil_append, List.append_nil, Nat.zero_add, Nat.add_zero, freshP, true_and, List.length_map, kV, jX, ↓jY, ↓qaa, ↓qad, ↓qag, ↓qan, ↓qav, List.length_map, cxN, args0]
  intro hm
  refine loopP_ghost (.virt 1 1 (by decide) (.nilE 5 1 rfl (.refl _))) (fun k : Nat => ⟨[(11, .i k), (10, .i ps.length), (9, .ro 3 (ps.map Spot.enc)), (5, .sl 1 0 (ofN ps kind k).length), (2, .ptr 0 0 0), (1, .i kind)], [.var [.ro 3 (ps.map Spot.enc), .ro 4 (rs.map Road.enc)], .arr 1 ((ofN ps kind k).map nE)], 0⟩) (fun k => k ≤ ps.length) (fun k => ps.length - k) 0 (by omega) ?_ ?_
  · simp -implicitDefEqProofs only [kH, List.length_nil, List.getElem?_cons_zero, ↓reduceIte, Nat.reduceEqDiff, List.nil_append, List.cons_append, reduceCtorEq, kR, leE, leH, leB, leV, leVs, keepP, liveP, wfE, wfB, wfV, wfL, List.map_nil, Bool.and_self, and_self, lg0, kV, jX, Int.natCast_zero, ofN, List.range_zero, List.filter_nil]
  rintro k hk
  unfold c47l0
  simp -implicitDefEqProofs only [qV, qW, qZ, za, zb, zd, ze, zf, zg, zi, zl, zm, zn, zo, zp, zq, zG, zI, kA, kB, kC, kD, kH, ofConst, cells?, List.length_nil, List.length_cons, List.set_cons_zero, splice, kI, List.getD_eq_getElem?_getD, List.getElem?_cons_zero, ↓reduceIte, Nat.reduceEqDiff, Option.getD_some, kJ, kL, List.nil_append, List.cons_append, List.append_nil, Nat.zero_add, Nat.reduceAdd, Nat.add_zero, reduceCtorEq, freshP, litsP, kR, leE, leH, leB, leV, leVs, keepP, liveP, wfE, wfB, wfV, wfL, killE, killB, kill, kills, St.kill, List.map_cons, List.map_nil, List.drop_zero, List.take_zero, List.take_nil, List.drop_nil, List.all_cons, List.all_nil, isD, Bool.and_true, Bool.and_self, true_and, and_true, and_self, V.v.injEq, Value.int.injEq, Value.bool.injEq, List.mem_cons, List.not_mem_nil, or_false, false_or, List.length_map, not_false_eq_true, Nat.reduceLT, Nat.le_refl, lg0, kS, kT, kU, kV, lg1, kW, kX, kZ, lg2, wa, wb, jX, ↓jY, ↓qaa, ↓qab, ↓qad, ↓qag, ↓qah, ↓qai, ↓qak, ↓qan, ↓qaq, ↓qaF, ↓qaG, ↓qaW, ↓qaX, ↓qbS, ↓qbY, ↓qca, List.length_map, List.getElem_map, sp_len, sp_take, sp_0, sp_isC, Int.toNat_natCast]
  simp only [br, Int.toNat_natCast, decide_eq_true_eq, decide_eq_false_iff_not]
  refine ⟨fun h => ⟨⟨by omega, h⟩, by omega, ?_⟩, fun h => ?_⟩
  · have hk : k < ps.length := by omega
    have hs := ofN_succ (ps := ps) (kind := kind) (n := k)
    have hl2 := ofN_len (ps := ps) (kind := kind) (n := k)
    rw [isK_lt hk] at hs
    refine ⟨fun h3 => ⟨by omega, by simp only [lo, hi, maxLen] at *; omega, k + 1, ⟨by omega, by omega⟩, ⟨by omega, ?_⟩, ?_⟩, fun h3 => ⟨by simp only [lo, hi, maxLen] at *; omega, k + 1, ⟨by omega, by omega⟩, ⟨by omega, ?_⟩, ?_⟩⟩
    · rw [hs, h3]; simp
    · rw [hs, h3, List.take_of_length_le (by simp)]; simp [nE]
    · rw [hs, h3]; simp
    · rw [hs, h3]; simp
  · have hk : k = ps.length := by omega
    subst hk
    simp [qa, qb, qc, qd, qe, qf, qh, qi, qj, qk, ql, qm, qn, qo, qp, qq, qr, qs, qt, qu, qv, qw, qx, qy, qz, qA, qB, qC, qD, qE, qF, qG, qH, qI, qJ, qK, qL, qM, qN, rdK, qO, qP, qQ, qR, qS, qT, qU, qV, qW, qX, qY, qZ, za, zb, zc, zd, ze, zf, zg, zh, zi, zj, zk, zl, zm, zn, zo, zp, zq, zr, zt, zu, zv, zw, zx, zy, zz, zA, zB, zC, zD, zE, zF, zG, zH, zI, zJ, zK, zL, zM, zN, zO, zP, zQ, zR, zS, zT, zU, zV, zW, zX, zY, zZ, ka, kc, ke, kf, kg, kh, ki, kj, kk, kn, ko, kp, kq, kr, kv, kw, kx, ky, kz, kA, kB, kC, kD, kF, kG, kH, ofConst, cells?, List.length_nil, List.length_cons, List.set_cons_zero, splice, kI, List.getD_eq_getElem?_getD, List.getElem?_cons_zero, ↓reduceIte, Nat.reduceEqDiff, Option.getD_some, kJ, kK, arrSz, kL, Bool.not_true, Bool.not_false, ↓kM, ↓kN, kO, kP, List.nil_append, List.cons_append, List.append_nil, Nat.zero_add, Nat.reduceAdd, Nat.add_zero, reduceCtorEq, freshP, Option.map_some, Option.map_none, slcOk, Option.getD_none, buildP, litsP, kQ, resP, tupV, List.reverse_cons, List.reverse_nil, kR, leE, leH, leB, leV, leVs, keepP, liveP, wfE, wfB, wfV, wfL, killE, killB, kill, kills, St.kill, List.map_cons, List.map_nil, List.drop_zero, List.take_zero, List.take_nil, List.drop_nil, List.all_cons, List.all_nil, isD, isC, Bool.and_true, Bool.and_self, true_and, and_true, and_self, V.v.injEq, Value.int.injEq, Value.bool.injEq, List.mem_cons, List.not_mem_nil, or_false, false_or, List.length_append, List.length_map, List.length_replicate, not_false_eq_true, Bool.false_eq_true, Nat.reduceLT, Nat.reduceLeDiff, Nat.le_refl, lg0, kS, kT, kU, kV, lg1, kW, kX, kY, kZ, lg2, wa, wb, wc, wd, lg3, we, wg, wh, wi, lg4, wj, wl, wm, wn, lg5, wo, wq, wr, wt, lg6, wu, wv, ww, wx, lg7, wy, wz, wB, wC, lg8, wD, wE, wF, wG, lg9, wH, wI, wJ, wK, wL, wM, wN, wO, wP, wQ, wR, wS, wT, wU, wV, wW, wX, wY, wZ, ja, jb, jc, jd, je, jf, jg, jh, ji, jj, jk, jl, jm, jn, jo, jp, jq, jr, jt, ju, jv, jx, jy, jz, jA, jB, jC, jD, jE, jF, jG, jH, jI, jJ, jK, jL, jM, jN, jO, jP, jQ, jR, jS, jT, jU, jV, jW, jX, ↓jY, ↓jZ, ↓qaa, ↓qab, ↓qac, ↓qad, ↓qae, ↓qaf, ↓qag, ↓qah, ↓qai, ↓qaj, ↓qak, ↓qal, ↓qam, ↓qan, ↓qao, ↓qap, ↓qaq, ↓qar, ↓qas, ↓qat, ↓qau, ↓qav, ↓qaw, ↓qax, ↓qay, ↓qaz, ↓qaA, ↓qaB, ↓qaC, ↓qaD, ↓qaE, ↓qaF, ↓qaG, ↓qaH, ↓qaI, ↓qaJ, ↓qaK, ↓qaL, ↓qaM, ↓qaN, ↓qaO, ↓qaP, ↓qaQ, ↓qaR, ↓qaS, ↓qaT, ↓qaU, ↓qaV, ↓qaW, ↓qaX, ↓qaY, ↓qaZ, ↓qba, ↓qbb, ↓qbc, ↓qbd, ↓qbe, ↓qbf, ↓qbg, ↓qbh, ↓qbi, ↓qbj, ↓qbk, ↓qbl, ↓qbm, ↓qbn, ↓qbo, ↓qbp, ↓qbq, ↓qbr, ↓qbs, ↓qbt, ↓qbu, ↓qbv, ↓qbw, ↓qbx, ↓qby, ↓qbz, ↓qbA, ↓qbB, ↓qbC, ↓qbD, ↓qbE, ↓qbF, ↓qbG, ↓qbH, ↓qbI, ↓qbJ, ↓qbK, ↓qbL, ↓qbM, ↓qbN, ↓qbO, ↓qbP, ↓qbQ, ↓qbR, ↓qbS, ↓qbT, ↓qbU, ↓qbV, ↓qbW, ↓qbX, ↓qbY, ↓qbZ, ↓qca, ↓qcb, ↓qcc, ↓qcd, ↓qce, ↓qcf, ↓qcg, List.length_map, List.getElem_map, al_len, al_take, al_0, al_1, al_2, al_isC, al_isD, sp_len, sp_take, sp_0, sp_1, sp_2, sp_isC, sp_isD, rd_len, rd_take, rd_0, rd_1, rd_2, rd_3, rd_isC, rd_isD, enc_len, enc_take, enc_0, enc_1, enc_2, enc_3, enc_isC, enc_isD, encI_len, encI_0, encB_len, encB_0, Int.toNat_natCast, encI_drop, encB_drop, cxN, retP_eq]
    exact ⟨_, ⟨leH_rf _, by simp, by simp [wfB, wfL, wfV]⟩, by simp [gvV, gvL, wk, wkR, blk, lnat]; exact List.take_of_length_le (by simp)⟩
def capAt (ps : List Spot) (i : Nat) : Int :=
  match ps[i]? with
  | some x => x.cap
  | none => 0
theorem capAt_lt {ps : List Spot} {i : Nat} (h : i < ps.length) : capAt ps i = ps[i].cap := by
  rw [capAt, List.getElem?_eq_getElem h]
def sumC (ps : List Spot) (l : List Nat) : Int := (l.map (capAt ps)).sum
theorem sumC_app {ps : List Spot} {l m : List Nat} : sumC ps (l ++ m) = sumC ps l + sumC ps m := by simp [sumC]
def CapsOk (ps : List Spot) : Prop := ∀ i (h : i < ps.length), 0 ≤ ps[i].cap ∧ ps[i].cap ≤ 1073741824
theorem capAt_b {ps : List Spot} (h : CapsOk ps) (i : Nat) : 0 ≤ capAt ps i ∧ capAt ps i ≤ 1073741824 := by
  by_cases hi : i < ps.length
  · rw [capAt_lt hi]; exact h i hi
  · rw [capAt, List.getElem?_eq_none (by omega)]; exact ⟨Int.le_refl _, by decide⟩
theorem sumC_b {ps : List Spot} (h : CapsOk ps) : ∀ l : List Nat, 0 ≤ sumC ps l ∧ sumC ps l ≤ 1073741824 * l.length
  | [] => by simp [sumC]
  | i :: l => by
    have h1 := capAt_b h i
    have h2 := sumC_b h l
    simp only [sumC, List.map_cons, List.sum_cons, List.length_cons] at *
    omega
def dem (ps : List Spot) : Int := sumC ps (ofN ps 1 ps.length)
theorem ok17 (ps : List Spot) (rs : List Road) (hl : ps.length ≤ 100) (hc : CapsOk ps) : Ok 17 [plant ps rs] (Is (.i (dem ps))) := by
  refine ok_of lw17 (by simp) ?_
  unfold c17 plant sps rds
  simp -implicitDefEqProofs only [qW, qZ, zf, zg, zi, zk, zm, kw, kA, kC, kD, kH, ofConst, cells?, List.length_nil, List.length_cons, List.set_cons_zero, kI, List.getD_eq_getElem?_getD, List.getElem?_cons_zero, ↓reduceIte, Nat.reduceEqDiff, Option.getD_some, List.nil_append, List.append_nil, Nat.zero_add, Nat.reduceAdd, Nat.add_zero, freshP, List.map_cons, List.map_nil, List.drop_zero, List.take_nil, true_and, Nat.le_refl, kU, kV, kY, jX, ↓jY, ↓qaa, ↓qad, ↓qah, cxN, args0]
  refine call_is (ok47 ps rs 1 hl) (by simp [plant, sps, rds, lendsOk, lendOk, lends, lend, wkL, wk, wkR]) rfl trivial ?_
  unfold lnat
  simp -implicitDefEqProofs only [zb, zc, zf, zg, zi, zr, kA, kC, kD, kH, ofConst, ↓reduceIte, List.length_map, ↓qav, List.length_map]
  intro hm
  refine loopP_intro (fun k : Nat => ⟨[(9, .i k), (8, .i (ofN ps 1 ps.length).length), (7, .ro 1 ((ofN ps 1 ps.length).map nE)), (3, .i (sumC ps ((ofN ps 1 ps.length).take k))), (1, .ptr 0 0 0)], [.var [.ro 3 (ps.map Spot.enc), .ro 4 (rs.map Road.enc)]], 0⟩) (fun k => k ≤ (ofN ps 1 ps.length).length) (fun k => (ofN ps 1 ps.length).length - k) 0 (by omega) ?_ ?_
  · simp -implicitDefEqProofs only [kH, List.getElem?_cons_zero, ↓reduceIte, Nat.reduceEqDiff, kR, leE, leH, leB, leV, leVs, keepP, liveP, wfE, wfB, wfV, wfL, List.map_nil, List.take_zero, Bool.and_self, and_self, Int.natCast_zero, List.take_zero, sumC, List.map_nil, List.sum_nil]
  rintro k hk
  have hl2 := ofN_len (ps := ps) (kind := 1) (n := ps.length)
  simp -implicitDefEqProofs only [qV, qW, qZ, za, zb, zd, ze, zf, zg, zi, zm, zo, zp, zq, kA, kC, kD, kH, ofConst, List.length_nil, List.length_cons, kI, List.getD_eq_getElem?_getD, List.getElem?_cons_zero, ↓reduceIte, Nat.reduceEqDiff, Option.getD_some, kJ, kL, List.nil_append, List.append_nil, Nat.zero_add, Nat.add_zero, kQ, resP, tupV, List.reverse_cons, List.reverse_nil, kR, leE, leH, leB, leV, leVs, keepP, liveP, wfE, wfB, wfV, wfL, Bool.and_true, Bool.and_self, true_and, and_true, and_self, V.v.injEq, Value.int.injEq, Value.bool.injEq, List.length_map, jX, ↓jY, ↓qaa, ↓qab, ↓qad, ↓qag, ↓qan, ↓qao, ↓qaq, ↓qbS, ↓qca, List.length_map, List.getElem_map, sp_2, Int.toNat_natCast, nE_0]
  simp only [br, Int.toNat_natCast, decide_eq_true_eq, decide_eq_false_iff_not]
  refine ⟨fun h => ⟨⟨by omega, h⟩, by omega, ?_⟩, fun h => ?_⟩
  · have hkl : k < (ofN ps 1 ps.length).length := by omega
    have hi : (ofN ps 1 ps.length)[k] < ps.length := ofN_mem (List.getElem_mem hkl)
    have hs : sumC ps ((ofN ps 1 ps.length).take (k + 1)) = sumC ps ((ofN ps 1 ps.length).take k) + ps[(ofN ps 1 ps.length)[k]].cap := by
      rw [List.take_succ_eq_append_getElem hkl, sumC_app]
      simp [sumC, capAt_lt hi]
    have hb := sumC_b hc ((ofN ps 1 ps.length).take k)
    have hb2 := hc _ hi
    rw [List.length_take] at hb
    refine ⟨⟨by omega, by omega⟩, hi, by simp only [lo, Fx.hi, maxLen] at *; omega, by simp only [lo, Fx.hi, maxLen] at *; omega, k + 1, ⟨by omega, by omega⟩, by omega, by rw [hs]⟩
  · have hk : k = (ofN ps 1 ps.length).length := by omega
    subst hk
    simp [dem]
theorem ok18 (ps : List Spot) (rs : List Road) (hl : ps.length ≤ 100) (hc : CapsOk ps) : Ok 18 [plant ps rs] (Is (.i (dem ps))) := by
  refine ok_of lw18 (by simp) ?_
  unfold c18 plant sps rds
  simp -implicitDefEqProofs only [qW, qZ, zb, zc, zf, zg, zi, zk, kA, kC, kD, kH, ofConst, cells?, List.length_nil, List.length_cons, List.set_cons_zero, List.getElem?_cons_zero, ↓reduceIte, List.nil_append, List.append_nil, Nat.zero_add, Nat.add_zero, freshP, true_and, kV, jX, ↓jY, cxN, args0]
  refine loopP_intro (fun k : Nat => ⟨[(4, .i k), (3, .i (sumC ps (ofN ps 1 k))), (1, .ptr 0 0 0)], [.var [.ro 3 (ps.map Spot.enc), .ro 4 (rs.map Road.enc)]], 0⟩) (fun k => k ≤ ps.length) (fun k => ps.length - k) 0 (by omega) ?_ ?_
  · simp -implicitDefEqProofs only [kH, List.getElem?_cons_zero, ↓reduceIte, Nat.reduceEqDiff, kR, leE, leH, leB, leV, leVs, keepP, liveP, wfE, wfB, wfV, wfL, List.map_nil, Bool.and_self, and_self, Int.natCast_zero, ofN, List.range_zero, List.filter_nil, sumC, List.map_nil, List.sum_nil]
  rintro k hk
  unfold c18l0
  simp -implicitDefEqProofs only [qV, qW, qZ, za, zb, zd, ze, zf, zg, zi, zm, zo, zp, zq, zr, kA, kC, kD, kH, ofConst, List.length_nil, List.length_cons, kI, List.getD_eq_getElem?_getD, List.getElem?_cons_zero, ↓reduceIte, Nat.reduceEqDiff, Option.getD_some, kJ, kL, List.nil_append, List.append_nil, Nat.zero_add, Nat.add_zero, kQ, resP, tupV, List.reverse_cons, List.reverse_nil, kR, leE, leH, leB, leV, leVs, keepP, liveP, wfE, wfB, wfV, wfL, Bool.and_true, Bool.and_self, true_and, and_true, and_self, V.v.injEq, Value.int.injEq, Value.bool.injEq, List.length_map, jX, ↓jY, ↓qaa, ↓qab, ↓qad, ↓qag, ↓qan, ↓qao, ↓qaq, ↓qav, ↓qbS, ↓qbY, ↓qca, List.length_map, List.getElem_map, sp_0, sp_2, Int.toNat_natCast]
  simp only [br, Int.toNat_natCast, decide_eq_true_eq, decide_eq_false_iff_not]
  refine fun _ => ⟨fun h => ⟨⟨by omega, h⟩, by omega, ?_⟩, fun h => ?_⟩
  · have hk : k < ps.length := by omega
    have hs := ofN_succ (ps := ps) (kind := 1) (n := k)
    rw [isK_lt hk] at hs
    have hl2 := ofN_len (ps := ps) (kind := 1) (n := k)
    have hb := sumC_b hc (ofN ps 1 k)
    have hb2 := hc k hk
    have h1 : sumC ps [k] = ps[k].cap := by simp [sumC, capAt_lt hk]
    have h0 : sumC ps [] = 0 := rfl
    refine ⟨fun h3 => ⟨⟨by omega, h⟩, hk, by simp only [lo, hi, maxLen] at *; omega, by simp only [lo, hi, maxLen] at *; omega, k + 1, ⟨by omega, by omega⟩, by omega, ?_⟩, fun h3 => ⟨by simp only [lo, hi, maxLen] at *; omega, k + 1, ⟨by omega, by omega⟩, by omega, ?_⟩⟩
    · rw [hs, h3, sumC_app]; simp [h1]
    · rw [hs, h3, sumC_app]; simp [h0]
  · have hk : k = ps.length := by omega
    subst hk
    rfl
end Go.Fx.P
namespace Go.Fx.P
open Go Go.Fx Go.Proofs
set_option maxRecDepth 20000
def aP (ps : List Spot) (i : Nat) : Arc := ⟨2 + 2 * i, 3 + 2 * i, capAt ps i, 0⟩
def aS (ps : List Spot) (i : Nat) : Arc := ⟨0, 2 + 2 * i, capAt ps i, 0⟩
def aO (ps : List Spot) (i : Nat) : Arc := ⟨3 + 2 * i, 1, capAt ps i, 0⟩
def aR (r : Road) : Arc := ⟨3 + 2 * r.from_, 2 + 2 * r.to, r.cap, r.cost⟩
def nA1 (ps : List Spot) (n : Nat) : List Arc := (List.range n).map (aP ps)
def nA2 (ps : List Spot) (l : List Nat) : List Arc := nA1 ps ps.length ++ l.map (aS ps)
def nA3 (ps : List Spot) (l : List Nat) : List Arc := nA2 ps (ofN ps 1 ps.length) ++ l.map (aO ps)
def nA4 (ps : List Spot) (l : List Road) : List Arc := nA3 ps (ofN ps 3 ps.length) ++ l.map aR
def netOf (ps : List Spot) (rs : List Road) : List Arc := nA4 ps rs
def nodes (ps : List Spot) : Int := 2 + 2 * (ps.length : Int)
theorem nA1_len {ps : List Spot} {n : Nat} : (nA1 ps n).length = n := by simp [nA1]
theorem nA2_len {ps : List Spot} {l : List Nat} : (nA2 ps l).length = ps.length + l.length := by simp [nA2, nA1_len]
theorem nA3_len {ps : List Spot} {l : List Nat} : (nA3 ps l).length ≤ 2 * ps.length + l.length := by
  have := ofN_len (ps := ps) (kind := 1) (n := ps.length)
  simp only [nA3, List.length_append, nA2_len, List.length_map]; omega
theorem nA4_len {ps : List Spot} {l : List Road} : (nA4 ps l).length ≤ 3 * ps.length + l.length := by
  have := ofN_len (ps := ps) (kind := 3) (n := ps.length)
  have := nA3_len (ps := ps) (l := ofN ps 3 ps.length)
  simp only [nA4, List.length_append, List.length_map]; omega
def hN (ps : List Spot) (rs : List Road) (l : List Arc) : List Blk :=
  [.var [.ro 3 (ps.map Spot.enc), .ro 4 (rs.map Road.enc)], .var [.i 0, .nil], .var [.i (nodes ps), .sl 3 0 l.length], .arr 4 (l.map Arc.enc)]
theorem row_add (l : List Arc) (a : Arc) (m : List Arc) (h : m = l ++ [a]) : V.sl 3 0 (l.length + 1) = V.sl 3 0 m.length ∧ Blk.arr 4 (List.take l.length (l.map Arc.enc) ++ [[V.v (Value.int .i64 a.from_), V.v (Value.int .i64 a.to), V.v (Value.int .i64 a.cap), V.v (Value.int .i64 a.cost)]]) = Blk.arr 4 (m.map Arc.enc) := by
  subst h
  refine ⟨by simp, ?_⟩
  rw [List.take_of_length_le (by simp), List.map_append]
  rfl
theorem nA1_s {ps : List Spot} {k : Nat} (hk : k < ps.length) : nA1 ps (k + 1) = nA1 ps k ++ [⟨2 + 2 * k, 3 + 2 * k, ps[k].cap, 0⟩] := by
  rw [nA1, List.range_succ, List.map_append]; simp [nA1, aP, capAt_lt hk]
theorem nA2_s {ps : List Spot} {l : List Nat} {k : Nat} (hl : k < l.length) (hk : l[k] < ps.length) : nA2 ps (l.take (k + 1)) = nA2 ps (l.take k) ++ [⟨0, 2 + 2 * (l[k] : Nat), ps[l[k]].cap, 0⟩] := by
  rw [List.take_succ_eq_append_getElem hl, nA2, List.map_append]; simp [nA2, aS, capAt_lt hk]
theorem nA3_s {ps : List Spot} {l : List Nat} {k : Nat} (hl : k < l.length) (hk : l[k] < ps.length) : nA3 ps (l.take (k + 1)) = nA3 ps (l.take k) ++ [⟨3 + 2 * (l[k] : Nat), 1, ps[l[k]].cap, 0⟩] := by
  rw [List.take_succ_eq_append_getElem hl, nA3, List.map_append]; simp [nA3, aO, capAt_lt hk]
theorem nA4_s {ps : List Spot} {l : List Road} {k : Nat} (hl : k < l.length) : nA4 ps (l.take (k + 1)) = nA4 ps (l.take k) ++ [⟨3 + 2 * l[k].from_, 2 + 2 * l[k].to, l[k].cap, l[k].cost⟩] := by
  rw [List.take_succ_eq_append_getElem hl, nA4, List.map_append]; simp [nA4, aR]
theorem ok15 (ps : List Spot) (rs : List Road) (hl : ps.length ≤ 100) (hr : rs.length ≤ 1500) (hv : RInv ps rs rs.length) : Ok 15 [plant ps rs] (Is (net (nodes ps) (netOf ps rs))) := by
  refine okN_give (R := fun r hs => wk (net (nodes ps) (netOf ps rs)) (gvV (fun _ => true) hs r)) ?_ fun _ _ h => h
  refine ok_of lw15 (by simp) ?_
  unfold c15 plant sps rds
  simp -implicitDefEqProofs only [qW, qZ, zb, zc, zf, zg, zi, zk, zl, zm, zn, zo, zq, zr, zB, kA, kB, kC, kD, kH, ofConst, cells?, List.length_nil, List.length_cons, List.set_cons_zero, splice, kI, List.getD_eq_getElem?_getD, List.getElem?_cons_zero, ↓reduceIte, Nat.reduceEqDiff, Option.getD_some, kJ, List.nil_append, List.cons_append, List.append_nil, Nat.zero_add, Nat.reduceAdd, Nat.add_zero, freshP, buildP, List.map_cons, List.map_nil, List.drop_zero, List.take_zero, List.drop_nil, List.all_cons, List.all_nil, isC, Bool.and_true, Bool.and_self, true_and, and_true, and_self, List.not_mem_nil, List.length_append, List.length_map, not_false_eq_true, Nat.reduceLeDiff, Nat.le_refl, lg0, kS, kT, kV, lg1, kW, kX, kZ, jX, ↓jY, ↓qaa, ↓qad, ↓qag, ↓qai, ↓qak, ↓qan, ↓qav, ↓qbS, ↓qbW, List.length_map, cxN, args0]
  intro hm
  refine ⟨by simp only [lo, hi, maxLen] at *; omega, by simp only [lo, hi, maxLen] at *; omega, ?_⟩
  intro _
  refine loopP_ghost (.virt 1 4 (by decide) (.nilB 2 [.i (nodes ps), .nil] [.i (nodes ps), .sl 3 0 0] rfl ⟨rfl, fun i a b h1 h2 => ?_⟩ (.refl _))) (fun k : Nat => ⟨[(21, .i k), (20, .i ps.length), (19, .ro 3 (ps.map Spot.enc)), (3, .ptr 2 0 0), (2, .ptr 1 0 0), (1, .ptr 0 0 0)], hN ps rs (nA1 ps k), 0⟩) (fun k => k ≤ ps.length) (fun k => ps.length - k) 0 (by omega) ?_ ?_
  · match i, h1, h2 with
    | 0, h1, h2 => cases h1; cases h2; exact .inl rfl
    | 1, h1, h2 => cases h1; cases h2; exact .inr ⟨rfl, 3, rfl⟩
    | n + 2, h1, h2 => cases h1
  · simp -implicitDefEqProofs only [kH, List.length_nil, List.set_cons_zero, List.getElem?_cons_zero, ↓reduceIte, Nat.reduceEqDiff, List.nil_append, List.cons_append, kR, leE, leH, leB, leV, leVs, keepP, liveP, wfE, wfB, wfV, wfL, List.map_nil, Bool.and_self, and_self, lg0, kS, kV, lg1, kW, lg2, jX, Int.natCast_zero, nA1, List.range_zero, List.map_nil, hN, nodes]
  · rintro k hk
    unfold c15l0 hN
    simp -implicitDefEqProofs only [qV, qW, qZ, za, zb, zd, zf, zg, zi, zl, zm, zn, zo, zp, zq, zB, zG, zI, kw, kA, kB, kC, kD, kH, ofConst, cells?, List.length_nil, List.length_cons, List.set_cons_zero, splice, kI, List.getD_eq_getElem?_getD, List.getElem?_cons_zero, ↓reduceIte, Nat.reduceEqDiff, Option.getD_some, kJ, kL, List.nil_append, List.cons_append, List.append_nil, Nat.zero_add, Nat.reduceAdd, Nat.add_zero, reduceCtorEq, freshP, buildP, litsP, kR, leE, leH, leB, leV, leVs, keepP, liveP, wfE, wfB, wfV, wfL, killE, killB, kill, kills, St.kill, List.map_cons, List.map_nil, List.drop_zero, List.take_zero, List.take_nil, List.drop_nil, List.all_cons, List.all_nil, isD, isC, Bool.and_true, Bool.and_self, true_and, and_true, and_self, V.v.injEq, Value.int.injEq, Value.bool.injEq, List.mem_cons, List.not_mem_nil, or_false, false_or, List.length_append, List.length_map, not_false_eq_true, Nat.reduceLT, Nat.reduceLeDiff, Nat.le_refl, lg0, kS, kT, kU, kV, lg1, kW, kX, kY, kZ, lg2, wa, wb, lg3, we, lg4, wj, jX, ↓jY, ↓qaa, ↓qab, ↓qac, ↓qad, ↓qag, ↓qah, ↓qai, ↓qaj, ↓qak, ↓qan, ↓qaq, ↓qaF, ↓qaG, ↓qaW, ↓qaX, ↓qbS, ↓qbW, ↓qca, List.length_map, List.getElem_map, sp_len, sp_take, sp_2, sp_isC, Int.toNat_natCast]
    simp only [br, Int.toNat_natCast, decide_eq_true_eq, decide_eq_false_iff_not]
    refine ⟨fun h => ?_, fun h => ?_⟩
    · have hk : k < ps.length := by omega
      refine ⟨⟨by omega, h⟩, hk, ?_⟩
      have := nA1_len (ps := ps) (n := k)
      simp only [lo, hi, maxLen] at *
      refine ⟨by omega, by omega, by omega, by omega, by omega, by omega, k + 1, ⟨by omega, by omega⟩, by omega, ?_⟩
      exact row_add _ _ _ (nA1_s hk)
    have hk : k = ps.length := by omega
    subst hk
    refine call_is (ok47 ps rs 1 hl) (by simp [plant, sps, rds, lendsOk, lendOk, lends, lend, wkL, wk, wkR]) rfl trivial ?_
    have hz2 : nA1 ps ps.length = nA2 ps ((ofN ps 1 ps.length).take 0) := by simp [nA2]
    rw [hz2]
    have hq := ofN_len (ps := ps) (kind := 1) (n := ps.length)
    have hm1 := fun i (h : i < (ofN ps 1 ps.length).length) => ofN_mem (List.getElem_mem h)
    generalize hL : ofN ps 1 ps.length = L at *
    unfold lnat
    simp -implicitDefEqProofs only [zb, zc, zf, zg, zi, zr, kA, kC, kD, kH, ofConst, ↓reduceIte, List.take_zero, List.length_map, ↓qav, List.length_map]
    intro _
    refine loopP_intro (fun k : Nat => ⟨[(44, .i k), (43, .i L.length), (42, .ro 1 (L.map nE)), (3, .ptr 2 0 0), (2, .ptr 1 0 0), (1, .ptr 0 0 0)], hN ps rs (nA2 ps (L.take k)), 0⟩) (fun k => k ≤ L.length) (fun k => L.length - k) 0 (by omega) ?_ ?_
    · simp -implicitDefEqProofs only [kH, List.getElem?_cons_zero, ↓reduceIte, Nat.reduceEqDiff, kR, leE, leH, leB, leV, leVs, keepP, liveP, wfE, wfB, wfV, wfL, List.take_zero, Bool.and_self, and_self, lg0, lg1, lg2, Int.natCast_zero, hN]
    rintro k hk
    unfold c15l1 hN
    simp -implicitDefEqProofs only [qa, qc, qd, qe, qp, qN, rdK, qO, qP, qQ, qR, qT, qV, qW, qZ, za, zb, zd, zf, zg, zi, zm, zn, zo, zp, zq, zB, zG, zI, kw, kA, kB, kC, kD, kH, ofConst, cells?, List.length_nil, List.length_cons, List.set_cons_zero, splice, kI, List.getD_eq_getElem?_getD, List.getElem?_cons_zero, ↓reduceIte, Nat.reduceEqDiff, Option.getD_some, kJ, kL, List.nil_append, List.cons_append, List.append_nil, Nat.zero_add, Nat.reduceAdd, Nat.add_zero, reduceCtorEq, freshP, buildP, litsP, kR, leE, leH, leB, leV, leVs, keepP, liveP, wfE, wfB, wfV, wfL, killE, killB, kill, kills, St.kill, List.map_cons, List.map_nil, List.drop_zero, List.take_zero, List.take_nil, List.drop_nil, List.all_cons, List.all_nil, isD, isC, Bool.and_true, Bool.and_self, true_and, and_true, and_self, V.v.injEq, Value.int.injEq, Value.bool.injEq, List.mem_cons, List.not_mem_nil, or_false, false_or, List.length_append, List.length_map, not_false_eq_true, Bool.false_eq_true, Nat.reduceLT, Nat.reduceLeDiff, Nat.le_refl, lg0, kS, kT, kU, kV, lg1, kW, kX, kY, kZ, lg2, wa, wb, lg3, we, jX, ↓jY, ↓qaa, ↓qab, ↓qac, ↓qad, ↓qag, ↓qah, ↓qai, ↓qaj, ↓qan, ↓qao, ↓qaq, ↓qaF, ↓qaG, ↓qaW, ↓qaX, ↓qbS, ↓qbW, ↓qca, List.length_map, List.getElem_map, sp_2, Int.toNat_natCast, nE_0]
    simp only [br, Int.toNat_natCast, decide_eq_true_eq, decide_eq_false_iff_not]
    refine ⟨fun h => ?_, fun h => ?_⟩
    · have hkl : k < L.length := by omega
      have hi := hm1 k hkl
      have hlen := nA2_len (ps := ps) (l := L.take k)
      rw [List.length_take] at hlen
      refine ⟨⟨by omega, h⟩, hkl, ?_⟩
      simp only [lo, Fx.hi, maxLen] at *
      refine ⟨by omega, by omega, ⟨by omega, by omega⟩, hi, by omega, by omega, k + 1, ⟨by omega, by omega⟩, by omega, ?_⟩
      exact row_add _ _ _ (nA2_s hkl hi)
    have hk : k = L.length := by omega
    subst hk
    refine call_is (ok47 ps rs 3 hl) (by simp [plant, sps, rds, lendsOk, lendOk, lends, lend, wkL, wk, wkR]) rfl trivial ?_
    subst hL
    have hz3 : nA2 ps ((ofN ps 1 ps.length).take (ofN ps 1 ps.length).length) = nA3 ps ((ofN ps 3 ps.length).take 0) := by simp [nA3]
    rw [hz3]
    have hq := ofN_len (ps := ps) (kind := 3) (n := ps.length)
    have hm1 := fun i (h : i < (ofN ps 3 ps.length).length) => ofN_mem (List.getElem_mem h)
    generalize hL : ofN ps 3 ps.length = L at *
    unfold lnat
    simp -implicitDefEqProofs only [zb, zc, zf, zg, zi, zr, kA, kC, kD, kH, ofConst, ↓reduceIte, List.take_zero, List.length_map, ↓qav, List.length_map]
    intro _
    refine loopP_intro (fun k : Nat => ⟨[(67, .i k), (66, .i L.length), (65, .ro 1 (L.map nE)), (3, .ptr 2 0 0), (2, .ptr 1 0 0), (1, .ptr 0 0 0)], hN ps rs (nA3 ps (L.take k)), 0⟩) (fun k => k ≤ L.length) (fun k => L.length - k) 0 (by omega) ?_ ?_
    · simp -implicitDefEqProofs only [kH, List.getElem?_cons_zero, ↓reduceIte, Nat.reduceEqDiff, kR, leE, leH, leB, leV, leVs, keepP, liveP, wfE, wfB, wfV, wfL, List.take_zero, Bool.and_self, and_self, lg0, lg1, lg2, Int.natCast_zero, hN]
    rintro k hk
    unfold c15l2 hN
    simp -implicitDefEqProofs only [qa, qc, qd, qe, qp, qN, rdK, qO, qP, qQ, qR, qT, qV, qW, qZ, za, zb, zc, zd, zf, zg, zi, zm, zn, zo, zp, zq, zr, zB, zG, zI, kA, kB, kC, kD, kH, ofConst, cells?, List.length_nil, List.length_cons, List.set_cons_zero, splice, kI, List.getD_eq_getElem?_getD, List.getElem?_cons_zero, ↓reduceIte, Nat.reduceEqDiff, Option.getD_some, kJ, kL, List.nil_append, List.cons_append, List.append_nil, Nat.zero_add, Nat.reduceAdd, Nat.add_zero, reduceCtorEq, freshP, buildP, litsP, kR, leE, leH, leB, leV, leVs, keepP, liveP, wfE, wfB, wfV, wfL, killE, killB, kill, kills, St.kill, List.map_cons, List.map_nil, List.drop_zero, List.take_zero, List.take_nil, List.drop_nil, List.all_cons, List.all_nil, isD, isC, Bool.and_true, Bool.and_self, true_and, and_true, and_self, V.v.injEq, Value.int.injEq, Value.bool.injEq, List.mem_cons, List.not_mem_nil, or_false, false_or, List.length_append, List.length_map, not_false_eq_true, Bool.false_eq_true, Nat.reduceLT, Nat.reduceLeDiff, Nat.le_refl, lg0, kS, kT, kU, kV, lg1, kW, kX, kY, kZ, lg2, wa, wb, lg3, we, jX, ↓jY, ↓qaa, ↓qab, ↓qac, ↓qad, ↓qag, ↓qai, ↓qaj, ↓qan, ↓qao, ↓qaq, ↓qav, ↓qaF, ↓qaG, ↓qaW, ↓qaX, ↓qbS, ↓qbW, ↓qca, List.length_map, List.getElem_map, sp_2, Int.toNat_natCast, nE_0]
    simp only [br, Int.toNat_natCast, decide_eq_true_eq, decide_eq_false_iff_not]
    refine ⟨fun h => ?_, fun h => ?_⟩
    · have hkl : k < L.length := by omega
      have hi := hm1 k hkl
      have hlen := nA3_len (ps := ps) (l := L.take k)
      rw [List.length_take] at hlen
      refine ⟨⟨by omega, h⟩, hkl, ?_⟩
      simp only [lo, Fx.hi, maxLen] at *
      refine ⟨by omega, by omega, ⟨by omega, by omega⟩, hi, by omega, by omega, k + 1, ⟨by omega, by omega⟩, by omega, ?_⟩
      exact row_add _ _ _ (nA3_s hkl hi)
    have hk : k = L.length := by omega
    subst hk
    subst hL
    have hz4 : nA3 ps ((ofN ps 3 ps.length).take (ofN ps 3 ps.length).length) = nA4 ps (rs.take 0) := by simp [nA4]
    rw [hz4]
    intro _
    refine loopP_intro (fun k : Nat => ⟨[(90, .i k), (89, .i rs.length), (88, .ro 4 (rs.map Road.enc)), (3, .ptr 2 0 0), (2, .ptr 1 0 0), (1, .ptr 0 0 0)], hN ps rs (nA4 ps (rs.take k)), 0⟩) (fun k => k ≤ rs.length) (fun k => rs.length - k) 0 (by omega) ?_ ?_
    · simp -implicitDefEqProofs only [kH, List.getElem?_cons_zero, ↓reduceIte, Nat.reduceEqDiff, kR, leE, leH, leB, leV, leVs, keepP, liveP, wfE, wfB, wfV, wfL, List.take_zero, Bool.and_self, and_self, lg0, lg1, lg2, Int.natCast_zero, hN]
    rintro k hk
    unfold c15l3 hN
    simp -implicitDefEqProofs only [qV, qW, qZ, za, zb, zd, ze, zf, zg, zi, zl, zm, zn, zo, zp, zq, zB, zG, zI, kA, kB, kC, kD, kH, ofConst, cells?, List.length_nil, List.length_cons, List.set_cons_zero, splice, kI, List.getD_eq_getElem?_getD, List.getElem?_cons_zero, ↓reduceIte, Nat.reduceEqDiff, Option.getD_some, kJ, kL, List.nil_append, List.cons_append, List.append_nil, Nat.zero_add, Nat.reduceAdd, Nat.add_zero, reduceCtorEq, freshP, buildP, litsP, kR, leE, leH, leB, leV, leVs, keepP, liveP, wfE, wfB, wfV, wfL, killE, killB, kill, kills, St.kill, List.map_cons, List.map_nil, List.drop_zero, List.take_zero, List.take_nil, List.drop_nil, List.all_cons, List.all_nil, isD, isC, Bool.and_true, Bool.and_self, true_and, and_true, and_self, V.v.injEq, Value.int.injEq, Value.bool.injEq, List.mem_cons, List.not_mem_nil, or_false, false_or, List.length_append, List.length_map, not_false_eq_true, Nat.reduceLT, Nat.reduceLeDiff, Nat.le_refl, lg0, kS, kT, kU, kV, lg1, kW, kX, kY, kZ, lg2, wa, wb, wc, lg3, we, wg, lg4, wj, jX, ↓jY, ↓qaa, ↓qab, ↓qac, ↓qad, ↓qag, ↓qah, ↓qai, ↓qaj, ↓qak, ↓qan, ↓qaq, ↓qaF, ↓qaG, ↓qaW, ↓qaX, ↓qbS, ↓qbW, ↓qca, List.length_map, List.getElem_map, rd_len, rd_take, rd_0, rd_1, rd_2, rd_3, rd_isC, Int.toNat_natCast]
    simp only [br, Int.toNat_natCast, decide_eq_true_eq, decide_eq_false_iff_not]
    refine ⟨fun h => ?_, fun h => ?_⟩
    · have hkl : k < rs.length := by omega
      obtain ⟨hs1, hs2, _⟩ := hv.h k hkl hkl
      have hlen := nA4_len (ps := ps) (l := rs.take k)
      rw [List.length_take] at hlen
      refine ⟨⟨by omega, h⟩, hkl, ?_⟩
      simp only [lo, Fx.hi, maxLen] at *
      refine ⟨by omega, by omega, by omega, by omega, by omega, by omega, k + 1, ⟨by omega, by omega⟩, by omega, ?_⟩
      exact row_add _ _ _ (nA4_s hkl)
    have hk : k = rs.length := by omega
    subst hk
    simp [qa, qb, qc, qd, qe, qf, qh, qi, qj, qk, ql, qm, qn, qo, qp, qq, qr, qs, qt, qu, qv, qw, qx, qy, qz, qA, qB, qC, qD, qE, qF, qG, qH, qI, qJ, qK, qL, qM, qN, rdK, qO, qP, qQ, qR, qS, qT, qU, qV, qW, qX, qY, qZ, za, zb, zc, zd, ze, zf, zg, zh, zi, zj, zk, zl, zm, zn, zo, zp, zq, zr, zt, zu, zv, zw, zx, zy, zz, zA, zB, zC, zD, zE, zF, zG, zH, zI, zJ, zK, zL, zM, zN, zO, zP, zQ, zR, zS, zT, zU, zV, zW, zX, zY, zZ, ka, kc, ke, kf, kg, kh, ki, kj, kk, kn, ko, kp, kq, kr, kv, kw, kx, ky, kz, kA, kB, kC, kD, kF, kG, kH, ofConst, cells?, List.length_nil, List.length_cons, List.set_cons_zero, splice, kI, List.getD_eq_getElem?_getD, List.getElem?_cons_zero, ↓reduceIte, Nat.reduceEqDiff, Option.getD_some, kJ, kK, arrSz, kL, Bool.not_true, Bool.not_false, ↓kM, ↓kN, kO, kP, List.nil_append, List.cons_append, List.append_nil, Nat.zero_add, Nat.reduceAdd, Nat.add_zero, reduceCtorEq, freshP, Option.map_some, Option.map_none, slcOk, Option.getD_none, buildP, litsP, kQ, resP, tupV, List.reverse_cons, List.reverse_nil, kR, leE, leH, leB, leV, leVs, keepP, liveP, wfE, wfB, wfV, wfL, killE, killB, kill, kills, St.kill, List.map_cons, List.map_nil, List.drop_zero, List.take_zero, List.take_nil, List.drop_nil, List.all_cons, List.all_nil, isD, isC, Bool.and_true, Bool.and_self, true_and, and_true, and_self, V.v.injEq, Value.int.injEq, Value.bool.injEq, List.mem_cons, List.not_mem_nil, or_false, false_or, List.length_append, List.length_map, List.length_replicate, not_false_eq_true, Bool.false_eq_true, Nat.reduceLT, Nat.reduceLeDiff, Nat.le_refl, lg0, kS, kT, kU, kV, lg1, kW, kX, kY, kZ, lg2, wa, wb, wc, wd, lg3, we, wg, wh, wi, lg4, wj, wl, wm, wn, lg5, wo, wq, wr, wt, lg6, wu, wv, ww, wx, lg7, wy, wz, wB, wC, lg8, wD, wE, wF, wG, lg9, wH, wI, wJ, wK, wL, wM, wN, wO, wP, wQ, wR, wS, wT, wU, wV, wW, wX, wY, wZ, ja, jb, jc, jd, je, jf, jg, jh, ji, jj, jk, jl, jm, jn, jo, jp, jq, jr, jt, ju, jv, jx, jy, jz, jA, jB, jC, jD, jE, jF, jG, jH, jI, jJ, jK, jL, jM, jN, jO, jP, jQ, jR, jS, jT, jU, jV, jW, jX, ↓jY, ↓jZ, ↓qaa, ↓qab, ↓qac, ↓qad, ↓qae, ↓qaf, ↓qag, ↓qah, ↓qai, ↓qaj, ↓qak, ↓qal, ↓qam, ↓qan, ↓qao, ↓qap, ↓qaq, ↓qar, ↓qas, ↓qat, ↓qau, ↓qav, ↓qaw, ↓qax, ↓qay, ↓qaz, ↓qaA, ↓qaB, ↓qaC, ↓qaD, ↓qaE, ↓qaF, ↓qaG, ↓qaH, ↓qaI, ↓qaJ, ↓qaK, ↓qaL, ↓qaM, ↓qaN, ↓qaO, ↓qaP, ↓qaQ, ↓qaR, ↓qaS, ↓qaT, ↓qaU, ↓qaV, ↓qaW, ↓qaX, ↓qaY, ↓qaZ, ↓qba, ↓qbb, ↓qbc, ↓qbd, ↓qbe, ↓qbf, ↓qbg, ↓qbh, ↓qbi, ↓qbj, ↓qbk, ↓qbl, ↓qbm, ↓qbn, ↓qbo, ↓qbp, ↓qbq, ↓qbr, ↓qbs, ↓qbt, ↓qbu, ↓qbv, ↓qbw, ↓qbx, ↓qby, ↓qbz, ↓qbA, ↓qbB, ↓qbC, ↓qbD, ↓qbE, ↓qbF, ↓qbG, ↓qbH, ↓qbI, ↓qbJ, ↓qbK, ↓qbL, ↓qbM, ↓qbN, ↓qbO, ↓qbP, ↓qbQ, ↓qbR, ↓qbS, ↓qbT, ↓qbU, ↓qbV, ↓qbW, ↓qbX, ↓qbY, ↓qbZ, ↓qca, ↓qcb, ↓qcc, ↓qcd, ↓qce, ↓qcf, ↓qcg, List.length_map, List.getElem_map, al_len, al_take, al_0, al_1, al_2, al_isC, al_isD, sp_len, sp_take, sp_0, sp_1, sp_2, sp_isC, sp_isD, rd_len, rd_take, rd_0, rd_1, rd_2, rd_3, rd_isC, rd_isD, enc_len, enc_take, enc_0, enc_1, enc_2, enc_3, enc_isC, enc_isD, encI_len, encI_0, encB_len, encB_0, Int.toNat_natCast, encI_drop, encB_drop, cxN, retP_eq]
    exact ⟨_, ⟨leH_rf _, by simp, by simp [wfB, wfL, wfV, liveP]⟩, by simp [gvV, gvL, wk, wkR, wkL, blk, net, netOf]; exact List.take_of_length_le (by simp)⟩
end Go.Fx.P
namespace Go.Fx.P
open Go Go.Fx Go.Proofs
set_option maxRecDepth 20000
theorem nA2_a {ps : List Spot} {l : List Nat} {k : Nat} (hk : k < ps.length) : nA2 ps (l ++ [k]) = nA2 ps l ++ [⟨0, 2 + 2 * (k : Nat), ps[k].cap, 0⟩] := by
  rw [nA2, List.map_append]; simp [nA2, aS, capAt_lt hk]
theorem nA3_a {ps : List Spot} {l : List Nat} {k : Nat} (hk : k < ps.length) : nA3 ps (l ++ [k]) = nA3 ps l ++ [⟨3 + 2 * (k : Nat), 1, ps[k].cap, 0⟩] := by
  rw [nA3, List.map_append]; simp [nA3, aO, capAt_lt hk]
theorem ok16 (ps : List Spot) (rs : List Road) (hl : ps.length ≤ 100) (hr : rs.length ≤ 1500) (hv : RInv ps rs rs.length) : Ok 16 [plant ps rs] (Is (net (nodes ps) (netOf ps rs))) := by
  refine okN_give (R := fun r hs => wk (net (nodes ps) (netOf ps rs)) (gvV (fun _ => true) hs r)) ?_ fun _ _ h => h
  refine ok_of lw16 (by simp) ?_
  unfold c16 plant sps rds
  simp -implicitDefEqProofs only [qW, qZ, zb, zc, zf, zg, zi, zk, zl, zm, zn, zo, zq, zr, zB, kA, kB, kC, kD, kH, ofConst, cells?, List.length_nil, List.length_cons, List.set_cons_zero, splice, kI, List.getD_eq_getElem?_getD, List.getElem?_cons_zero, ↓reduceIte, Nat.reduceEqDiff, Option.getD_some, kJ, List.nil_append, List.cons_append, List.append_nil, Nat.zero_add, Nat.reduceAdd, Nat.add_zero, freshP, buildP, List.map_cons, List.map_nil, List.drop_zero, List.take_zero, List.drop_nil, List.all_cons, List.all_nil, isC, Bool.and_true, Bool.and_self, true_and, and_true, and_self, List.not_mem_nil, List.length_append, List.length_map, not_false_eq_true, Nat.reduceLeDiff, Nat.le_refl, lg0, kS, kT, kV, lg1, kW, kX, kZ, jX, ↓jY, ↓qaa, ↓qad, ↓qag, ↓qai, ↓qak, ↓qan, ↓qav, ↓qbS, ↓qbW, List.length_map, cxN, args0]
  intro hm
  refine ⟨by simp only [lo, hi, maxLen] at *; omega, by simp only [lo, hi, maxLen] at *; omega, ?_⟩
  refine loopP_ghost (.virt 1 4 (by decide) (.nilB 2 [.i (nodes ps), .nil] [.i (nodes ps), .sl 3 0 0] rfl ⟨rfl, fun i a b h1 h2 => ?_⟩ (.refl _))) (fun k : Nat => ⟨[(4, .i k), (3, .ptr 2 0 0), (2, .ptr 1 0 0), (1, .ptr 0 0 0)], hN ps rs (nA1 ps k), 0⟩) (fun k => k ≤ ps.length) (fun k => ps.length - k) 0 (by omega) ?_ ?_
  · match i, h1, h2 with
    | 0, h1, h2 => cases h1; cases h2; exact .inl rfl
    | 1, h1, h2 => cases h1; cases h2; exact .inr ⟨rfl, 3, rfl⟩
    | n + 2, h1, h2 => cases h1
  · simp -implicitDefEqProofs only [kH, List.length_nil, List.set_cons_zero, List.getElem?_cons_zero, ↓reduceIte, Nat.reduceEqDiff, List.nil_append, List.cons_append, kR, leE, leH, leB, leV, leVs, keepP, liveP, wfE, wfB, wfV, wfL, List.map_nil, Bool.and_self, and_self, lg0, kS, kV, lg1, kW, lg2, jX, Int.natCast_zero, nA1, List.range_zero, List.map_nil, hN, nodes]
  rintro k hk
  unfold c16l0 hN
  simp -implicitDefEqProofs only [qa, qc, qd, qe, qp, qN, rdK, qO, qP, qQ, qR, qT, qV, qW, qZ, za, zb, zc, zd, zf, zg, zi, zm, zn, zo, zp, zq, zr, zB, zG, zI, kA, kB, kC, kD, kH, ofConst, cells?, List.length_nil, List.length_cons, List.set_cons_zero, splice, kI, List.getD_eq_getElem?_getD, List.getElem?_cons_zero, ↓reduceIte, Nat.reduceEqDiff, Option.getD_some, kJ, kL, List.nil_append, List.cons_append, List.append_nil, Nat.zero_add, Nat.reduceAdd, Nat.add_zero, reduceCtorEq, freshP, buildP, litsP, kR, leE, leH, leB, leV, leVs, keepP, liveP, wfE, wfB, wfV, wfL, killE, killB, kill, kills, St.kill, List.map_cons, List.map_nil, List.drop_zero, List.take_zero, List.take_nil, List.drop_nil, List.all_cons, List.all_nil, isD, isC, Bool.and_true, Bool.and_self, true_and, and_true, and_self, V.v.injEq, Value.int.injEq, Value.bool.injEq, List.mem_cons, List.not_mem_nil, or_false, false_or, List.length_append, List.length_map, not_false_eq_true, Bool.false_eq_true, Nat.reduceLT, Nat.reduceLeDiff, Nat.le_refl, lg0, kS, kT, kU, kV, lg1, kW, kX, kY, kZ, lg2, wa, wb, lg3, we, jX, ↓jY, ↓qaa, ↓qab, ↓qac, ↓qad, ↓qag, ↓qai, ↓qaj, ↓qan, ↓qao, ↓qaq, ↓qav, ↓qaF, ↓qaG, ↓qaW, ↓qaX, ↓qbS, ↓qbW, ↓qca, List.length_map, List.getElem_map, sp_2, Int.toNat_natCast]
  simp only [br, Int.toNat_natCast, decide_eq_true_eq, decide_eq_false_iff_not]
  refine fun _ => ⟨fun h => ?_, fun h => ?_⟩
  · have hk : k < ps.length := by omega
    have := nA1_len (ps := ps) (n := k)
    simp only [lo, hi, maxLen] at *
    refine ⟨by omega, by omega, by omega, by omega, ⟨by omega, by omega⟩, hk, by omega, by omega, k + 1, ⟨by omega, by omega⟩, by omega, ?_⟩
    exact row_add _ _ _ (nA1_s hk)
  have hk : k = ps.length := by omega
  subst hk
  have hz2 : nA1 ps ps.length = nA2 ps (ofN ps 1 0) := by simp [nA2, ofN]
  rw [hz2]
  refine loopP_intro (fun k : Nat => ⟨[(5, .i k), (3, .ptr 2 0 0), (2, .ptr 1 0 0), (1, .ptr 0 0 0)], hN ps rs (nA2 ps (ofN ps 1 k)), 0⟩) (fun k => k ≤ ps.length) (fun k => ps.length - k) 0 (by omega) ?_ ?_
  · simp -implicitDefEqProofs only [kH, List.getElem?_cons_zero, ↓reduceIte, Nat.reduceEqDiff, kR, leE, leH, leB, leV, leVs, keepP, liveP, wfE, wfB, wfV, wfL, Bool.and_self, and_self, lg0, lg1, lg2, Int.natCast_zero, hN]
  rintro k hk
  unfold c16l1 hN
  simp -implicitDefEqProofs only [qa, qc, qd, qe, qp, qN, rdK, qO, qP, qQ, qR, qT, qV, qW, qZ, za, zb, zc, zd, zf, zg, zi, zm, zn, zo, zp, zq, zr, zB, zG, zI, kA, kB, kC, kD, kH, ofConst, cells?, List.length_nil, List.length_cons, List.set_cons_zero, splice, kI, List.getD_eq_getElem?_getD, List.getElem?_cons_zero, ↓reduceIte, Nat.reduceEqDiff, Option.getD_some, kJ, kL, List.nil_append, List.cons_append, List.append_nil, Nat.zero_add, Nat.reduceAdd, Nat.add_zero, reduceCtorEq, freshP, buildP, litsP, kR, leE, leH, leB, leV, leVs, keepP, liveP, wfE, wfB, wfV, wfL, killE, killB, kill, kills, St.kill, List.map_cons, List.map_nil, List.drop_zero, List.take_zero, List.take_nil, List.drop_nil, List.all_cons, List.all_nil, isD, isC, Bool.and_true, Bool.and_self, true_and, and_true, and_self, V.v.injEq, Value.int.injEq, Value.bool.injEq, List.mem_cons, List.not_mem_nil, or_false, false_or, List.length_append, List.length_map, not_false_eq_true, Bool.false_eq_true, Nat.reduceLT, Nat.reduceLeDiff, Nat.le_refl, lg0, kS, kT, kU, kV, lg1, kW, kX, kY, kZ, lg2, wa, wb, lg3, we, jX, ↓jY, ↓qaa, ↓qab, ↓qac, ↓qad, ↓qag, ↓qai, ↓qaj, ↓qan, ↓qao, ↓qaq, ↓qav, ↓qaF, ↓qaG, ↓qaW, ↓qaX, ↓qbS, ↓qbW, ↓qbY, ↓qca, List.length_map, List.getElem_map, sp_0, sp_2, Int.toNat_natCast]
  simp only [br, Int.toNat_natCast, decide_eq_true_eq, decide_eq_false_iff_not]
  refine fun _ => ⟨fun h => ?_, fun h => ?_⟩
  · have hk : k < ps.length := by omega
    have hs := ofN_succ (ps := ps) (kind := 1) (n := k)
    rw [isK_lt hk] at hs
    have hl2 := ofN_len (ps := ps) (kind := 1) (n := k)
    have hlen := nA2_len (ps := ps) (l := ofN ps 1 k)
    simp only [lo, hi, maxLen] at *
    refine ⟨⟨by omega, h⟩, hk, fun h3 => ?_, fun h3 => ?_⟩
    · rw [h3, if_pos rfl] at hs
      refine ⟨by omega, by omega, ⟨by omega, by omega⟩, hk, by omega, by omega, k + 1, ⟨by omega, by omega⟩, by omega, ?_⟩
      rw [hs]
      exact row_add _ _ _ (nA2_a hk)
    · rw [h3, if_neg (by simp), List.append_nil] at hs
      refine ⟨by omega, k + 1, ⟨by omega, by omega⟩, by omega, ?_⟩
      rw [hs]; exact ⟨rfl, rfl⟩
  have hk : k = ps.length := by omega
  subst hk
  have hz3 : nA2 ps (ofN ps 1 ps.length) = nA3 ps (ofN ps 3 0) := by simp [nA3, ofN]
  rw [hz3]
  refine loopP_intro (fun k : Nat => ⟨[(6, .i k), (3, .ptr 2 0 0), (2, .ptr 1 0 0), (1, .ptr 0 0 0)], hN ps rs (nA3 ps (ofN ps 3 k)), 0⟩) (fun k => k ≤ ps.length) (fun k => ps.length - k) 0 (by omega) ?_ ?_
  · simp -implicitDefEqProofs only [kH, List.getElem?_cons_zero, ↓reduceIte, Nat.reduceEqDiff, kR, leE, leH, leB, leV, leVs, keepP, liveP, wfE, wfB, wfV, wfL, Bool.and_self, and_self, lg0, lg1, lg2, Int.natCast_zero, hN]
  rintro k hk
  unfold c16l2 hN
  simp -implicitDefEqProofs only [qa, qc, qd, qe, qp, qN, rdK, qO, qP, qQ, qR, qT, qV, qW, qZ, za, zb, zc, zd, zf, zg, zi, zm, zn, zo, zp, zq, zr, zB, zG, zI, kA, kB, kC, kD, kH, ofConst, cells?, List.length_nil, List.length_cons, List.set_cons_zero, splice, kI, List.getD_eq_getElem?_getD, List.getElem?_cons_zero, ↓reduceIte, Nat.reduceEqDiff, Option.getD_some, kJ, kL, List.nil_append, List.cons_append, List.append_nil, Nat.zero_add, Nat.reduceAdd, Nat.add_zero, reduceCtorEq, freshP, buildP, litsP, kR, leE, leH, leB, leV, leVs, keepP, liveP, wfE, wfB, wfV, wfL, killE, killB, kill, kills, St.kill, List.map_cons, List.map_nil, List.drop_zero, List.take_zero, List.take_nil, List.drop_nil, List.all_cons, List.all_nil, isD, isC, Bool.and_true, Bool.and_self, true_and, and_true, and_self, V.v.injEq, Value.int.injEq, Value.bool.injEq, List.mem_cons, List.not_mem_nil, or_false, false_or, List.length_append, List.length_map, not_false_eq_true, Bool.false_eq_true, Nat.reduceLT, Nat.reduceLeDiff, Nat.le_refl, lg0, kS, kT, kU, kV, lg1, kW, kX, kY, kZ, lg2, wa, wb, lg3, we, jX, ↓jY, ↓qaa, ↓qab, ↓qac, ↓qad, ↓qag, ↓qai, ↓qaj, ↓qan, ↓qao, ↓qaq, ↓qav, ↓qaF, ↓qaG, ↓qaW, ↓qaX, ↓qbS, ↓qbW, ↓qbY, ↓qca, List.length_map, List.getElem_map, sp_0, sp_2, Int.toNat_natCast]
  simp only [br, Int.toNat_natCast, decide_eq_true_eq, decide_eq_false_iff_not]
  refine fun _ => ⟨fun h => ?_, fun h => ?_⟩
  · have hk : k < ps.length := by omega
    have hs := ofN_succ (ps := ps) (kind := 3) (n := k)
    rw [isK_lt hk] at hs
    have hl2 := ofN_len (ps := ps) (kind := 3) (n := k)
    have hlen := nA3_len (ps := ps) (l := ofN ps 3 k)
    simp only [lo, hi, maxLen] at *
    refine ⟨⟨by omega, h⟩, hk, fun h3 => ?_, fun h3 => ?_⟩
    · rw [h3, if_pos rfl] at hs
      refine ⟨by omega, by omega, ⟨by omega, by omega⟩, hk, by omega, by omega, k + 1, ⟨by omega, by omega⟩, by omega, ?_⟩
      rw [hs]
      exact row_add _ _ _ (nA3_a hk)
    · rw [h3, if_neg (by simp), List.append_nil] at hs
      refine ⟨by omega, k + 1, ⟨by omega, by omega⟩, by omega, ?_⟩
      rw [hs]; exact ⟨rfl, rfl⟩
  have hk : k = ps.length := by omega
  subst hk
  have hz4 : nA3 ps (ofN ps 3 ps.length) = nA4 ps (rs.take 0) := by simp [nA4]
  rw [hz4]
  refine loopP_intro (fun k : Nat => ⟨[(7, .i k), (3, .ptr 2 0 0), (2, .ptr 1 0 0), (1, .ptr 0 0 0)], hN ps rs (nA4 ps (rs.take k)), 0⟩) (fun k => k ≤ rs.length) (fun k => rs.length - k) 0 (by omega) ?_ ?_
  · simp -implicitDefEqProofs only [kH, List.getElem?_cons_zero, ↓reduceIte, Nat.reduceEqDiff, kR, leE, leH, leB, leV, leVs, keepP, liveP, wfE, wfB, wfV, wfL, List.take_zero, Bool.and_self, and_self, lg0, lg1, lg2, Int.natCast_zero, hN]
  rintro k hk
  unfold c16l3 hN
  simp -implicitDefEqProofs only [qV, qW, qZ, za, zb, zd, ze, zf, zg, zi, zl, zm, zn, zo, zp, zq, zr, zB, zG, zI, kA, kB, kC, kD, kH, ofConst, cells?, List.length_nil, List.length_cons, List.set_cons_zero, splice, kI, List.getD_eq_getElem?_getD, List.getElem?_cons_zero, ↓reduceIte, Nat.reduceEqDiff, Option.getD_some, kJ, kL, List.nil_append, List.cons_append, List.append_nil, Nat.zero_add, Nat.reduceAdd, Nat.add_zero, reduceCtorEq, freshP, buildP, litsP, kR, leE, leH, leB, leV, leVs, keepP, liveP, wfE, wfB, wfV, wfL, killE, killB, kill, kills, St.kill, List.map_cons, List.map_nil, List.drop_zero, List.take_zero, List.take_nil, List.drop_nil, List.all_cons, List.all_nil, isD, isC, Bool.and_true, Bool.and_self, true_and, and_true, and_self, V.v.injEq, Value.int.injEq, Value.bool.injEq, List.mem_cons, List.not_mem_nil, or_false, false_or, List.length_append, List.length_map, not_false_eq_true, Nat.reduceLT, Nat.reduceLeDiff, Nat.le_refl, lg0, kS, kT, kU, kV, lg1, kW, kX, kY, kZ, lg2, wa, wb, wc, lg3, we, wg, lg4, wj, jX, ↓jY, ↓qaa, ↓qab, ↓qac, ↓qad, ↓qag, ↓qah, ↓qai, ↓qaj, ↓qak, ↓qan, ↓qaq, ↓qav, ↓qaF, ↓qaG, ↓qaW, ↓qaX, ↓qbS, ↓qbW, ↓qca, List.length_map, List.getElem_map, rd_len, rd_take, rd_0, rd_1, rd_2, rd_3, rd_isC, Int.toNat_natCast]
  simp only [br, Int.toNat_natCast, decide_eq_true_eq, decide_eq_false_iff_not]
  refine fun _ => ⟨fun h => ?_, fun h => ?_⟩
  · have hkl : k < rs.length := by omega
    obtain ⟨hs1, hs2, _⟩ := hv.h k hkl hkl
    have hlen := nA4_len (ps := ps) (l := rs.take k)
    rw [List.length_take] at hlen
    refine ⟨⟨by omega, h⟩, hkl, ?_⟩
    simp only [lo, Fx.hi, maxLen] at *
    refine ⟨by omega, by omega, by omega, by omega, by omega, by omega, k + 1, ⟨by omega, by omega⟩, by omega, ?_⟩
    exact row_add _ _ _ (nA4_s hkl)
  have hk : k = rs.length := by omega
  subst hk
  simp [qa, qb, qc, qd, qe, qf, qh, qi, qj, qk, ql, qm, qn, qo, qp, qq, qr, qs, qt, qu, qv, qw, qx, qy, qz, qA, qB, qC, qD, qE, qF, qG, qH, qI, qJ, qK, qL, qM, qN, rdK, qO, qP, qQ, qR, qS, qT, qU, qV, qW, qX, qY, qZ, za, zb, zc, zd, ze, zf, zg, zh, zi, zj, zk, zl, zm, zn, zo, zp, zq, zr, zt, zu, zv, zw, zx, zy, zz, zA, zB, zC, zD, zE, zF, zG, zH, zI, zJ, zK, zL, zM, zN, zO, zP, zQ, zR, zS, zT, zU, zV, zW, zX, zY, zZ, ka, kc, ke, kf, kg, kh, ki, kj, kk, kn, ko, kp, kq, kr, kv, kw, kx, ky, kz, kA, kB, kC, kD, kF, kG, kH, ofConst, cells?, List.length_nil, List.length_cons, List.set_cons_zero, splice, kI, List.getD_eq_getElem?_getD, List.getElem?_cons_zero, ↓reduceIte, Nat.reduceEqDiff, Option.getD_some, kJ, kK, arrSz, kL, Bool.not_true, Bool.not_false, ↓kM, ↓kN, kO, kP, List.nil_append, List.cons_append, List.append_nil, Nat.zero_add, Nat.reduceAdd, Nat.add_zero, reduceCtorEq, freshP, Option.map_some, Option.map_none, slcOk, Option.getD_none, buildP, litsP, kQ, resP, tupV, List.reverse_cons, List.reverse_nil, kR, leE, leH, leB, leV, leVs, keepP, liveP, wfE, wfB, wfV, wfL, killE, killB, kill, kills, St.kill, List.map_cons, List.map_nil, List.drop_zero, List.take_zero, List.take_nil, List.drop_nil, List.all_cons, List.all_nil, isD, isC, Bool.and_true, Bool.and_self, true_and, and_true, and_self, V.v.injEq, Value.int.injEq, Value.bool.injEq, List.mem_cons, List.not_mem_nil, or_false, false_or, List.length_append, List.length_map, List.length_replicate, not_false_eq_true, Bool.false_eq_true, Nat.reduceLT, Nat.reduceLeDiff, Nat.le_refl, lg0, kS, kT, kU, kV, lg1, kW, kX, kY, kZ, lg2, wa, wb, wc, wd, lg3, we, wg, wh, wi, lg4, wj, wl, wm, wn, lg5, wo, wq, wr, wt, lg6, wu, wv, ww, wx, lg7, wy, wz, wB, wC, lg8, wD, wE, wF, wG, lg9, wH, wI, wJ, wK, wL, wM, wN, wO, wP, wQ, wR, wS, wT, wU, wV, wW, wX, wY, wZ, ja, jb, jc, jd, je, jf, jg, jh, ji, jj, jk, jl, jm, jn, jo, jp, jq, jr, jt, ju, jv, jx, jy, jz, jA, jB, jC, jD, jE, jF, jG, jH, jI, jJ, jK, jL, jM, jN, jO, jP, jQ, jR, jS, jT, jU, jV, jW, jX, ↓jY, ↓jZ, ↓qaa, ↓qab, ↓qac, ↓qad, ↓qae, ↓qaf, ↓qag, ↓qah, ↓qai, ↓qaj, ↓qak, ↓qal, ↓qam, ↓qan, ↓qao, ↓qap, ↓qaq, ↓qar, ↓qas, ↓qat, ↓qau, ↓qav, ↓qaw, ↓qax, ↓qay, ↓qaz, ↓qaA, ↓qaB, ↓qaC, ↓qaD, ↓qaE, ↓qaF, ↓qaG, ↓qaH, ↓qaI, ↓qaJ, ↓qaK, ↓qaL, ↓qaM, ↓qaN, ↓qaO, ↓qaP, ↓qaQ, ↓qaR, ↓qaS, ↓qaT, ↓qaU, ↓qaV, ↓qaW, ↓qaX, ↓qaY, ↓qaZ, ↓qba, ↓qbb, ↓qbc, ↓qbd, ↓qbe, ↓qbf, ↓qbg, ↓qbh, ↓qbi, ↓qbj, ↓qbk, ↓qbl, ↓qbm, ↓qbn, ↓qbo, ↓qbp, ↓qbq, ↓qbr, ↓qbs, ↓qbt, ↓qbu, ↓qbv, ↓qbw, ↓qbx, ↓qby, ↓qbz, ↓qbA, ↓qbB, ↓qbC, ↓qbD, ↓qbE, ↓qbF, ↓qbG, ↓qbH, ↓qbI, ↓qbJ, ↓qbK, ↓qbL, ↓qbM, ↓qbN, ↓qbO, ↓qbP, ↓qbQ, ↓qbR, ↓qbS, ↓qbT, ↓qbU, ↓qbV, ↓qbW, ↓qbX, ↓qbY, ↓qbZ, ↓qca, ↓qcb, ↓qcc, ↓qcd, ↓qce, ↓qcf, ↓qcg, List.length_map, List.getElem_map, al_len, al_take, al_0, al_1, al_2, al_isC, al_isD, sp_len, sp_take, sp_0, sp_1, sp_2, sp_isC, sp_isD, rd_len, rd_take, rd_0, rd_1, rd_2, rd_3, rd_isC, rd_isD, enc_len, enc_take, enc_0, enc_1, enc_2, enc_3, enc_isC, enc_isD, encI_len, encI_0, encB_len, encB_0, Int.toNat_natCast, encI_drop, encB_drop, cxN, retP_eq]
  exact ⟨_, ⟨leH_rf _, by simp, by simp [wfB, wfL, wfV, liveP]⟩, by simp [gvV, gvL, wk, wkR, wkL, blk, net, netOf]; exact List.take_of_length_le (by simp)⟩
end Go.Fx.P
