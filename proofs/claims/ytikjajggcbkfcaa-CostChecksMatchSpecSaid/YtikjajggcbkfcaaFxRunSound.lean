import Derived.Test.YtikjajggcbkfcaaFxFrz
import Derived.Test.YtikjajggcbkfcaaFxRun
import Derived.Test.YtikjajggcbkfcaaCLow
set_option linter.unusedVariables false
set_option linter.unusedSimpArgs false
set_option linter.unusedSectionVars false
namespace Go.Fx
def rdK (x : V) (bn : List Nat) : List Nat :=
  match x with
  | .ptr k _ _ => k :: bn
  | _ => bn
def tupK (x : V) (K : List V → Prop) : Prop :=
  match x with
  | .tup vs => K vs
  | _ => False
def nilK (x : V) (K : V → Prop) : Prop :=
  match x with
  | .ptr k i f => K (.ptr k i f)
  | .clo f cs => K (.clo f cs)
  | _ => False
def cloK (x : V) (K : FuncId → List V → Prop) : Prop :=
  match x with
  | .clo g cs => K g cs
  | _ => False

def lookM (h : List Blk) (kd : TypeDesc) (key : Value) (z : Value) (ok : Bool) (m : V) (K : V → Prop) : Prop :=
  match m with
  | .v (.map none) => lookK (some none) z ok K
  | m => mapK h m fun _ es _ => lookK (mfind kd key es 0) z ok K

mutual
theorem kill_nil : ∀ x : V, kill [] x = x
  | .any => rfl
  | .v _ => rfl
  | .ro _ _ => rfl
  | .bro _ _ => rfl
  | .full _ _ => rfl
  | .rp _ _ _ _ => rfl
  | .sl _ _ _ => by simp [kill]
  | .ptr _ _ _ => by simp [kill]
  | .mp _ => by simp [kill]
  | .itr _ => by simp [kill]
  | .agg cs => by simp [kill, kills_nil cs]
  | .tup cs => by simp [kill, kills_nil cs]
  | .clo _ cs => by simp [kill, kills_nil cs]
theorem kills_nil : ∀ xs : List V, kills [] xs = xs
  | [] => rfl
  | x :: r => by simp [kills, kill_nil x, kills_nil r]
end
theorem killE_nil : ∀ e : Env, killE [] e = e
  | [] => rfl
  | (_, x) :: r => by simp [killE, kill_nil x, killE_nil r]
theorem killB_nil (l : List Blk) : l.map (killB []) = l := by
  have : killB [] = id := by
    funext b
    cases b <;> simp [killB, kills_nil, kill_nil, killE_nil, funext kills_nil]
  simp [this]

/-! The executor's rules, each at a state that is written out. -/
section
variable {cx : Cx} {e : Env} {h : List Blk} {b : Nat} {K : V → St → Prop} {Ks : St → Prop} {N R : St → Prop} {X : Nat → St → Prop} {d : Option Nat} {op : LOp}
theorem zF {d : Nat} {x : V} : St.put ⟨e, h, b⟩ (some d) x = ⟨(d, x) :: e, h, b⟩ := rfl
theorem zG {x : V} : St.put ⟨e, h, b⟩ none x = ⟨e, h, b⟩ := rfl
theorem qO : aOps cx [] ⟨e, h, b⟩ Ks = Ks ⟨e, h, b⟩ := rfl
theorem qP {r : List LOper} : aOps cx (⟨d, op, none⟩ :: r) ⟨e, h, b⟩ Ks = aOp cx op ⟨e, h, b⟩ fun x s' => aOps cx r (s'.put d x) Ks := rfl
theorem qQ {g : Nat} {w : Bool} {r : List LOper} : aOps cx (⟨d, op, some (g, w)⟩ :: r) ⟨e, h, b⟩ Ks = guardP (get e g) w
      (aOp cx op ⟨(g, .b w) :: e, h, b⟩ fun x s' => aOps cx r (s'.put d x) Ks)
      (aOps cx r (St.put ⟨(g, .b !w) :: e, h, b⟩ d (.v (.tuple #[]))) Ks)
      (aOps cx r (St.put ⟨e, h, b⟩ d (.v (.tuple #[]))) Ks) := rfl
theorem qa {x : Operand} {bn : List Nat} : rdB (.mov x) e bn = bn := rfl
theorem qR {x : Operand} : aOp cx (.mov x) ⟨e, h, b⟩ K = K (ev e x) ⟨e, h, b⟩ := rfl
theorem qb {c x y : Operand} {bn : List Nat} : rdB (.pick c x y) e bn = bn := rfl
theorem qS {c x y : Operand} : aOp cx (.pick c x y) ⟨e, h, b⟩ K = brV (ev e c) (K (ev e x) ⟨e, h, b⟩) (K (ev e y) ⟨e, h, b⟩) := rfl
theorem qT {j : Nat} {x : Operand} : aOp cx (.box j x) ⟨e, h, b⟩ K = optK (cells? (ev e x)) fun cs => freshP h (b + j) ∧ K (.ptr (b + j) 0 0) ⟨e, h.set (b + j) (.var cs), b⟩ := rfl
theorem qU {j : Nat} {z : Value} : aOp cx (.alloc j z) ⟨e, h, b⟩ K = optK (cells? (ofConst z)) fun cs => freshP h (b + j) ∧ K (.ptr (b + j) 0 0) ⟨e, h.set (b + j) (.var cs), b⟩ := rfl
theorem qV {n : Option Nat} {x : Operand} : aOp cx (.load n x) ⟨e, h, b⟩ K = loadP h n (ev e x) fun y => K y ⟨e, h, b⟩ := rfl
theorem qW {n : Nat} {x y : Operand} : aOp cx (.store n x y) ⟨e, h, b⟩ K = optK (cells? (ev e y)) fun cs => storeP cx.bn h n (ev e x) cs fun h => K (.v (.tuple #[])) ⟨e, h, b⟩ := rfl
theorem qc {n : Nat} {x : Operand} {bn : List Nat} : rdB (.fld n x) e bn = bn := rfl
theorem qX {n : Nat} {x : Operand} : aOp cx (.fld n x) ⟨e, h, b⟩ K = fldP n (ev e x) fun y => K y ⟨e, h, b⟩ := rfl
theorem qd {n : Nat} {x i : Operand} {bn : List Nat} : rdB (.idx n x i) e bn = bn := rfl
theorem qY {n : Nat} {x i : Operand} : aOp cx (.idx n x i) ⟨e, h, b⟩ K = intK (ev e i) fun _ m => idxP h n m (ev e x) fun y => K y ⟨e, h, b⟩ := rfl
theorem qe {o : BinOp} {ex : Bool} {x y : Operand} {bn : List Nat} : rdB (.bin o ex x y) e bn = bn := rfl
theorem qZ {o : BinOp} {ex : Bool} {x y : Operand} : aOp cx (.bin o ex x y) ⟨e, h, b⟩ K = intK (ev e x) fun k a => intK (ev e y) fun k' c => k' = k ∧ binInt o ex k a c fun z => K z ⟨e, h, b⟩ := rfl
theorem qf {x : Operand} {bn : List Nat} : rdB (.len x) e bn = bn := rfl
theorem za {x : Operand} : aOp cx (.len x) ⟨e, h, b⟩ K = lenP (ev e x) fun y => K y ⟨e, h, b⟩ := rfl
theorem qh {x : Operand} {bn : List Nat} : rdB (.lens x) e bn = bn := rfl
theorem zb {x : Operand} : aOp cx (.lens x) ⟨e, h, b⟩ K = lensP (ev e x) fun y => K y ⟨e, h, b⟩ := rfl
theorem qi {x : Operand} {bn : List Nat} : rdB (.not x) e bn = bn := rfl
theorem zc {x : Operand} : aOp cx (.not x) ⟨e, h, b⟩ K = boolK (ev e x) fun t => K (.b (!t)) ⟨e, h, b⟩ := rfl
theorem qj {x : Operand} {bn : List Nat} : rdB (.neg x) e bn = bn := rfl
theorem zd {x : Operand} : aOp cx (.neg x) ⟨e, h, b⟩ K = intK (ev e x) fun k a => K (.v (.int k (k.wrap (-a)))) ⟨e, h, b⟩ := rfl
theorem qk {ex : Bool} {k : IntKind} {x : Operand} {bn : List Nat} : rdB (.conv ex k x) e bn = bn := rfl
theorem ze {ex : Bool} {k : IntKind} {x : Operand} : aOp cx (.conv ex k x) ⟨e, h, b⟩ K = intK (ev e x) fun _ a => if ex then (lo k ≤ a ∧ a ≤ hi k) ∧ K (.v (.int k a)) ⟨e, h, b⟩ else K (.v (.int k (k.wrap a))) ⟨e, h, b⟩ := rfl
theorem ql {mx : Bool} {x y : Operand} {bn : List Nat} : rdB (.minmax mx x y) e bn = bn := rfl
theorem zf {mx : Bool} {x y : Operand} : aOp cx (.minmax mx x y) ⟨e, h, b⟩ K = intK (ev e x) fun k a => intK (ev e y) fun k' c => k' = k ∧ K (.v (.int k (if mx then max a c else min a c))) ⟨e, h, b⟩ := rfl
theorem qm {f : FuncId} {cs : List Operand} {bn : List Nat} : rdB (.fn f cs) e bn = bn := rfl
theorem zg {f : FuncId} {cs : List Operand} : aOp cx (.fn f cs) ⟨e, h, b⟩ K = K (.clo f (cs.map (ev e))) ⟨e, h, b⟩ := rfl
theorem qn {off : Nat} {n : Option Nat} {x : Operand} {bn : List Nat} : rdB (.field off n x) e bn = bn := rfl
theorem zh {off : Nat} {n : Option Nat} {x : Operand} : aOp cx (.field off n x) ⟨e, h, b⟩ K = aggK (ev e x) fun cs => loadCs n off cs fun y => K y ⟨e, h, b⟩ := rfl
theorem qo {z : Nat} {x : Operand} {l u m : Option Operand} {bn : List Nat} : rdB (.slice z x l u m) e bn = bn := rfl
theorem zi {z : Nat} {x : Operand} {l u m : Option Operand} : aOp cx (.slice z x l u m) ⟨e, h, b⟩ K = optI (l.map (ev e)) fun l => optI (u.map (ev e)) fun u => optI (m.map (ev e)) fun m => slcP h z (ev e x) l u m fun y => K y ⟨e, h, b⟩ := rfl
theorem qp {z : List Value} {ps : List (Nat × Nat × Operand)} {bn : List Nat} : rdB (.build z ps) e bn = bn := rfl
theorem zj {z : List Value} {ps : List (Nat × Nat × Operand)} : aOp cx (.build z ps) ⟨e, h, b⟩ K = buildP e (z.map .v) ps fun y => K y ⟨e, h, b⟩ := rfl
theorem qq {neg : Bool} {x y : Operand} {bn : List Nat} : rdB (.eqb neg x y) e bn = bn := rfl
theorem zk {neg : Bool} {x y : Operand} : aOp cx (.eqb neg x y) ⟨e, h, b⟩ K = boolK (ev e x) fun a => boolK (ev e y) fun c => K (.b (if neg then a != c else a == c)) ⟨e, h, b⟩ := rfl
theorem qr {neg : Bool} {ks : List (Nat × TypeDesc)} {x y : Operand} {bn : List Nat} : rdB (.eqf neg ks x y) e bn = bn := rfl
theorem zl {neg : Bool} {ks : List (Nat × TypeDesc)} {x y : Operand} : aOp cx (.eqf neg ks x y) ⟨e, h, b⟩ K = optK (aggC (ev e x)) fun xs => optK (aggC (ev e y)) fun ys => eqFs xs ys ks fun t => K (.b (if neg then !t else t)) ⟨e, h, b⟩ := rfl
theorem qs {o : BinOp} {x y : Operand} {bn : List Nat} : rdB (.shift o x y) e bn = bn := rfl
theorem zm {o : BinOp} {x y : Operand} : aOp cx (.shift o x y) ⟨e, h, b⟩ K = intK (ev e x) fun k a => intK (ev e y) fun _ c => shiftInt o k a c fun z => K z ⟨e, h, b⟩ := rfl
theorem zn {neg : Bool} {x : Operand} {v : Value} : aOp cx (.eqn neg x (.const v)) ⟨e, h, b⟩ K = match ofConst v with | .v _ => eqnP (ev e x) fun t => K (.b (if neg then !t else t)) ⟨e, h, b⟩ | _ => False := rfl
theorem zo {j sz n : Nat} {z : List Value} {ps : List (Nat × Operand)} : aOp cx (.lits j sz n z ps) ⟨e, h, b⟩ K = litsP e sz (List.replicate n (z.map .v)) ps fun els => freshP h (b + j) ∧ K (.sl (b + j) 0 n) ⟨e, h.set (b + j) (.arr sz els), b⟩ := rfl
theorem zp {j sz bytes : Nat} {z : List Value} {l c : Operand} : aOp cx (.mk j sz bytes z l c) ⟨e, h, b⟩ K = intK (ev e l) fun _ a => intK (ev e c) fun _ d => ((0 ≤ a ∧ a ≤ d) ∧ (bytes : Int) * d ≤ 281474976710656 ∧ d ≤ 9223372036854775807) ∧ freshP h (b + j) ∧ K (.sl (b + j) 0 a.toNat) ⟨e, h.set (b + j) (.arr sz (List.replicate a.toNat (z.map .v))), b⟩ := rfl
theorem zq {j sz bytes : Nat} {x y : Operand} : aOp cx (.append j sz bytes x y) ⟨e, h, b⟩ K = viewK h (ev e y) fun sz' new => (new = [] ∨ sz' = sz) ∧ appP cx.fx cx.bn (b + j) sz bytes ⟨e, h, b⟩ (ev e x) new K := rfl
theorem zr {sz : Nat} {x y : Operand} : aOp cx (.copy sz x y) ⟨e, h, b⟩ K = viewK h (ev e y) fun sz' new => (new = [] ∨ sz' = sz) ∧ copyP cx.bn sz ⟨e, h, b⟩ (ev e x) new K := rfl
theorem zt {j sz bytes : Nat} {z : List Value} {l c : Operand} : aOp cx (.mkv j sz bytes z l c) ⟨e, h, b⟩ K = intK (ev e l) fun _ a => intK (ev e c) fun _ c => ((0 ≤ a ∧ a ≤ c) ∧ (bytes : Int) * c ≤ 281474976710656 ∧ c ≤ 9223372036854775807) ∧ freshP h (b + j) ∧ K (.sl (b + j) 0 a.toNat) ⟨e, h.set (b + j) (.arv sz (List.replicate a.toNat (z.map .v))), b⟩ := rfl
theorem zu {kd : TypeDesc} {m k x : Operand} : aOp cx (.mset kd m k x) ⟨e, h, b⟩ K = keyK kd (ev e k) fun key => mapK h (ev e m) fun c es t => c ∉ cx.bn ∧ msetK (mfind kd key es 0) key (ev e x) es t fun B => K (.v (.tuple #[])) ⟨e, h.set c B, b⟩ := rfl
theorem zv {j : Nat} : aOp cx (.mkmap j none) ⟨e, h, b⟩ K = (True ∧ freshP h (b + j) ∧ K (.mp (b + j)) ⟨e, h.set (b + j) (.map [] 0), b⟩) := rfl
theorem zw {kd : TypeDesc} {z : Value} {ok : Bool} {m k : Operand} : aOp cx (.lookup kd z ok m k) ⟨e, h, b⟩ K = keyK kd (ev e k) fun key => lookM h kd key z ok (ev e m) fun x => K x ⟨e, h, b⟩ := rfl
theorem zx {m : Operand} : aOp cx (.mlen m) ⟨e, h, b⟩ K = mapK h (ev e m) fun _ es _ => K (.i es.length) ⟨e, h, b⟩ := rfl
theorem zy {j : Nat} {m : Operand} : aOp cx (.range j m) ⟨e, h, b⟩ K = mapK h (ev e m) fun _ _ c => freshP h (b + j) ∧ K (.ptr (b + j) 0 0) ⟨e, h.set (b + j) (.it (ev e m) c [] c), b⟩ := rfl
theorem zz {i : Operand} : aOp cx (.next i) ⟨e, h, b⟩ K = itK h (ev e i) fun c m since seen last => mapK h m fun _ es t => c ∉ cx.bn ∧ nextK es since seen last (K (.tup [.b false]) ⟨e, h, b⟩) fun key x born => K (.tup [.b true, .v key, x]) ⟨e, h.set c (.it m since (seen ++ [born]) t), b⟩ := rfl
theorem zA {i : Operand} : aOp cx (.entry i) ⟨e, h, b⟩ K = itK h (ev e i) fun _ m _ seen last => mapK h m fun _ es c => last = c ∧ optK seen.getLast? fun st => entK (es.find? fun q => q.2.2 == st) fun x => K x ⟨e, h, b⟩ := rfl
theorem zB {f : FuncId} {xs : List Operand} : aOp cx (.call f xs) ⟨e, h, b⟩ K = callP cx f (xs.map (ev e)) ⟨e, h, b⟩ K := rfl
theorem qt {x : Operand} {i : Nat} {bn : List Nat} : rdB (.ext x i) e bn = bn := rfl
theorem qu {x : Operand} {bn : List Nat} : rdB (.nilc x) e bn = bn := rfl
theorem qv {t : Bool} {x y : Operand} {bn : List Nat} : rdB (.eqn t x y) e bn = bn := rfl
theorem qw {n : Option Nat} {x : Operand} {bn : List Nat} : rdB (.load n x) e bn = rdK (ev e x) bn := by
  show (match ev e x with | .ptr k _ _ => k :: bn | _ => bn) = _
  unfold rdK
  cases ev e x <;> rfl
theorem zC {x : Operand} {i : Nat} : aOp cx (.ext x i) ⟨e, h, b⟩ K = tupK (ev e x) fun vs => optK vs[i]? fun y => K y ⟨e, h, b⟩ := by
  simp only [aOp, tupK]; split <;> simp_all
theorem zD {x : Operand} : aOp cx (.nilc x) ⟨e, h, b⟩ K = nilK (ev e x) fun y => K y ⟨e, h, b⟩ := by
  simp only [aOp, nilK]; split <;> simp_all
theorem zE {f : Operand} {xs : List Operand} : aOp cx (.callv f xs) ⟨e, h, b⟩ K = cloK (ev e f) fun g cs => callP cx g (xs.map (ev e) ++ cs) ⟨e, h, b⟩ K := by
  simp only [aOp, cloK]; split <;> simp_all
theorem qE : aw cx .skip N X R ⟨e, h, b⟩ = N ⟨e, h, b⟩ := rfl
theorem qF {n : Nat} {l : List LOper} : aw cx (.reg n l) N X R ⟨e, h, b⟩ = aOps cx l ⟨e, h ++ List.replicate n .dead, h.length⟩ N := rfl
theorem qG {m n : Nat} {l : List LOper} : aw cx (.tail m n l) N X R ⟨e, h, b⟩ = aOps cx l ⟨e, h ++ List.replicate n .dead, h.length⟩ N := rfl
theorem qH {n : Nat} {l : List LOper} : aw cx (.qui n l) N X R ⟨e, h, b⟩ = aOps cx l ⟨e, h ++ List.replicate n .dead, h.length⟩ N := rfl
theorem qx {n : Nat} {p : LPlan} : aw cx (.tree n p) N X R ⟨e, h, b⟩ = awP cx p [] N ⟨e, h ++ List.replicate n .dead, h.length⟩ := rfl
theorem qy {bn : List Nat} : awP cx .done bn Ks ⟨e, h, b⟩ = Ks ⟨e, h, b⟩ := rfl
theorem qz {bn : List Nat} : awP cx .none bn Ks ⟨e, h, b⟩ = True := rfl
theorem qA {i : Nat} {D bn : List Nat} {p : LPlan} : awP cx (.take i D ⟨d, op, none⟩ p) bn Ks ⟨e, h, b⟩ = aOp cx op ⟨e, h, b⟩ fun x s' => awP cx p (rdB op e bn) Ks (s'.put d x) := rfl
theorem qB {i g : Nat} {w : Bool} {D bn : List Nat} {p : LPlan} : awP cx (.take i D ⟨d, op, some (g, w)⟩ p) bn Ks ⟨e, h, b⟩ = guardP (get e g) w
      (aOp cx op ⟨(g, .b w) :: e, h, b⟩ fun x s' => awP cx p (rdB op e bn) Ks (s'.put d x))
      (awP cx p (rdB op e bn) Ks (St.put ⟨(g, .b !w) :: e, h, b⟩ d (.v (.tuple #[]))))
      (awP cx p (rdB op e bn) Ks (St.put ⟨e, h, b⟩ d (.v (.tuple #[])))) := rfl
theorem qC {i : Nat} {r : Bool} {bn : List Nat} {p q : LPlan} : awP cx (.alt i ⟨d, op, none⟩ r p q) bn Ks ⟨e, h, b⟩ =
      ((aOp ⟨cx.C, cx.fx, if r then bn else [], cx.it, cx.y, cx.rk⟩ op ⟨e, h, b⟩ fun x s' => awP cx p (if r then bn else []) Ks (s'.put d x)) ∧ awP cx q bn Ks ⟨e, h, b⟩) := rfl
theorem qD {i g : Nat} {w r : Bool} {bn : List Nat} {p q : LPlan} : awP cx (.alt i ⟨d, op, some (g, w)⟩ r p q) bn Ks ⟨e, h, b⟩ =
      ((guardP (get e g) w
        (aOp ⟨cx.C, cx.fx, if r then bn else [], cx.it, cx.y, cx.rk⟩ op ⟨(g, .b w) :: e, h, b⟩ fun x s' => awP cx p (if r then bn else []) Ks (s'.put d x))
        (awP cx p (if r then bn else []) Ks (St.put ⟨(g, .b !w) :: e, h, b⟩ d (.v (.tuple #[]))))
        (awP cx p (if r then bn else []) Ks (St.put ⟨e, h, b⟩ d (.v (.tuple #[]))))) ∧ awP cx q bn Ks ⟨e, h, b⟩) := rfl
theorem qI {x y : LCode} : aw cx (.seq x y) N X R ⟨e, h, b⟩ = aw cx x (fun s' => aw cx y N X R s') X R ⟨e, h, b⟩ := rfl
theorem qJ {c : Operand} {x y : LCode} : aw cx (.cond c x y) N X R ⟨e, h, b⟩ = brV (ev e c) (aw cx x N X R ⟨e, h, b⟩) (aw cx y N X R ⟨e, h, b⟩) := rfl
theorem qK {i : Nat} {x : LCode} : aw cx (.block i x) N X R ⟨e, h, b⟩ = aw cx x N (fun j s' => if j = i then N s' else X j s') R ⟨e, h, b⟩ := rfl
theorem qL {x : LCode} : aw cx (.loop x) N X R ⟨e, h, b⟩ = loopP cx.fx (fun N => aw cx x N X R) ⟨e, h, b⟩ := rfl
theorem qM {i : Nat} : aw cx (.exit i) N X R ⟨e, h, b⟩ = X i ⟨e, h, b⟩ := rfl
theorem qN : aw cx .ret N X R ⟨e, h, b⟩ = R ⟨e, h, b⟩ := rfl
theorem zQ {A B : Prop} : br true A B = A := by simp [br]
theorem zR {A B : Prop} : br false A B = B := by simp [br]
theorem zP {t : Bool} {A B : Prop} : brV (.v (.bool t)) A B = br t A B := rfl
theorem zS {t : Bool} {w : Bool} {A B C : Prop} : guardP (.v (.bool t)) w A B C = if w then br t A B else br t B A := rfl
theorem zT {w : Bool} {A B C : Prop} : guardP (.v (.tuple #[])) w A B C = C := rfl
theorem zN {k : IntKind} {a : Int} {K : IntKind → Int → Prop} : intK (.v (.int k a)) K = K k a := rfl
theorem zO {a : Bool} {K : Bool → Prop} : boolK (.v (.bool a)) K = K a := rfl
theorem retP_eq {fx : List Nat} {n : Nat} {rs : List LRes} {R : V → List Blk → Prop} : retP fx n rs R ⟨e, h, b⟩ = resP h e rs [] fun xs => ∃ p, (leH h p ∧ keepP fx p ∧ n ≤ p.length ∧ wfV p (tupV xs) ∧ wfB p p) ∧ R (tupV xs) p := rfl
theorem zV {fx : List Nat} {p : Env} {q : List Blk} {b' : Nat} : leS fx ⟨e, h, b⟩ ⟨p, q, b'⟩ = (leE e p ∧ leH h q ∧ keepP fx q ∧ wfE q p ∧ wfB q q) := rfl
end

/-! What comes behind an operation is looked at when the operation is done, not before. -/
section
variable {cx : Cx} {h : List Blk} {e : Env} {s : St} {fx bn : List Nat}
/-- A plain result's contract. -/
def Is (x : V) : V → List Blk → Prop := fun r h => r = x ∧ h = []
theorem zU {e : Env} {h : List Blk} {b : Nat} {rs : List LRes} {x : V} : retP [] 0 rs (Is x) ⟨e, h, b⟩ = resP h e rs [] fun xs => wfV [] (tupV xs) ∧ tupV xs = x := by
  unfold retP Is
  simp only
  congr 1
  funext xs
  apply propext
  constructor
  · rintro ⟨p, ⟨_, _, _, h4, _⟩, h5, rfl⟩
    exact ⟨h4, h5⟩
  · rintro ⟨h4, h5⟩
    exact ⟨[], ⟨by unfold leH; trivial, trivial, Nat.le_refl _, h4, trivial⟩, h5, rfl⟩
theorem zH {t : Nat} : ev e (.tmp t) = get e t := rfl
theorem zI {c : Value} : ev e (.const c) = ofConst c := rfl
theorem zJ {f : FuncId} : ev e (.func f) = .clo f [] := rfl
theorem zK {i : Nat} : get [] i = .any := rfl
theorem zL {j i : Nat} {x : V} {r : Env} : get ((j, x) :: r) i = if i = j then x else get r i := rfl
theorem zM {k : Nat} : blk h k = h.getD k .dead := rfl
@[congr] theorem c_optK {α : Type} {o o' : Option α} {K : α → Prop} (q : o = o') : optK o K = optK o' K := by rw [q]
@[congr] theorem c_intK {x x' : V} {K : IntKind → Int → Prop} (q : x = x') : intK x K = intK x' K := by rw [q]
@[congr] theorem c_boolK {x x' : V} {K : Bool → Prop} (q : x = x') : boolK x K = boolK x' K := by rw [q]
@[congr] theorem c_brV {x x' : V} {A B : Prop} (q : x = x') : brV x A B = brV x' A B := by rw [q]
@[congr] theorem c_guardP {x x' : V} {w : Bool} {A B C : Prop} (q : x = x') : guardP x w A B C = guardP x' w A B C := by rw [q]
@[congr] theorem c_loadP {n : Option Nat} {p p' : V} {K : V → Prop} (q : p = p') : loadP h n p K = loadP h n p' K := by rw [q]
@[congr] theorem c_loadB {n : Option Nat} {i f : Nat} {b b' : Blk} {K : V → Prop} (q : b = b') : loadB n i f b K = loadB n i f b' K := by rw [q]
@[congr] theorem c_loadCs {n : Option Nat} {f : Nat} {cs cs' : List V} {K : V → Prop} (q : cs = cs') : loadCs n f cs K = loadCs n f cs' K := by rw [q]
@[congr] theorem c_storeP {n : Nat} {p p' : V} {cs cs' : List V} {K : List Blk → Prop} (q : p = p') (q2 : cs = cs') : storeP bn h n p cs K = storeP bn h n p' cs' K := by rw [q, q2]
@[congr] theorem c_storeB {n i f : Nat} {cs : List V} {b b' : Blk} {K : Blk → Prop} (q : b = b') : storeB n i f cs b K = storeB n i f cs b' K := by rw [q]
@[congr] theorem c_fldP {n : Nat} {x x' : V} {K : V → Prop} (q : x = x') : fldP n x K = fldP n x' K := by rw [q]
@[congr] theorem c_idxP {z : Nat} {n n' : Int} {x x' : V} {K : V → Prop} (q : x = x') (q2 : n = n') : idxP h z n x K = idxP h z n' x' K := by rw [q, q2]
@[congr] theorem c_lenP {x x' : V} {K : V → Prop} (q : x = x') : lenP x K = lenP x' K := by rw [q]
@[congr] theorem c_lensP {x x' : V} {K : V → Prop} (q : x = x') : lensP x K = lensP x' K := by rw [q]
@[congr] theorem c_viewK {x x' : V} {K : Nat → List (List V) → Prop} (q : x = x') : viewK h x K = viewK h x' K := by rw [q]
@[congr] theorem c_optI {x x' : Option V} {K : Option Int → Prop} (q : x = x') : optI x K = optI x' K := by rw [q]
@[congr] theorem c_slcP {z : Nat} {x x' : V} {l u m : Option Int} {K : V → Prop} (q : x = x') : slcP h z x l u m K = slcP h z x' l u m K := by rw [q]
@[congr] theorem c_buildP {acc acc' : List V} {ps : List (Nat × Nat × Operand)} {K : V → Prop} (q : acc = acc') : buildP e acc ps K = buildP e acc' ps K := by rw [q]
@[congr] theorem c_litsP {sz : Nat} {acc acc' : List (List V)} {ps : List (Nat × Operand)} {K : List (List V) → Prop} (q : acc = acc') : litsP e sz acc ps K = litsP e sz acc' ps K := by rw [q]
@[congr] theorem c_eqnP {x x' : V} {K : Bool → Prop} (q : x = x') : eqnP x K = eqnP x' K := by rw [q]
@[congr] theorem c_appP {id sz bytes : Nat} {x x' : V} {new new' : List (List V)} {K : V → St → Prop} (q : x = x') (q2 : new = new') : appP fx bn id sz bytes s x new K = appP fx bn id sz bytes s x' new' K := by rw [q, q2]
@[congr] theorem c_appB {k i n sz bytes : Nat} {new : List (List V)} {b b' : Blk} {K : V → St → Prop} (q : b = b') : appB fx bn k i n sz bytes s new b K = appB fx bn k i n sz bytes s new b' K := by rw [q]
@[congr] theorem c_appNew {id sz bytes : Nat} {old old' new : List (List V)} {K : V → St → Prop} (q : old = old') : appNew id sz bytes s old new K = appNew id sz bytes s old' new K := by rw [q]
@[congr] theorem c_copyP {sz : Nat} {x x' : V} {new : List (List V)} {K : V → St → Prop} (q : x = x') : copyP bn sz s x new K = copyP bn sz s x' new K := by rw [q]
@[congr] theorem c_tupK {x x' : V} {K : List V → Prop} (q : x = x') : tupK x K = tupK x' K := by rw [q]
@[congr] theorem c_nilK {x x' : V} {K : V → Prop} (q : x = x') : nilK x K = nilK x' K := by rw [q]
@[congr] theorem c_cloK {x x' : V} {K : FuncId → List V → Prop} (q : x = x') : cloK x K = cloK x' K := by rw [q]
@[congr] theorem c_aggK {x x' : V} {K : List V → Prop} (q : x = x') : aggK x K = aggK x' K := by rw [q]
@[congr] theorem c_callP {f : FuncId} {xs xs' : List V} {s s' : St} {K : V → St → Prop} (q : xs = xs') (q2 : s = s') : callP cx f xs s K = callP cx f xs' s' K := by rw [q, q2]
@[congr] theorem c_binInt {op : BinOp} {ex : Bool} {k : IntKind} {a a' b b' : Int} {K : V → Prop} (q : a = a') (q2 : b = b') : binInt op ex k a b K = binInt op ex k a' b' K := by rw [q, q2]
@[congr] theorem c_eqFs {xs xs' ys ys' : List V} {ks : List (Nat × TypeDesc)} {K : Bool → Prop} (q : xs = xs') (q2 : ys = ys') : eqFs xs ys ks K = eqFs xs' ys' ks K := by rw [q, q2]
@[congr] theorem c_eqC {kd : TypeDesc} {x x' y y' : Option V} {K : Bool → Prop} (q : x = x') (q2 : y = y') : eqC kd x y K = eqC kd x' y' K := by rw [q, q2]
@[congr] theorem c_resP {ls : List LRes} {acc acc' : List V} {K : List V → Prop} (q : acc = acc') : resP h e ls acc K = resP h e ls acc' K := by rw [q]
@[congr] theorem c_awP {p : LPlan} {s s' : St} {Ks : St → Prop} (q : s = s') : awP cx p bn Ks s = awP cx p bn Ks s' := by rw [q]
@[congr] theorem c_aOps {l : List LOper} {s s' : St} {Ks : St → Prop} (q : s = s') : aOps cx l s Ks = aOps cx l s' Ks := by rw [q]
@[congr] theorem c_aw {c : LCode} {s s' : St} {N R : St → Prop} {X : Nat → St → Prop} (q : s = s') : aw cx c N X R s = aw cx c N X R s' := by rw [q]
@[congr] theorem c_aOp {o : LOp} {s s' : St} {K : V → St → Prop} (q : s = s') : aOp cx o s K = aOp cx o s' K := by rw [q]
end

theorem loopP_intro {fx : List Nat} {f : (St → Prop) → St → Prop} {s : St} {G : Type} (pat : G → St) (I : G → Prop) (μ : G → Nat) (g : G) (h0 : I g) (h1 : leS fx s (pat g))
    (h : ∀ g, I g → f (fun s' => ∃ g', (I g' ∧ μ g' < μ g) ∧ leS fx s' (pat g')) (pat g)) : loopP fx f s :=
  ⟨G, pat, I, μ, leS fx, fun a _ h => ⟨a, .refl a, h⟩, ⟨g, h0, _, .refl s, h1⟩, h⟩
/-- As loopP_intro, after steps that change what is said alone. -/
theorem loopP_ghost {fx : List Nat} {f : (St → Prop) → St → Prop} {s s0 : St} {G : Type} (hg : Ghost fx s s0) (pat : G → St) (I : G → Prop) (μ : G → Nat) (g : G) (h0 : I g) (h1 : leS fx s0 (pat g))
    (h : ∀ g, I g → f (fun s' => ∃ g', (I g' ∧ μ g' < μ g) ∧ leS fx s' (pat g')) (pat g)) : loopP fx f s :=
  ⟨G, pat, I, μ, leS fx, fun a _ h => ⟨a, .refl a, h⟩, ⟨g, h0, s0, hg, h1⟩, h⟩
/-- As loopP_ghost; such steps may be taken at the end of each round, too. -/
theorem loopP_back {fx : List Nat} {f : (St → Prop) → St → Prop} {s : St} {G : Type} (pat : G → St) (I : G → Prop) (μ : G → Nat) (g : G) (h0 : I g) (h1 : leG fx s (pat g))
    (h : ∀ g, I g → f (fun s' => ∃ g', (I g' ∧ μ g' < μ g) ∧ leG fx s' (pat g')) (pat g)) : loopP fx f s :=
  ⟨G, pat, I, μ, leG fx, fun _ _ h => h, ⟨g, h0, h1⟩, h⟩
/-- As loopP_intro; the blocks of M are given up first. -/
theorem loopP_give {fx : List Nat} {f : (St → Prop) → St → Prop} {s : St} {G : Type} (M : Nat → Bool) (pat : G → St) (I : G → Prop) (μ : G → Nat) (g : G) (hM : ∀ k ∈ fx, M k = false) (h0 : I g) (h1 : leS fx (s.give M) (pat g))
    (h : ∀ g, I g → f (fun s' => ∃ g', (I g' ∧ μ g' < μ g) ∧ leS fx s' (pat g')) (pat g)) : loopP fx f s :=
  loopP_ghost (.give M hM (.refl _)) pat I μ g h0 h1 h

/-- A call of a function that gets data alone, and hands back what is new. -/
theorem callP_pure {cx : Cx} {f : FuncId} {args : List V} {e : Env} {h : List Blk} {b : Nat} {K : V → St → Prop} (zas : List V) (R : V → List Blk → Prop) (h1 : lendsOk h (fun _ => none) args ∧ wkL zas (lends h (fun _ => none) args)) (h2 : cx.C f zas [] [] R)
    (h3 : ∀ r h', R r h' → keepP cx.fx (h ++ h'.map (renB (fun j => some (h.length + j)))) ∧ K (ren (fun j => some (h.length + j)) r) ⟨e, h ++ h'.map (renB (fun j => some (h.length + j))), b⟩) : callP cx f args ⟨e, h, b⟩ K := by
  have hp : pos [] = fun _ => none := rfl
  have hb : back [] h.length = fun j => some (h.length + j) := by funext j; simp [back]
  have hk : ∀ l : List Blk, l.map (killB []) = l := killB_nil
  refine ⟨[], zas, [], R, ⟨⟨List.nodup_nil, by simp⟩, by simp⟩, ?_, ?_, by simpa using h2, ?_⟩
  · rw [hp]; exact h1.1
  · rw [hp]; exact h1.2
  · intro r h' hR _
    have := h3 r h' hR
    simp only [hb, setAll, List.filterMap_nil, hk, killE_nil]
    exact this
section
variable {h : List Blk} {e : Env} {s : St} {fx bn : List Nat} {b : Nat}
def viewB (b : Blk) (i n : Nat) (K : Nat → List (List V) → Prop) : Prop :=
  match b with
  | .arr sz els => i + n ≤ els.length ∧ K sz ((els.drop i).take n)
  | _ => False
theorem jh {α : Type} {x : α} {K : α → Prop} : optK (some x) K = K x := rfl
theorem ji {α : Type} {K : α → Prop} : optK none K = False := rfl
theorem jj {n : Option Nat} {k i f : Nat} {K : V → Prop} : loadP h n (.ptr k i f) K = loadB n i f (blk h k) K := rfl
theorem jk {n : Option Nat} {z i f : Nat} {els : List (List V)} {K : V → Prop} : loadP h n (.rp z els i f) K = ∃ hi : i < els.length, loadCs n f (els[i]'hi) K := rfl
theorem jl {n : Option Nat} {i f : Nat} {cs : List V} {K : V → Prop} : loadB n i f (.var cs) K = loadCs n f cs K := rfl
theorem jm {n : Option Nat} {i f z : Nat} {els : List (List V)} {K : V → Prop} : loadB n i f (.arr z els) K = ∃ hi : i < els.length, loadCs n f (els[i]'hi) K := rfl
theorem jn {n : Option Nat} {i f z : Nat} {els : List (List V)} {K : V → Prop} : loadB n i f (.arv z els) K = ∃ hi : i < els.length, loadCs n f (els[i]'hi) K := rfl
theorem jo {f : Nat} {cs : List V} {K : V → Prop} : loadCs none f cs K = optK cs[f]? K := rfl
theorem jp {m f : Nat} {cs : List V} {K : V → Prop} : loadCs (some m) f cs K = (f + m ≤ cs.length ∧ K (.agg ((cs.drop f).take m))) := rfl
theorem jq {n k i f : Nat} {cs : List V} {K : List Blk → Prop} : storeP bn h n (.ptr k i f) cs K = ((cs.length = n ∧ k ∉ bn) ∧ cs.all isC = true ∧ storeB n i f cs (blk h k) fun b => K (h.set k b)) := rfl
theorem jr {n i f : Nat} {cs old : List V} {K : Blk → Prop} : storeB n i f cs (.var old) K = ((f + n ≤ old.length) ∧ K (.var (splice old f cs))) := rfl
theorem jt {n i f z : Nat} {cs : List V} {els : List (List V)} {K : Blk → Prop} : storeB n i f cs (.arr z els) K = ((f + n ≤ z ∧ cs.all isD = true) ∧ ∃ hi : i < els.length, K (.arr z (els.set i (splice (els[i]'hi) f cs)))) := rfl
theorem ju {n i f z : Nat} {cs : List V} {els : List (List V)} {K : Blk → Prop} : storeB n i f cs (.arv z els) K = ((f + n ≤ z) ∧ ∃ hi : i < els.length, K (.arv z (els.set i (splice (els[i]'hi) f cs)))) := rfl
theorem jv {o k i f : Nat} {K : V → Prop} : fldP o (.ptr k i f) K = K (.ptr k i (f + o)) := rfl
theorem jx {o z i f : Nat} {els : List (List V)} {K : V → Prop} : fldP o (.rp z els i f) K = K (.rp z els i (f + o)) := rfl
theorem jy {z k i m : Nat} {n : Int} {K : V → Prop} : idxP h z n (.sl k i m) K = (arrSz z (blk h k) ∧ (0 ≤ n ∧ n < m) ∧ K (.ptr k (i + n.toNat) 0)) := rfl
theorem jz {z y : Nat} {els : List (List V)} {n : Int} {K : V → Prop} : idxP h z n (.ro y els) K = (y = z ∧ (0 ≤ n ∧ n < els.length) ∧ K (.rp y els n.toNat 0)) := rfl
theorem jA {z y : Nat} {els : List (List V)} {n : Int} {K : V → Prop} : idxP h z n (.bro y els) K = (y = z ∧ (0 ≤ n ∧ n < els.length) ∧ K (.rp y els n.toNat 0)) := rfl
theorem jB {z y : Nat} {els : List (List V)} {n : Int} {K : V → Prop} : idxP h z n (.full y els) K = (y = z ∧ (0 ≤ n ∧ n < els.length) ∧ K (.rp y els n.toNat 0)) := rfl
theorem jC {z : Nat} {n : Int} {K : V → Prop} : idxP h z n (.v (.slice none 0 0)) K = False := rfl
theorem jD {k i n : Nat} {K : V → Prop} : lenP (.sl k i n) K = (n ≤ maxLen → K (.i n)) := rfl
theorem jE {y : Nat} {els : List (List V)} {K : V → Prop} : lenP (.ro y els) K = (els.length ≤ maxLen → K (.i els.length)) := rfl
theorem jF {y : Nat} {els : List (List V)} {K : V → Prop} : lenP (.bro y els) K = (els.length ≤ maxLen → K (.i els.length)) := rfl
theorem jG {y : Nat} {els : List (List V)} {K : V → Prop} : lenP (.full y els) K = (els.length ≤ maxLen → K (.i els.length)) := rfl
theorem jH {K : V → Prop} : lenP (.v (.slice none 0 0)) K = K (.i 0) := rfl
theorem jI {t : ByteArray} {K : V → Prop} : lensP (.v (.string t)) K = K (.i t.size) := rfl
theorem jJ {vs : List V} {K : List V → Prop} : tupK (.tup vs) K = K vs := rfl
theorem jK {k i f : Nat} {K : V → Prop} : nilK (.ptr k i f) K = K (.ptr k i f) := rfl
theorem jL {f : FuncId} {cs : List V} {K : V → Prop} : nilK (.clo f cs) K = K (.clo f cs) := rfl
theorem jM {f : FuncId} {cs : List V} {K : FuncId → List V → Prop} : cloK (.clo f cs) K = K f cs := rfl
theorem jN {cs : List V} {K : List V → Prop} : aggK (.agg cs) K = K cs := rfl
theorem jO {k i n : Nat} {K : Nat → List (List V) → Prop} : viewK h (.sl k i n) K = viewB (blk h k) i n K := rfl
theorem jP {i n z : Nat} {els : List (List V)} {K : Nat → List (List V) → Prop} : viewB (.arr z els) i n K = (i + n ≤ els.length ∧ K z ((els.drop i).take n)) := rfl
theorem jQ {z : Nat} {els : List (List V)} {K : Nat → List (List V) → Prop} : viewK h (.ro z els) K = K z els := rfl
theorem jR {z : Nat} {els : List (List V)} {K : Nat → List (List V) → Prop} : viewK h (.bro z els) K = K z els := rfl
theorem jS {z : Nat} {els : List (List V)} {K : Nat → List (List V) → Prop} : viewK h (.full z els) K = K z els := rfl
theorem jT {K : Nat → List (List V) → Prop} : viewK h (.v (.slice none 0 0)) K = K 0 [] := rfl
theorem jU {K : Option Int → Prop} : optI none K = K none := rfl
theorem jV {k : IntKind} {n : Int} {K : Option Int → Prop} : optI (some (.v (.int k n))) K = K (some n) := rfl
theorem jW {z k i n : Nat} {l u m : Option Int} {K : V → Prop} : slcP h z (.sl k i n) l u m K = (arrSz z (blk h k) ∧ slcOk n l u m ∧ K (.sl k (i + (l.getD 0).toNat) ((u.getD n).toNat - (l.getD 0).toNat))) := rfl
theorem jX {z y : Nat} {els : List (List V)} {l u m : Option Int} {K : V → Prop} : slcP h z (.ro y els) l u m K = (y = z ∧ slcOk els.length l u m ∧ K (.ro y ((els.drop (l.getD 0).toNat).take ((u.getD els.length).toNat - (l.getD 0).toNat)))) := rfl
theorem jY {z y : Nat} {els : List (List V)} {l u m : Option Int} {K : V → Prop} : slcP h z (.bro y els) l u m K = (y = z ∧ slcOk els.length l u m ∧ K (.bro y ((els.drop (l.getD 0).toNat).take ((u.getD els.length).toNat - (l.getD 0).toNat)))) := rfl
theorem jZ {z : Nat} {l u m : Option Int} {K : V → Prop} : slcP h z (.v (.slice none 0 0)) l u m K = (slcOk 0 l u m ∧ K (.v (.slice none 0 0))) := rfl
theorem qaa {k i n : Nat} {K : Bool → Prop} : eqnP (.sl k i n) K = ((0 < n → K false) ∧ (n = 0 → K true ∧ K false)) := rfl
theorem qab {z : Nat} {els : List (List V)} {K : Bool → Prop} : eqnP (.ro z els) K = ((els ≠ [] → K false) ∧ (els = [] → K true ∧ K false)) := rfl
theorem qac {z : Nat} {els : List (List V)} {K : Bool → Prop} : eqnP (.bro z els) K = ((els ≠ [] → K false) ∧ (els = [] → K true ∧ K false)) := rfl
theorem qad {K : Bool → Prop} : eqnP (.v (.slice none 0 0)) K = K true := rfl
theorem qae {id sz bytes : Nat} {old new : List (List V)} {K : V → St → Prop} : appNew id sz bytes ⟨e, h, b⟩ old new K = ((old.length + new.length) * bytes ≤ 140737488355328 ∧ freshP h id ∧ K (.sl id 0 (old.length + new.length)) ⟨e, h.set id (.arr sz (old ++ new)), b⟩) := rfl
theorem qaf {k i n sz bytes z : Nat} {new els : List (List V)} {K : V → St → Prop} : appB fx bn k i n sz bytes ⟨e, h, b⟩ new (.arr z els) K = ((z = sz ∧ i + n ≤ els.length ∧ (n + new.length) * bytes ≤ 140737488355328) ∧ (k ∉ fx ∧ k ∉ bn) ∧ K (.sl k 0 (n + new.length)) ⟨killE [k] e, (h.map (killB [k])).set k (.arr sz ((els.drop i).take n ++ new)), b⟩) := rfl
theorem qag {k i n id sz bytes : Nat} {new : List (List V)} {K : V → St → Prop} : appP fx bn id sz bytes ⟨e, h, b⟩ (.sl k i n) new K = appB fx bn k i n sz bytes ⟨e, h, b⟩ new (blk h k) K := rfl
theorem qah {id sz bytes : Nat} {new : List (List V)} {K : V → St → Prop} : appP fx bn id sz bytes s (.v (.slice none 0 0)) new K = appNew id sz bytes s [] new K := rfl
theorem qai {id sz bytes z : Nat} {els new : List (List V)} {K : V → St → Prop} : appP fx bn id sz bytes s (.full z els) new K = ((z = sz ∧ new ≠ []) ∧ appNew id sz bytes s els new K) := rfl
theorem qaj {k i n sz z : Nat} {new els : List (List V)} {K : V → St → Prop} : copyB bn k i n sz ⟨e, h, b⟩ new (.arr z els) K = ((z = sz ∧ i + n ≤ els.length ∧ k ∉ bn) ∧ K (.i (min new.length n : Nat)) ⟨e, h.set k (.arr sz (els.take i ++ new.take n ++ els.drop (i + min new.length n))), b⟩) := rfl
theorem qak {k i n sz : Nat} {new : List (List V)} {K : V → St → Prop} : copyP bn sz ⟨e, h, b⟩ (.sl k i n) new K = copyB bn k i n sz ⟨e, h, b⟩ new (blk h k) K := rfl
theorem qal {kd : TypeDesc} {y : Value} {K : Value → Prop} : keyK kd (.v y) K = (isKey kd y = true ∧ K y) := rfl
theorem qam {k : Nat} {K : Nat → List (Value × V × Nat) → Nat → Prop} : mapK h (.mp k) K = mapB (blk h k) (K k) := rfl
theorem qan {es : List (Value × V × Nat)} {c : Nat} {K : List (Value × V × Nat) → Nat → Prop} : mapB (.map es c) K = K es c := rfl
theorem qao {kd : TypeDesc} {key z : Value} {ok : Bool} {k : Nat} {K : V → Prop} : lookM h kd key z ok (.mp k) K = mapB (blk h k) fun es _ => lookK (mfind kd key es 0) z ok K := rfl
theorem qap {kd : TypeDesc} {key z : Value} {ok : Bool} {K : V → Prop} : lookM h kd key z ok (.v (.map none)) K = lookK (some none) z ok K := rfl
theorem qaq {i : Nat} {x : V} {z : Value} {K : V → Prop} : lookK (some (some (i, x))) z true K = K (.tup [x, .b true]) := rfl
theorem qar {i : Nat} {x : V} {z : Value} {K : V → Prop} : lookK (some (some (i, x))) z false K = K x := rfl
theorem qas {z : Value} {K : V → Prop} : lookK (some none) z true K = K (.tup [ofConst z, .b false]) := rfl
theorem qat {z : Value} {K : V → Prop} : lookK (some none) z false K = K (ofConst z) := rfl
theorem qau {i c : Nat} {y x : V} {key : Value} {es : List (Value × V × Nat)} {K : Blk → Prop} : msetK (some (some (i, y))) key x es c K = K (.map (es.modify i fun e => (key, x, e.2.2)) c) := rfl
theorem qav {c : Nat} {x : V} {key : Value} {es : List (Value × V × Nat)} {K : Blk → Prop} : msetK (some none) key x es c K = K (.map (es ++ [(key, x, c)]) (c + 1)) := rfl
theorem qaw {q : Value × V × Nat} {K : V → Prop} : entK (some q) K = K (.tup [.v q.1, q.2.1]) := rfl
theorem qax {kd : TypeDesc} {key : Value} {i : Nat} : mfind kd key [] i = some none := rfl
theorem qay {k : IntKind} {a : Int} : isKey (.int k) (.int k a) = true := by simp [isKey]
theorem qaz {k : Nat} {K : Nat → V → Nat → List Nat → Nat → Prop} : itK h (.ptr k 0 0) K = itB (blk h k) (K k) := rfl
theorem qaA {m : V} {si la : Nat} {se : List Nat} {K : V → Nat → List Nat → Nat → Prop} : itB (.it m si se la) K = K m si se la := rfl
section
variable {k : IntKind} {a c : Int} {K : V → Prop}
theorem qaB : binInt .add true k a c K = ((lo k ≤ a + c ∧ a + c ≤ hi k) ∧ K (.v (.int k (a + c)))) := rfl
theorem qaC : binInt .add false k a c K = K (.v (.int k (k.wrap (a + c)))) := rfl
theorem qaD : binInt .sub true k a c K = ((lo k ≤ a - c ∧ a - c ≤ hi k) ∧ K (.v (.int k (a - c)))) := rfl
theorem qaE : binInt .sub false k a c K = K (.v (.int k (k.wrap (a - c)))) := rfl
theorem qaF : binInt .mul true k a c K = ((lo k ≤ a * c ∧ a * c ≤ hi k) ∧ K (.v (.int k (a * c)))) := rfl
theorem qaG : binInt .mul false k a c K = K (.v (.int k (k.wrap (a * c)))) := rfl
theorem qaH {x : Bool} : binInt .eql x k a c K = K (.b (a == c)) := rfl
theorem qaI {x : Bool} : binInt .neq x k a c K = K (.b (a != c)) := rfl
theorem qaJ {x : Bool} : binInt .lss x k a c K = K (.b (decide (a < c))) := rfl
theorem qaK {x : Bool} : binInt .leq x k a c K = K (.b (decide (a ≤ c))) := rfl
theorem qaL {x : Bool} : binInt .gtr x k a c K = K (.b (decide (c < a))) := rfl
theorem qaM {x : Bool} : binInt .geq x k a c K = K (.b (decide (c ≤ a))) := rfl
theorem qaN : binInt .quo true k a c K = (c ≠ 0 ∧ (lo k ≤ a.tdiv c ∧ a.tdiv c ≤ hi k) ∧ K (.v (.int k (a.tdiv c)))) := rfl
theorem qaO : binInt .quo false k a c K = (c ≠ 0 ∧ K (.v (.int k (k.wrap (a.tdiv c))))) := rfl
theorem qaP {x : Bool} : binInt .rem x k a c K = (c ≠ 0 ∧ K (.v (.int k (a.tmod c)))) := rfl
end
@[congr] theorem c_keyK {kd : TypeDesc} {x x' : V} {K : Value → Prop} (q : x = x') : keyK kd x K = keyK kd x' K := by rw [q]
@[congr] theorem c_mapK {x x' : V} {K : Nat → List (Value × V × Nat) → Nat → Prop} (q : x = x') : mapK h x K = mapK h x' K := by rw [q]
@[congr] theorem c_mapB {x x' : Blk} {K : List (Value × V × Nat) → Nat → Prop} (q : x = x') : mapB x K = mapB x' K := by rw [q]
@[congr] theorem c_lookM {kd : TypeDesc} {key key' z : Value} {ok : Bool} {m m' : V} {K : V → Prop} (q : m = m') (q2 : key = key') : lookM h kd key z ok m K = lookM h kd key' z ok m' K := by rw [q, q2]
@[congr] theorem c_lookK {r r' : Option (Option (Nat × V))} {z : Value} {ok : Bool} {K : V → Prop} (q : r = r') : lookK r z ok K = lookK r' z ok K := by rw [q]
@[congr] theorem c_msetK {r r' : Option (Option (Nat × V))} {key key' : Value} {x x' : V} {es es' : List (Value × V × Nat)} {c c' : Nat} {K : Blk → Prop} (q : r = r') (q1 : key = key') (q2 : x = x') (q3 : es = es') (q4 : c = c') : msetK r key x es c K = msetK r' key' x' es' c' K := by rw [q, q1, q2, q3, q4]
@[congr] theorem c_nextK {es es' : List (Value × V × Nat)} {si si' la la' : Nat} {se se' : List Nat} {D : Prop} {K : Value → V → Nat → Prop} (q : es = es') (q1 : si = si') (q2 : se = se') (q3 : la = la') : nextK es si se la D K = nextK es' si' se' la' D K := by rw [q, q1, q2, q3]
@[congr] theorem c_entK {r r' : Option (Value × V × Nat)} {K : V → Prop} (q : r = r') : entK r K = entK r' K := by rw [q]
@[congr] theorem c_itK {x x' : V} {K : Nat → V → Nat → List Nat → Nat → Prop} (q : x = x') : itK h x K = itK h x' K := by rw [q]
@[congr] theorem c_itB {x x' : Blk} {K : V → Nat → List Nat → Nat → Prop} (q : x = x') : itB x K = itB x' K := by rw [q]
@[congr] theorem c_viewB {i n : Nat} {x x' : Blk} {K : Nat → List (List V) → Prop} (q : x = x') : viewB x i n K = viewB x' i n K := by rw [q]
end
section
variable {α : Type} {a : α} {l : List α} {x : α} {y : Nat}
theorem lg0 : (a :: l)[1]? = l[0]? := rfl
theorem zW : (a :: l).set 1 x = a :: l.set 0 x := rfl
theorem zX : (a :: l).drop 1 = l.drop 0 := rfl
theorem zY : (a :: l).take 1 = a :: l.take 0 := rfl
theorem zZ : List.replicate 1 x = x :: List.replicate 0 x := rfl
theorem lg1 : (a :: l)[2]? = l[1]? := rfl
theorem ka : (a :: l).set 2 x = a :: l.set 1 x := rfl
theorem kc : (a :: l).drop 2 = l.drop 1 := rfl
theorem ke : (a :: l).take 2 = a :: l.take 1 := rfl
theorem kf : List.replicate 2 x = x :: List.replicate 1 x := rfl
theorem lg2 : (a :: l)[3]? = l[2]? := rfl
theorem kg : (a :: l).set 3 x = a :: l.set 2 x := rfl
theorem kh : (a :: l).drop 3 = l.drop 2 := rfl
theorem ki : (a :: l).take 3 = a :: l.take 2 := rfl
theorem kj : List.replicate 3 x = x :: List.replicate 2 x := rfl
theorem lg3 : (a :: l)[4]? = l[3]? := rfl
theorem kk : (a :: l).set 4 x = a :: l.set 3 x := rfl
theorem kn : (a :: l).drop 4 = l.drop 3 := rfl
theorem ko : (a :: l).take 4 = a :: l.take 3 := rfl
theorem kp : List.replicate 4 x = x :: List.replicate 3 x := rfl
theorem lg4 : (a :: l)[5]? = l[4]? := rfl
theorem kq : (a :: l).set 5 x = a :: l.set 4 x := rfl
theorem kr : (a :: l).drop 5 = l.drop 4 := rfl
theorem kv : (a :: l).take 5 = a :: l.take 4 := rfl
theorem kw : List.replicate 5 x = x :: List.replicate 4 x := rfl
theorem lg5 : (a :: l)[6]? = l[5]? := rfl
theorem kx : (a :: l).set 6 x = a :: l.set 5 x := rfl
theorem ky : (a :: l).drop 6 = l.drop 5 := rfl
theorem kz : (a :: l).take 6 = a :: l.take 5 := rfl
theorem kA : List.replicate 6 x = x :: List.replicate 5 x := rfl
theorem lg6 : (a :: l)[7]? = l[6]? := rfl
theorem kB : (a :: l).set 7 x = a :: l.set 6 x := rfl
theorem kC : (a :: l).drop 7 = l.drop 6 := rfl
theorem kD : (a :: l).take 7 = a :: l.take 6 := rfl
theorem kF : List.replicate 7 x = x :: List.replicate 6 x := rfl
theorem lg7 : (a :: l)[8]? = l[7]? := rfl
theorem kG : (a :: l).set 8 x = a :: l.set 7 x := rfl
theorem kH : (a :: l).drop 8 = l.drop 7 := rfl
theorem kI : (a :: l).take 8 = a :: l.take 7 := rfl
theorem kJ : List.replicate 8 x = x :: List.replicate 7 x := rfl
theorem lg8 : (a :: l)[9]? = l[8]? := rfl
theorem kK : (a :: l).set 9 x = a :: l.set 8 x := rfl
theorem kL : (a :: l).drop 9 = l.drop 8 := rfl
theorem kM : (a :: l).take 9 = a :: l.take 8 := rfl
theorem kN : List.replicate 9 x = x :: List.replicate 8 x := rfl
theorem lg9 : (a :: l)[10]? = l[9]? := rfl
theorem kO : (a :: l).set 10 x = a :: l.set 9 x := rfl
theorem kP : (a :: l).drop 10 = l.drop 9 := rfl
theorem kQ : (a :: l).take 10 = a :: l.take 9 := rfl
theorem kR : List.replicate 10 x = x :: List.replicate 9 x := rfl
theorem kS : (a :: l)[11]? = l[10]? := rfl
theorem kT : (a :: l).set 11 x = a :: l.set 10 x := rfl
theorem kU : (a :: l).drop 11 = l.drop 10 := rfl
theorem kV : (a :: l).take 11 = a :: l.take 10 := rfl
theorem kW : List.replicate 11 x = x :: List.replicate 10 x := rfl
theorem kX : (a :: l)[12]? = l[11]? := rfl
theorem kY : (a :: l).set 12 x = a :: l.set 11 x := rfl
theorem kZ : (a :: l).drop 12 = l.drop 11 := rfl
theorem wa : (a :: l).take 12 = a :: l.take 11 := rfl
theorem wb : List.replicate 12 x = x :: List.replicate 11 x := rfl
theorem wc : (a :: l)[13]? = l[12]? := rfl
theorem wd : (a :: l).set 13 x = a :: l.set 12 x := rfl
theorem we : (a :: l).drop 13 = l.drop 12 := rfl
theorem wg : (a :: l).take 13 = a :: l.take 12 := rfl
theorem wh : List.replicate 13 x = x :: List.replicate 12 x := rfl
theorem wi : (a :: l)[14]? = l[13]? := rfl
theorem wj : (a :: l).set 14 x = a :: l.set 13 x := rfl
theorem wl : (a :: l).drop 14 = l.drop 13 := rfl
theorem wm : (a :: l).take 14 = a :: l.take 13 := rfl
theorem wn : List.replicate 14 x = x :: List.replicate 13 x := rfl
theorem wo : (a :: l)[15]? = l[14]? := rfl
theorem wq : (a :: l).set 15 x = a :: l.set 14 x := rfl
theorem wr : (a :: l).drop 15 = l.drop 14 := rfl
theorem ws : (a :: l).take 15 = a :: l.take 14 := rfl
theorem wt : List.replicate 15 x = x :: List.replicate 14 x := rfl
theorem wu : (a :: l)[16]? = l[15]? := rfl
theorem wv : (a :: l).set 16 x = a :: l.set 15 x := rfl
theorem ww : (a :: l).drop 16 = l.drop 15 := rfl
theorem wx : (a :: l).take 16 = a :: l.take 15 := rfl
theorem wy : List.replicate 16 x = x :: List.replicate 15 x := rfl
theorem wz : (a :: l)[17]? = l[16]? := rfl
theorem wB : (a :: l).set 17 x = a :: l.set 16 x := rfl
theorem wC : (a :: l)[18]? = l[17]? := rfl
theorem wD : (a :: l).set 18 x = a :: l.set 17 x := rfl
theorem wE : (a :: l)[19]? = l[18]? := rfl
theorem wF : (a :: l).set 19 x = a :: l.set 18 x := rfl
theorem wG : (a :: l)[20]? = l[19]? := rfl
theorem wH : (a :: l).set 20 x = a :: l.set 19 x := rfl
theorem wI : (a :: l)[21]? = l[20]? := rfl
theorem wJ : (a :: l).set 21 x = a :: l.set 20 x := rfl
theorem wK : (a :: l)[22]? = l[21]? := rfl
theorem wL : (a :: l).set 22 x = a :: l.set 21 x := rfl
theorem wM : (a :: l)[23]? = l[22]? := rfl
theorem wN : (a :: l).set 23 x = a :: l.set 22 x := rfl
theorem wO : (a :: l)[24]? = l[23]? := rfl
theorem wP : (a :: l).set 24 x = a :: l.set 23 x := rfl
theorem wQ : (a :: l)[25]? = l[24]? := rfl
theorem wR : (a :: l)[26]? = l[25]? := rfl
theorem wS : (a :: l)[27]? = l[26]? := rfl
theorem wT : (a :: l)[28]? = l[27]? := rfl
theorem wU : (a :: l)[29]? = l[28]? := rfl
theorem wV : (a :: l)[30]? = l[29]? := rfl
theorem wW : (a :: l)[31]? = l[30]? := rfl
theorem wX : (a :: l)[32]? = l[31]? := rfl
theorem wY : (a :: l)[33]? = l[32]? := rfl
theorem wZ : (a :: l)[34]? = l[33]? := rfl
theorem ja : (a :: l)[35]? = l[34]? := rfl
theorem jb : (a :: l)[36]? = l[35]? := rfl
theorem jc : (a :: l)[37]? = l[36]? := rfl
theorem jd : (a :: l)[38]? = l[37]? := rfl
theorem je : (a :: l)[39]? = l[38]? := rfl
theorem jf : (a :: l)[40]? = l[39]? := rfl
theorem jg : List.replicate 0 x = [] := rfl
end
end Go.Fx
namespace Go.Fx
open Go.RowKit
theorem rep_none {ρ : Nat → Loc} {X : Nat → Prop} {w : World} {h : List Blk} (hr : Rep ρ X w h) : Rep (gvLoc ρ fun _ => true) X w [] :=
  ⟨fun j k _ h1 => by simp [gvLoc] at h1, fun k _ => by simp [gvLoc], fun k b hb => by simp at hb, fun b ho => hr.disj b (gv_own ho), fun k h1 => by simp [gvLoc] at h1, hr.xlt⟩
/-- What a function hands back anew is given up: from now on it is data. -/
theorem Fn_give {P : Program} {f : FuncId} {args : List V} {mv : List Nat} {R : V → List Blk → Prop} {y : V} (h : Fn P f args [] mv R) (hy : ∀ r hs, R r hs → wk y (gvV (fun _ => true) hs r)) : Fn P f args [] mv (Is y) := by
  intro ρ X w vals h1 h2
  refine Calls.mono (h ρ X w vals h1 h2) ?_
  rintro e w' ⟨val, r, h', ρ', q1, q2, q3, q4, q5, q6⟩
  exact ⟨val, y, [], _, q1, ⟨⟨rfl, rfl⟩, Nat.le_refl _⟩, q3.trans gv_fr, rep_none q4, wk_rep _ _ _ (hy r h' q2.1) (gv_rep q4 _ _ q5), fun k hk => by simp at hk⟩
/-- What a function hands back anew, said in other words. -/
theorem Fn_ghost {P : Program} {f : FuncId} {args : List V} {mv : List Nat} {R R' : V → List Blk → Prop} (h : Fn P f args [] mv R) (hR : ∀ r hs, R r hs → ∃ r' hs', R' r' hs' ∧ leG [] ⟨[(0, r)], hs, 0⟩ ⟨[(0, r')], hs', 0⟩) : Fn P f args [] mv R' := by
  intro ρ X w vals h1 h2
  refine Calls.mono (h ρ X w vals h1 h2) ?_
  rintro e w' ⟨val, r, h', ρ', q1, q2, q3, q4, q5, q6⟩
  obtain ⟨r', hs', g1, g2⟩ := hR r h' q2.1
  have hg : Good ρ X w [] 1 ⟨[(0, r)], h', 0⟩ ⟨#[val], []⟩ w' := by
    refine ⟨ρ', ⟨⟨q3, fun k hk => by simp at hk⟩, trivial⟩, ⟨q4, fun i => ?_⟩, rfl, Marks.nil⟩
    by_cases hi : i = 0
    · subst hi; exact q5
    · have : get [(0, r)] i = .any := by simp [get, hi]
      rw [this]; trivial
  obtain ⟨ρ2, ⟨⟨p1, _⟩, _⟩, ⟨p2, p3⟩, _⟩ := hg.leG g2
  exact ⟨val, r', hs', ρ2, q1, ⟨g1, Nat.zero_le _⟩, p1, p2, p3 0, fun k hk => by simp at hk⟩
end Go.Fx
/-! How contracts are proved and used, for any program. -/
namespace Go.Fx
open Go.RowKit
section
variable (P : Program)
def C0 : Ctr := fun f xs h0 mv R => Callable P f ∧ Fn P f xs h0 mv R
def I0 : Itr := fun f zas fx k Y h K => Callable P f ∧ Iter P f zas fx k Y h K
def Y0 : Nat → Yt := fun _ _ _ _ => False
def cxN (fx : List Nat) : Cx := ⟨C0 P, fx, [], I0 P, Y0, none⟩
theorem cxN_ok (fx : List Nat) : (cxN P fx).ok P := ⟨fun _ _ _ _ _ h => h, fun _ _ _ _ _ _ _ h => h⟩
def OkN (f : FuncId) (xs : List V) (h0 : List Blk) (mv : List Nat) (R : V → List Blk → Prop) : Prop := C0 P f xs h0 mv R
variable {P}
theorem okN_of (hP : P.follows .mixedOrders = true) {f : FuncId} {l0 l : LCode} {rs : List LRes} {nt : Nat} (fx : List Nat) (hl : rlF P f l0 = some (l, rs, nt)) {args : List V} {h0 : List Blk} {mv : List Nat} {R : V → List Blk → Prop} (hlen : args.length ≤ nt) (hb : keepP fx h0)
    (hfx : ∀ k, k < h0.length → k ∉ mv → k ∈ fx) (h : aw (cxN P fx) l (retP fx h0.length rs R) (fun _ _ => False) (retP fx h0.length rs R) ⟨args0 0 args, h0, 0⟩) : OkN P f args h0 mv R :=
  ⟨rlF_callable hl, Fn_rl hP (cxN_ok P fx) hl hlen hb hfx h⟩
/-- An iterator's contract. -/
theorem itN_of (hP : P.follows .mixedOrders = true) {f : FuncId} {l0 l : LCode} {nt : Nat} (fx : List Nat) (hl : rlF P f l0 = some (l, [], nt)) {args : List V} {h0 : List Blk} {k : Nat} {Y : Yt} {K : List Blk → Prop} (hlen : args.length ≤ nt)
    (h : aw ⟨C0 P, fx, [], I0 P, fun k' xs s Z => k' = k ∧ Y xs s Z, none⟩ l (fun s => K s.h) (fun _ _ => False) (fun s => K s.h) ⟨args0 0 args, h0, 0⟩) : I0 P f args fx k Y h0 K :=
  ⟨rlF_callable hl, Iter_rl (cx := ⟨C0 P, fx, [], I0 P, fun k' xs s Z => k' = k ∧ Y xs s Z, none⟩) hP ⟨fun _ _ _ _ _ h => h, fun _ _ _ _ _ _ _ h => h⟩ hl hlen h rfl rfl⟩
theorem okN_post {f : FuncId} {xs : List V} {h0 : List Blk} {mv : List Nat} {R R' : V → List Blk → Prop} (h : OkN P f xs h0 mv R) (hR : ∀ r h', R r h' → R' r h') : OkN P f xs h0 mv R' := by
  refine ⟨h.1, ?_⟩
  intro ρ X w vals h1 h2
  refine Calls.mono (h.2 ρ X w vals h1 h2) ?_
  rintro e w' ⟨val, r, h', ρ', q1, q2, q3, q4, q5, q6⟩
  exact ⟨val, r, h', ρ', q1, ⟨hR r h' q2.1, q2.2⟩, q3, q4, q5, q6⟩
theorem okN_give {f : FuncId} {xs : List V} {y : V} {R : V → List Blk → Prop} (h : OkN P f xs [] [] R) (hy : ∀ r hs, R r hs → wk y (gvV (fun _ => true) hs r)) : OkN P f xs [] [] (Is y) := ⟨h.1, Fn_give h.2 hy⟩
theorem okN_ghost {f : FuncId} {xs : List V} {R R' : V → List Blk → Prop} (h : OkN P f xs [] [] R) (hR : ∀ r hs, R r hs → ∃ r' hs', R' r' hs' ∧ leG [] ⟨[(0, r)], hs, 0⟩ ⟨[(0, r')], hs', 0⟩) : OkN P f xs [] [] R' := ⟨h.1, Fn_ghost h.2 hR⟩
end

/-- A result, and blocks behind it. -/
def IsA (x : V) (h0 : List Blk) : V → List Blk → Prop := fun r h => r = x ∧ h = h0
theorem retP_isA {fx : List Nat} {n : Nat} {e : Env} {h : List Blk} {b : Nat} {rs : List LRes} {x : V} {h0 : List Blk} : retP fx n rs (IsA x h0) ⟨e, h, b⟩ = resP h e rs [] fun xs => (leH h h0 ∧ keepP fx h0 ∧ n ≤ h0.length ∧ wfV h0 (tupV xs) ∧ wfB h0 h0) ∧ tupV xs = x := by
  rw [retP_eq]
  congr 1
  funext xs
  apply propext
  constructor
  · rintro ⟨p, h1, h2, rfl⟩
    exact ⟨h1, h2⟩
  · rintro ⟨h1, h2⟩
    exact ⟨h0, h1, h2, rfl⟩
/-- A result, and blocks behind it, of which only a part is told. -/
def IsQ {G : Type} (Q : G → Prop) (x : G → V) (h0 : G → List Blk) : V → List Blk → Prop := fun r h => ∃ g, Q g ∧ r = x g ∧ h = h0 g
theorem retP_isQ {G : Type} {Q : G → Prop} {fx : List Nat} {n : Nat} {e : Env} {h : List Blk} {b : Nat} {rs : List LRes} {x : G → V} {h0 : G → List Blk} (g : G) (hq : Q g)
    (hr : resP h e rs [] fun xs => (leH h (h0 g) ∧ keepP fx (h0 g) ∧ n ≤ (h0 g).length ∧ wfV (h0 g) (tupV xs) ∧ wfB (h0 g) (h0 g)) ∧ tupV xs = x g) : retP fx n rs (IsQ Q x h0) ⟨e, h, b⟩ := by
  have hm : ∀ {h : List Blk} {e : Env} (rs : List LRes) (acc : List V) {K K' : List V → Prop}, (∀ xs, K xs → K' xs) → resP h e rs acc K → resP h e rs acc K' := by
    intro h e rs
    induction rs with
    | nil => intro acc K K' hk h; exact hk _ h
    | cons r rs ih =>
      intro acc K K' hk hh
      cases r with
      | tmp t => exact ih _ hk hh
      | cell a n =>
        simp only [resP] at hh ⊢
        have hcs : ∀ (n : Option Nat) (f : Nat) (cs : List V) {A B : V → Prop}, (∀ x, A x → B x) → loadCs n f cs A → loadCs n f cs B := by
          intro n f cs A B hab hl
          unfold loadCs at hl ⊢
          split at hl
          · unfold optK at hl ⊢
            split at hl
            · exact hab _ hl
            · exact hl.elim
          · exact ⟨hl.1, hab _ hl.2⟩
        unfold loadP at hh ⊢
        split at hh
        · unfold loadB at hh ⊢
          split at hh
          · exact hcs _ _ _ (fun x => ih _ hk) hh
          · obtain ⟨hi, hh⟩ := hh; exact ⟨hi, hcs _ _ _ (fun x => ih _ hk) hh⟩
          · obtain ⟨hi, hh⟩ := hh; exact ⟨hi, hcs _ _ _ (fun x => ih _ hk) hh⟩
          · exact hh.elim
        · obtain ⟨hi, hh⟩ := hh; exact ⟨hi, hcs _ _ _ (fun x => ih _ hk) hh⟩
        · exact hh.elim
  rw [retP_eq]
  refine hm rs [] ?_ hr
  rintro xs ⟨h1, h2⟩
  exact ⟨h0 g, h1, g, hq, h2, rfl⟩

section
variable {cx : Cx} {f : FuncId} {args : List V} {e : Env} {h : List Blk} {b : Nat} {K : V → St → Prop}
/-- A call of a function that hands back plain data. -/
theorem call_is {xs : List V} {x : V} (hC : cx.C f xs [] [] (Is x)) (h1 : lendsOk h (fun _ => none) args ∧ wkL xs (lends h (fun _ => none) args)) (hx : ren (fun j => some (h.length + j)) x = x) (keep : keepP cx.fx h) (h3 : K x ⟨e, h, b⟩) : callP cx f args ⟨e, h, b⟩ K := by
  refine callP_pure xs (Is x) h1 hC ?_
  rintro r h' ⟨rfl, rfl⟩
  simp only [List.map_nil, List.append_nil]
  exact ⟨keep, by rw [hx]; exact h3⟩
/-- .. new blocks. -/
theorem call_isA (xs : List V) (x x' : V) (h0 h0' : List Blk) (hC : cx.C f xs [] [] (IsA x h0)) (h1 : lendsOk h (fun _ => none) args ∧ wkL xs (lends h (fun _ => none) args))
    (hx : ren (fun j => some (h.length + j)) x = x') (hh : h0.map (renB (fun j => some (h.length + j))) = h0') (keep : keepP cx.fx (h ++ h0')) (h3 : K x' ⟨e, h ++ h0', b⟩) : callP cx f args ⟨e, h, b⟩ K := by
  refine callP_pure xs (IsA x h0) h1 hC ?_
  rintro r h' ⟨rfl, rfl⟩
  rw [hx, hh]
  exact ⟨keep, h3⟩
/-- .. blocks that were lent, and new ones. -/
theorem call_isN (ι : List Nat) (xs : List V) (x x' : V) (h0 h1 h' : List Blk) (hC : cx.C f xs h0 [] (IsA x h1))
    (hι : ι.Nodup ∧ ∀ k ∈ ι, k < h.length ∧ k ∉ cx.bn) (r0 : ι.map (fun k => renB (pos ι) (blk h k)) = h0) (ha : lendsOk h (pos ι) args ∧ wkL xs (lends h (pos ι) args)) (hlen : ι.length ≤ h1.length)
    (hh : setAll ι (h1.map (renB (back ι h.length))) h = h') (hx : ren (back ι h.length) x = x') (keep : keepP cx.fx h') (h3 : K x' ⟨e, h', b⟩) : callP cx f args ⟨e, h, b⟩ K := by
  have hkb : ∀ l : List Blk, l.map (killB []) = l := killB_nil
  refine ⟨ι, xs, [], IsA x h1, ⟨hι, by simp⟩, ha.1, ha.2, by rw [r0]; exact hC, ?_⟩
  rintro r h2 ⟨rfl, rfl⟩ _
  simp only [List.filterMap_nil, hkb, killE_nil, hh, hx]
  exact ⟨keep, h3⟩
/-- .. that may have moved, and of which only a part is told. -/
theorem call_isM {G : Type} (Q : G → Prop) (ι mv M : List Nat) (xs : List V) (x : G → V) (h0 : List Blk) (h1 : G → List Blk) (hC : cx.C f xs h0 mv (IsQ Q x h1))
    (hι : ι.Nodup ∧ ∀ k ∈ ι, k < h.length ∧ k ∉ cx.bn) (hM : mv.filterMap (ι[·]?) = M ∧ ∀ j ∈ mv, ∀ k, ι[j]? = some k → k ∉ cx.fx) (r0 : ι.map (fun k => renB (pos ι) (blk h k)) = h0) (ha : lendsOk h (pos ι) args ∧ wkL xs (lends h (pos ι) args))
    (h3 : ∀ g, Q g → keepP cx.fx (setAll ι ((h1 g).map (renB (back ι h.length))) (h.map (killB M))) ∧ K (ren (back ι h.length) (x g)) ⟨killE M e, setAll ι ((h1 g).map (renB (back ι h.length))) (h.map (killB M)), b⟩) : callP cx f args ⟨e, h, b⟩ K := by
  refine ⟨ι, xs, mv, IsQ Q x h1, ⟨hι, hM.2⟩, ha.1, ha.2, by rw [r0]; exact hC, ?_⟩
  rintro r h2 ⟨g, hq, rfl, rfl⟩ _
  rw [hM.1]
  exact h3 g hq
end
end Go.Fx
namespace Go.Fx.C
open Go Go.Fx Go.Proofs
structure Arc where
  from_ : Int
  to : Int
  cap : Int
  cost : Int
  deriving Inhabited
def Arc.enc (a : Arc) : List V := [.i a.from_, .i a.to, .i a.cap, .i a.cost]
def encI (x : Int) : List V := [.i x]
def encB (x : Bool) : List V := [.b x]
def net (n : Int) (arcs : List Arc) : V := .agg [.i n, .ro 4 (arcs.map Arc.enc)]
def li (l : List Int) : V := .ro 1 (l.map encI)
/-- A freight. -/
structure Fr where
  sent : Int
  cost : Int
  flow : List Int
  price : List Int
  cut : List Int
def Fr.enc (f : Fr) : V := .agg [.i f.sent, .i f.cost, li f.flow, li f.price, li f.cut]
abbrev Ok (f : FuncId) (xs : List V) (R : V → List Blk → Prop) : Prop := OkN Try.prog f xs [] [] R
theorem ok_of {f : FuncId} {l0 l : LCode} {rs : List LRes} {nt : Nat} (hl : rlF Try.prog f l0 = some (l, rs, nt)) {args : List V} {R : V → List Blk → Prop} (hlen : args.length ≤ nt)
    (h : aw (cxN Try.prog []) l (retP [] 0 rs R) (fun _ _ => False) (retP [] 0 rs R) ⟨args0 0 args, [], 0⟩) : Ok f args R :=
  okN_of pol [] hl hlen trivial (fun k hk => by simp at hk) h
theorem enc_len (a : Arc) : a.enc.length = 4 := rfl
theorem enc_take (a : Arc) : List.take 4 a.enc = a.enc := rfl
theorem enc_0 (a : Arc) : a.enc[0]? = some (.i a.from_) := rfl
theorem enc_1 (a : Arc) : a.enc[1]? = some (.i a.to) := rfl
theorem enc_2 (a : Arc) : a.enc[2]? = some (.i a.cap) := rfl
theorem enc_3 (a : Arc) : a.enc[3]? = some (.i a.cost) := rfl
theorem enc_isC (a : Arc) : a.enc.all isC = true := rfl
theorem enc_isD (a : Arc) : a.enc.all isD = true := rfl
theorem encI_len (x : Int) : (encI x).length = 1 := rfl
theorem encI_0 (x : Int) : (encI x)[0]? = some (.i x) := rfl
theorem encI_drop (x : Int) : List.drop 1 (encI x) = [] := rfl
theorem encB_drop (x : Bool) : List.drop 1 (encB x) = [] := rfl
theorem encB_len (x : Bool) : (encB x).length = 1 := rfl
theorem encB_0 (x : Bool) : (encB x)[0]? = some (.b x) := rfl
end Go.Fx.C
namespace Go.Fx.C
open Go Go.Fx Go.Proofs
set_option maxRecDepth 20000
def nodeB (n k : Int) : Bool := decide (0 ≤ k ∧ k < n)
theorem ok24 (n : Int) (arcs : List Arc) (k : Int) : Ok 24 [net n arcs, .i k] (Is (.b (nodeB n k))) := by
  refine ok_of lw24 (by simp) ?_
  unfold c24 net
  simp -implicitDefEqProofs only [qF, qI, qN, qO, qP, qQ, qR, qS, qT, qV, qX, qZ, zF, zH, zI, zL, ofConst, cells?, List.length_nil, List.length_cons, List.set_cons_zero, zM, List.getD_eq_getElem?_getD, List.getElem?_cons_zero, ↓reduceIte, Nat.reduceEqDiff, Option.getD_some, zN, zP, Bool.not_true, ↓zQ, ↓zR, zS, List.nil_append, List.append_nil, Nat.zero_add, Nat.add_zero, reduceCtorEq, freshP, zU, resP, tupV, List.reverse_cons, List.reverse_nil, wfV, true_and, V.v.injEq, Value.int.injEq, Value.bool.injEq, zZ, jg, ↓jh, ↓jj, ↓jl, ↓jo, ↓jv, ↓qaJ, ↓qaM, cxN, args0]
  simp only [br, decide_eq_true_eq, decide_eq_false_iff_not, nodeB]
  grind
def nb (n : Int) (arcs : List Arc) : Blk := .var [.i n, .ro 4 (arcs.map Arc.enc)]
theorem ok25 (n : Int) (arcs : List Arc) (k : Int) : OkN Try.prog 25 [.i k, .ptr 0 0 0] [nb n arcs] [] (IsA (.b (nodeB n k)) [nb n arcs]) := by
  refine okN_of pol [0] lw25 (by simp) ⟨trivial, trivial⟩ (by simp) ?_
  unfold c25 nb
  simp -implicitDefEqProofs only [qF, qI, qN, qO, qP, qQ, qR, qS, qV, qX, qZ, zF, zH, zI, zL, ofConst, List.length_nil, List.length_cons, zM, List.getD_eq_getElem?_getD, List.getElem?_cons_zero, ↓reduceIte, Nat.reduceEqDiff, Option.getD_some, zN, zP, Bool.not_true, ↓zQ, ↓zR, zS, List.nil_append, List.append_nil, Nat.zero_add, Nat.add_zero, reduceCtorEq, resP, tupV, List.reverse_cons, List.reverse_nil, leH, leB, leV, leVs, keepP, liveP, wfB, wfV, wfL, Bool.and_self, true_and, and_self, V.v.injEq, Value.int.injEq, Value.bool.injEq, Nat.le_refl, jg, ↓jh, ↓jj, ↓jl, ↓jo, ↓jv, ↓qaJ, ↓qaM, cxN, args0, retP_isA]
  simp only [br, decide_eq_true_eq, decide_eq_false_iff_not, nodeB]
  grind
def taskP (n f t am : Int) : Bool := decide ((0 ≤ f ∧ f < n) ∧ (0 ≤ t ∧ t < n) ∧ f ≠ t ∧ 0 ≤ am ∧ am ≤ 2199023255552)
theorem ok26 (n : Int) (arcs : List Arc) (f t am : Int) : Ok 26 [net n arcs, .i f, .i t, .i am] (Is (.b (taskP n f t am))) := by
  refine ok_of lw26 (by simp) ?_
  unfold c26 net
  simp -implicitDefEqProofs only [qF, qI, qN, qO, qP, qQ, qR, qS, qT, qV, qX, qZ, zF, zH, zI, zL, ofConst, cells?, List.length_nil, List.length_cons, List.set_cons_zero, zM, List.getD_eq_getElem?_getD, List.getElem?_cons_zero, ↓reduceIte, Nat.reduceEqDiff, Option.getD_some, zN, zP, Bool.not_true, ↓zQ, ↓zR, zS, List.nil_append, List.append_nil, Nat.zero_add, Nat.reduceAdd, Nat.add_zero, reduceCtorEq, freshP, zU, resP, tupV, List.reverse_cons, List.reverse_nil, wfV, true_and, V.v.injEq, Value.int.injEq, Value.bool.injEq, zZ, jg, ↓jh, ↓jj, ↓jl, ↓jo, ↓jv, ↓qaI, ↓qaJ, ↓qaK, ↓qaM, cxN, args0]
  simp only [br, decide_eq_true_eq, decide_eq_false_iff_not, taskP]
  grind
end Go.Fx.C
namespace Go.Fx.C
open Go Go.Fx Go.Proofs
set_option maxRecDepth 20000
def validA (n : Int) (a : Arc) : Bool := nodeB n a.from_ && (nodeB n a.to && decide (a.from_ ≠ a.to ∧ 0 ≤ a.cap ∧ a.cap ≤ 1073741824 ∧ 0 ≤ a.cost ∧ a.cost ≤ 1048576))
def checkI (n : Int) (arcs : List Arc) : Int := if 256 < n ∨ 2048 < arcs.length then 2 else if n < 1 then 1 else if arcs.all (validA n) then 0 else 1
theorem checkI_2 {n : Int} {arcs : List Arc} (h : 256 < n ∨ 2048 < arcs.length) : checkI n arcs = 2 := by simp only [checkI, if_pos h]
theorem checkI_1 {n : Int} {arcs : List Arc} (h : ¬ (256 < n ∨ 2048 < arcs.length)) (h1 : n < 1) : checkI n arcs = 1 := by simp only [checkI, if_neg h, if_pos h1]
theorem checkI_0 {n : Int} {arcs : List Arc} (h : ¬ (256 < n ∨ 2048 < arcs.length)) (h1 : ¬ n < 1) (h2 : ∀ k (h : k < arcs.length), validA n arcs[k] = true) : checkI n arcs = 0 := by
  have : arcs.all (validA n) = true := by
    rw [List.all_eq_true]
    intro a ha
    obtain ⟨j, hj, rfl⟩ := List.getElem_of_mem ha
    exact h2 j hj
  simp only [checkI, if_neg h, if_neg h1, this, if_true]
theorem checkI_b {n : Int} {arcs : List Arc} (h : ¬ (256 < n ∨ 2048 < arcs.length)) (h1 : ¬ n < 1) {k : Nat} (hk : k < arcs.length) (h2 : validA n arcs[k] = false) : checkI n arcs = 1 := by
  have : arcs.all (validA n) = false := by
    rw [List.all_eq_false]
    exact ⟨_, List.getElem_mem hk, by simp [h2]⟩
  simp only [checkI, if_neg h, if_neg h1, this]
  rfl
structure VInv (n : Int) (arcs : List Arc) (k : Nat) : Prop where
  h : ∀ j (h : j < arcs.length), j < k → validA n arcs[j] = true
theorem VInv.next {n : Int} {arcs : List Arc} {k : Nat} (h : VInv n arcs k) (hk : k < arcs.length) (hv : validA n arcs[k] = true) : VInv n arcs (k + 1) := by
  refine ⟨fun j hj h2 => ?_⟩
  by_cases h3 : j = k
  · subst h3; exact hv
  · exact h.h j hj (by omega)
theorem wkL_net {n : Int} {arcs : List Arc} {h : List Blk} {g : Nat → Option Nat} {k : Int} : lendsOk h g [net n arcs, .i k] ∧ wkL [net n arcs, .i k] (lends h g [net n arcs, .i k]) := by
  simp [net, lendsOk, lendOk, lends, lend, wkL, wk, wkR]
theorem ok10 (n : Int) (arcs : List Arc) : Ok 10 [net n arcs] (Is (.i (checkI n arcs))) := by
  refine ok_of lw10 (by simp) ?_
  unfold c10 net
  simp -implicitDefEqProofs only [qE, qF, qI, qJ, qK, qL, qN, qO, qP, qQ, qR, qS, qT, qV, qX, qZ, za, zF, zH, zI, zL, ofConst, cells?, List.length_nil, List.length_cons, List.set_cons_zero, zM, List.getD_eq_getElem?_getD, List.getElem?_cons_zero, ↓reduceIte, Nat.reduceEqDiff, Option.getD_some, zN, zP, Bool.not_false, ↓zQ, ↓zR, zS, List.nil_append, List.append_nil, Nat.zero_add, Nat.add_zero, freshP, zU, resP, tupV, List.reverse_cons, List.reverse_nil, wfV, true_and, V.v.injEq, Value.int.injEq, Value.bool.injEq, List.length_map, Bool.false_eq_true, lg0, zZ, jg, ↓jh, ↓jj, ↓jl, ↓jo, ↓jv, ↓jE, ↓qaJ, ↓qaL, List.length_map, cxN, args0]
  simp only [br, decide_eq_true_eq, decide_eq_false_iff_not]
  refine ⟨fun h => ?_, fun h1 hm => ⟨fun h => ?_, fun h2 => ⟨fun h => ?_, fun h3 => ?_⟩⟩⟩
  · exact (checkI_2 (.inl h)).symm
  · exact (checkI_2 (.inr (by omega))).symm
  · exact (checkI_1 (by omega) h).symm
  refine loopP_intro (fun k : Nat => ⟨[(3, .i k), (1, .ptr 0 0 0)], [.var [.i n, .ro 4 (arcs.map Arc.enc)]], 0⟩) (fun k => k ≤ arcs.length ∧ VInv n arcs k) (fun k => arcs.length - k) 0 ⟨by omega, ⟨by simp⟩⟩ ?_ ?_
  · simp -implicitDefEqProofs only [zL, List.getElem?_cons_zero, ↓reduceIte, Nat.reduceEqDiff, zV, leE, leH, leB, leV, leVs, keepP, liveP, wfE, wfB, wfV, wfL, Bool.and_self, and_self, leVs, leV, Int.natCast_zero]
  rintro k ⟨hk, hv⟩
  simp -implicitDefEqProofs only [qE, qF, qI, qJ, qK, qM, qN, qO, qP, qR, qU, qV, qW, qX, qY, qZ, za, zB, zF, zG, zH, zI, zL, ofConst, cells?, List.length_nil, List.length_cons, List.set_cons_zero, splice, zM, List.getD_eq_getElem?_getD, List.getElem?_cons_zero, ↓reduceIte, Nat.reduceEqDiff, Option.getD_some, zN, zP, List.nil_append, List.cons_append, List.append_nil, Nat.zero_add, Nat.reduceAdd, Nat.add_zero, freshP, zU, resP, tupV, List.reverse_cons, List.reverse_nil, wfV, List.map_cons, List.map_nil, List.drop_zero, List.take_zero, List.take_nil, List.drop_nil, Bool.and_true, true_and, and_true, V.v.injEq, Value.int.injEq, Value.bool.injEq, List.not_mem_nil, List.length_map, not_false_eq_true, Nat.le_refl, lg0, zW, zX, zY, zZ, kc, ke, kh, kn, jg, ↓jh, ↓jj, ↓jk, ↓jl, ↓jo, ↓jp, ↓jq, ↓jr, ↓jv, ↓jz, ↓jE, ↓qaJ, List.length_map, List.getElem_map, enc_len, enc_take, enc_0, enc_isC, Int.toNat_natCast]
  simp only [br, decide_eq_true_eq, decide_eq_false_iff_not]
  refine fun _ => ⟨fun h => ⟨⟨by omega, h⟩, ⟨by omega, ?_⟩⟩, fun h => (checkI_0 (by omega) h3 fun j hj => hv.h j hj (by omega)).symm⟩
  have hk : k < arcs.length := by omega
  have bad := fun (h : validA n arcs[k] = false) => (checkI_b (n := n) (arcs := arcs) (by omega) h3 hk h).symm
  have good := fun (h : validA n arcs[k] = true) => hv.next hk h
  refine call_is (ok24 n arcs arcs[k].from_) wkL_net rfl trivial ?_
  cases hf : nodeB n arcs[k].from_ with
  | false =>
    simp -implicitDefEqProofs only [qF, qI, qJ, qN, qO, qP, qQ, qR, qS, zc, zF, zH, zI, zL, ofConst, List.length_nil, List.length_cons, ↓reduceIte, Nat.reduceEqDiff, zO, zP, Bool.not_false, ↓zQ, zS, List.nil_append, List.append_nil, Nat.zero_add, Nat.reduceAdd, zU, resP, tupV, List.reverse_cons, List.reverse_nil, wfV, true_and, V.v.injEq, Value.int.injEq, Value.bool.injEq, Bool.false_eq_true, jg]
    exact bad (by simp [validA, hf])
  | true =>
    simp -implicitDefEqProofs only [qP, qQ, qR, qV, qX, zc, zB, zF, zH, zL, List.length_nil, List.length_cons, zM, List.getD_eq_getElem?_getD, List.getElem?_cons_zero, ↓reduceIte, Nat.reduceEqDiff, Option.getD_some, zO, Bool.not_true, ↓zR, zS, Nat.zero_add, Nat.reduceAdd, List.map_cons, List.map_nil, List.drop_zero, List.take_nil, true_and, Bool.false_eq_true, Nat.le_refl, lg0, zY, ke, ↓jh, ↓jj, ↓jl, ↓jo, ↓jp, ↓jv, enc_1]
    refine call_is (ok24 n arcs arcs[k].to) wkL_net rfl trivial ?_
    cases ht : nodeB n arcs[k].to with
    | false =>
      simp -implicitDefEqProofs only [qF, qI, qJ, qN, qO, qP, qQ, qR, qS, zc, zF, zH, zI, zL, ofConst, List.length_nil, List.length_cons, ↓reduceIte, Nat.reduceEqDiff, zO, zP, Bool.not_false, ↓zQ, ↓zR, zS, List.nil_append, List.append_nil, Nat.zero_add, Nat.reduceAdd, zU, resP, tupV, List.reverse_cons, List.reverse_nil, wfV, true_and, V.v.injEq, Value.int.injEq, Value.bool.injEq, Bool.false_eq_true, jg]
      exact bad (by simp [validA, ht])
    | true =>
      simp -implicitDefEqProofs only [qE, qF, qI, qJ, qN, qO, qP, qQ, qR, qS, qV, qX, qZ, zc, zF, zH, zI, zL, ofConst, List.length_nil, List.length_cons, zM, List.getD_eq_getElem?_getD, List.getElem?_cons_zero, ↓reduceIte, Nat.reduceEqDiff, Option.getD_some, zN, zO, zP, Bool.not_true, Bool.not_false, ↓zQ, ↓zR, zS, List.nil_append, List.append_nil, Nat.zero_add, Nat.reduceAdd, Nat.add_zero, zU, resP, tupV, List.reverse_cons, List.reverse_nil, zV, leE, leH, leB, leV, leVs, keepP, liveP, wfE, wfB, wfV, wfL, Bool.and_true, Bool.and_self, true_and, and_true, and_self, V.v.injEq, Value.int.injEq, Value.bool.injEq, Bool.false_eq_true, lg0, jg, ↓jh, ↓jj, ↓jl, ↓jo, ↓jv, ↓qaB, ↓qaH, ↓qaJ, ↓qaL, enc_0, enc_1, enc_2, enc_3]
      simp only [br, decide_eq_true_eq, decide_eq_false_iff_not, validA, hf, ht, Bool.true_and] at bad good ⊢
      simp only [lo, hi, maxLen, beq_iff_eq, beq_eq_false_iff_ne] at *
      repeat' (first | (refine ⟨(k+1 : _), ?_⟩) | (refine ⟨by omega, ?_⟩) | (refine And.intro ?_ ?_) | (refine (fun _ => ?_)))
      all_goals first | omega | (apply bad; omega) | (apply good; omega)
theorem ok11 (n : Int) (arcs : List Arc) : Ok 11 [net n arcs] (Is (.i (checkI n arcs))) := by
  refine ok_of lw11 (by simp) ?_
  unfold c11 net
  simp -implicitDefEqProofs only [qE, qF, qI, qJ, qK, qL, qN, qO, qP, qQ, qR, qS, qT, qV, qX, qZ, za, zg, zF, zH, zI, zL, ofConst, cells?, List.length_nil, List.length_cons, List.set_cons_zero, zM, List.getD_eq_getElem?_getD, List.getElem?_cons_zero, ↓reduceIte, Nat.reduceEqDiff, Option.getD_some, zN, zP, Bool.not_false, ↓zQ, ↓zR, zS, List.nil_append, List.append_nil, Nat.zero_add, Nat.add_zero, freshP, zU, resP, tupV, List.reverse_cons, List.reverse_nil, wfV, List.map_cons, List.map_nil, true_and, V.v.injEq, Value.int.injEq, Value.bool.injEq, List.length_map, Bool.false_eq_true, lg0, zZ, jg, ↓jh, ↓jj, ↓jl, ↓jo, ↓jv, ↓jE, ↓qaJ, ↓qaL, List.length_map, cxN, args0]
  simp only [br, decide_eq_true_eq, decide_eq_false_iff_not]
  refine ⟨fun h => ?_, fun h1 hm => ⟨fun h => ?_, fun h2 => ⟨fun h => ?_, fun h3 => ?_⟩⟩⟩
  · exact (checkI_2 (.inl h)).symm
  · exact (checkI_2 (.inr (by omega))).symm
  · exact (checkI_1 (by omega) h).symm
  intro _
  refine loopP_intro (fun k : Nat => ⟨[(22, .i k), (21, .i arcs.length), (20, .ro 4 (arcs.map Arc.enc)), (3, .clo 25 [.ptr 0 0 0]), (1, .ptr 0 0 0)], [.var [.i n, .ro 4 (arcs.map Arc.enc)]], 0⟩) (fun k => k ≤ arcs.length ∧ VInv n arcs k) (fun k => arcs.length - k) 0 ⟨by omega, ⟨by simp⟩⟩ ?_ ?_
  · simp -implicitDefEqProofs only [zL, List.getElem?_cons_zero, ↓reduceIte, Nat.reduceEqDiff, zV, leE, leH, leB, leV, leVs, keepP, liveP, wfE, wfB, wfV, wfL, Bool.and_self, and_self, leVs, leV, Int.natCast_zero]
  rintro k ⟨hk, hv⟩
  simp -implicitDefEqProofs only [qE, qF, qI, qJ, qK, qM, qN, qO, qP, qR, qU, qV, qW, qX, qY, qZ, zE, zF, zG, zH, zI, zL, ofConst, cells?, List.length_nil, List.length_cons, List.set_cons_zero, splice, zM, List.getD_eq_getElem?_getD, List.getElem?_cons_zero, ↓reduceIte, Nat.reduceEqDiff, Option.getD_some, zN, zP, List.nil_append, List.cons_append, List.append_nil, Nat.zero_add, Nat.reduceAdd, Nat.add_zero, freshP, zU, resP, tupV, List.reverse_cons, List.reverse_nil, wfV, List.map_cons, List.map_nil, List.drop_zero, List.take_zero, List.drop_nil, Bool.and_true, true_and, and_true, V.v.injEq, Value.int.injEq, Value.bool.injEq, List.not_mem_nil, List.length_map, not_false_eq_true, Nat.le_refl, lg0, zW, zX, zZ, kc, kh, kn, jg, ↓jh, ↓jj, ↓jk, ↓jl, ↓jo, ↓jp, ↓jq, ↓jr, ↓jv, ↓jz, ↓jM, ↓qaJ, List.length_map, List.getElem_map, enc_len, enc_take, enc_0, enc_isC, Int.toNat_natCast]
  simp only [br, decide_eq_true_eq, decide_eq_false_iff_not]
  refine ⟨fun h => ⟨⟨by omega, h⟩, ⟨by omega, ?_⟩⟩, fun h => (checkI_0 (by omega) h3 fun j hj => hv.h j hj (by omega)).symm⟩
  have hk : k < arcs.length := by omega
  have bad := fun (h : validA n arcs[k] = false) => (checkI_b (n := n) (arcs := arcs) (by omega) h3 hk h).symm
  have good := fun (h : validA n arcs[k] = true) => hv.next hk h
  refine call_isN [0] [.i arcs[k].from_, .ptr 0 0 0] (.b (nodeB n arcs[k].from_)) (.b (nodeB n arcs[k].from_)) [nb n arcs] [nb n arcs] _ (ok25 n arcs arcs[k].from_) ⟨by simp, by simp⟩ rfl ?_ (by simp) rfl rfl trivial ?_
  · simp [lendsOk, lendOk, lends, lend, wkL, wk, pos]
  cases hf : nodeB n arcs[k].from_ with
  | false =>
    simp -implicitDefEqProofs only [qF, qI, qJ, qN, qO, qP, qQ, qR, qS, zc, zF, zH, zI, zL, ofConst, List.length_nil, List.length_cons, ↓reduceIte, Nat.reduceEqDiff, zO, zP, Bool.not_false, ↓zQ, zS, List.nil_append, List.append_nil, Nat.zero_add, Nat.reduceAdd, zU, resP, tupV, List.reverse_cons, List.reverse_nil, wfV, List.map_cons, List.map_nil, true_and, V.v.injEq, Value.int.injEq, Value.bool.injEq, Bool.false_eq_true, jg]
    exact bad (by simp [validA, hf])
  | true =>
    simp -implicitDefEqProofs only [qP, qQ, qR, qV, qX, zc, zE, zF, zH, zL, List.length_nil, List.length_cons, List.set_cons_zero, zM, List.getD_eq_getElem?_getD, List.getElem?_cons_zero, ↓reduceIte, Nat.reduceEqDiff, Option.getD_some, zO, Bool.not_true, ↓zR, zS, List.nil_append, List.cons_append, List.append_nil, Nat.zero_add, Nat.reduceAdd, List.map_cons, List.map_nil, Bool.false_eq_true, lg0, ↓jh, ↓jj, ↓jl, ↓jo, ↓jv, ↓jM, enc_1, setAll, renB, rens, ren, nb]
    refine call_isN [0] [.i arcs[k].to, .ptr 0 0 0] (.b (nodeB n arcs[k].to)) (.b (nodeB n arcs[k].to)) [nb n arcs] [nb n arcs] _ (ok25 n arcs arcs[k].to) ⟨by simp, by simp⟩ rfl ?_ (by simp) rfl rfl trivial ?_
    · simp [lendsOk, lendOk, lends, lend, wkL, wk, pos]
    cases ht : nodeB n arcs[k].to with
    | false =>
      simp -implicitDefEqProofs only [qF, qI, qJ, qN, qO, qP, qQ, qR, qS, zc, zF, zH, zI, zL, ofConst, List.length_nil, List.length_cons, List.set_cons_zero, ↓reduceIte, Nat.reduceEqDiff, zO, zP, Bool.not_false, ↓zQ, ↓zR, zS, List.nil_append, List.append_nil, Nat.zero_add, Nat.reduceAdd, zU, resP, tupV, List.reverse_cons, List.reverse_nil, wfV, List.map_cons, List.map_nil, true_and, V.v.injEq, Value.int.injEq, Value.bool.injEq, Bool.false_eq_true, jg, setAll, renB, rens, ren, nb]
      exact bad (by simp [validA, ht])
    | true =>
      simp -implicitDefEqProofs only [qE, qF, qI, qJ, qN, qO, qP, qQ, qR, qS, qV, qX, qZ, zc, zF, zH, zI, zL, ofConst, List.length_nil, List.length_cons, List.set_cons_zero, zM, List.getD_eq_getElem?_getD, List.getElem?_cons_zero, ↓reduceIte, Nat.reduceEqDiff, Option.getD_some, zN, zO, zP, Bool.not_true, Bool.not_false, ↓zQ, ↓zR, zS, List.nil_append, List.append_nil, Nat.zero_add, Nat.reduceAdd, Nat.add_zero, zU, resP, tupV, List.reverse_cons, List.reverse_nil, zV, leE, leH, leB, leV, leVs, keepP, liveP, wfE, wfB, wfV, wfL, List.map_cons, List.map_nil, Bool.and_true, Bool.and_self, true_and, and_true, and_self, V.v.injEq, Value.int.injEq, Value.bool.injEq, Bool.false_eq_true, lg0, jg, ↓jh, ↓jj, ↓jl, ↓jo, ↓jv, ↓qaB, ↓qaH, ↓qaJ, ↓qaL, enc_0, enc_1, enc_2, enc_3, setAll, renB, rens, ren, nb]
      simp only [br, decide_eq_true_eq, decide_eq_false_iff_not, validA, hf, ht, Bool.true_and] at bad good ⊢
      simp only [lo, hi, maxLen, beq_iff_eq, beq_eq_false_iff_ne] at *
      repeat' (first | (refine ⟨(k+1 : _), ?_⟩) | (refine ⟨by omega, ?_⟩) | (refine And.intro ?_ ?_) | (refine (fun _ => ?_)))
      all_goals first | omega | (apply bad; omega) | (apply good; omega)
def taskB (n : Int) (arcs : List Arc) (f t am : Int) : Bool := decide (checkI n arcs = 0) && taskP n f t am
theorem ok12 (n : Int) (arcs : List Arc) (f t am : Int) : Ok 12 [net n arcs, .i f, .i t, .i am] (Is (.b (taskB n arcs f t am))) := by
  refine ok_of lw12 (by simp) ?_
  unfold c12 net
  simp -implicitDefEqProofs only [qF, qI, qO, qP, qR, qT, qV, zB, zF, zH, zI, zL, ofConst, cells?, List.length_nil, List.length_cons, List.set_cons_zero, zM, List.getD_eq_getElem?_getD, List.getElem?_cons_zero, ↓reduceIte, Nat.reduceEqDiff, Option.getD_some, List.nil_append, List.append_nil, Nat.zero_add, Nat.reduceAdd, Nat.add_zero, freshP, List.map_cons, List.map_nil, List.drop_zero, List.take_nil, true_and, Nat.le_refl, zY, zZ, ke, jg, ↓jh, ↓jj, ↓jl, ↓jp, cxN, args0]
  refine call_is (ok10 n arcs) (by simp [net, lendsOk, lendOk, lends, lend, wkL, wk, wkR]) rfl trivial ?_
  simp -implicitDefEqProofs only [qN, qO, qP, qQ, qR, qS, qV, qZ, zB, zF, zH, zI, zL, ofConst, List.length_nil, List.length_cons, zM, List.getD_eq_getElem?_getD, List.getElem?_cons_zero, ↓reduceIte, Nat.reduceEqDiff, Option.getD_some, zN, zP, Bool.not_true, ↓zQ, ↓zR, zS, List.nil_append, Nat.zero_add, Nat.reduceAdd, reduceCtorEq, zU, resP, tupV, List.reverse_cons, List.reverse_nil, wfV, List.map_cons, List.map_nil, List.drop_zero, List.take_nil, true_and, V.v.injEq, Value.int.injEq, Value.bool.injEq, Nat.le_refl, zY, ke, ↓jj, ↓jl, ↓jp, ↓qaH]
  by_cases hc : checkI n arcs = 0
  · simp -implicitDefEqProofs only [↓zQ, hc, beq_self_eq_true]
    refine call_is (ok24 n arcs f) wkL_net rfl trivial ?_
    cases hf : nodeB n f with
    | false =>
      simp -implicitDefEqProofs only [qN, qO, qP, qQ, qR, qS, zF, zH, zI, zL, ofConst, ↓reduceIte, Nat.reduceEqDiff, zP, Bool.not_true, ↓zQ, ↓zR, zS, List.nil_append, zU, resP, tupV, List.reverse_cons, List.reverse_nil, wfV, true_and, V.v.injEq, Value.int.injEq, Value.bool.injEq]
      simp only [nodeB, decide_eq_false_iff_not] at hf
      simp only [taskB, taskP]
      grind
    | true =>
      simp -implicitDefEqProofs only [qP, qQ, qR, qS, qV, zB, zF, zH, zL, List.length_nil, List.length_cons, zM, List.getD_eq_getElem?_getD, List.getElem?_cons_zero, ↓reduceIte, Nat.reduceEqDiff, Option.getD_some, zP, ↓zQ, zS, Nat.zero_add, Nat.reduceAdd, reduceCtorEq, List.map_cons, List.map_nil, List.drop_zero, List.take_nil, true_and, Nat.le_refl, zY, ke, ↓jj, ↓jl, ↓jp]
      refine call_is (ok24 n arcs t) wkL_net rfl trivial ?_
      cases ht : nodeB n t with
      | false =>
        simp -implicitDefEqProofs only [qN, qO, qP, qQ, qR, qS, zF, zH, zI, zL, ofConst, ↓reduceIte, Nat.reduceEqDiff, zP, Bool.not_true, ↓zQ, ↓zR, zS, List.nil_append, zU, resP, tupV, List.reverse_cons, List.reverse_nil, wfV, true_and, V.v.injEq, Value.int.injEq, Value.bool.injEq]
        simp only [nodeB, decide_eq_false_iff_not] at ht
        simp only [taskB, taskP]
        grind
      | true =>
        simp -implicitDefEqProofs only [qN, qO, qP, qQ, qR, qS, qZ, zF, zH, zI, zL, ofConst, ↓reduceIte, Nat.reduceEqDiff, zN, zP, Bool.not_true, ↓zQ, ↓zR, zS, List.nil_append, reduceCtorEq, zU, resP, tupV, List.reverse_cons, List.reverse_nil, wfV, true_and, V.v.injEq, Value.int.injEq, Value.bool.injEq, ↓qaI, ↓qaK, ↓qaM]
        simp only [br, decide_eq_true_eq, decide_eq_false_iff_not, taskB, taskP, nodeB] at *
        grind
  · have : (checkI n arcs == 0) = false := by simpa using hc
    simp -implicitDefEqProofs only [↓zR, this]
    simp [taskB, hc]
end Go.Fx.C
namespace Go.Fx.C
open Go Go.Fx Go.Proofs
set_option maxRecDepth 20000
/-- A network without error. -/
structure Val (N : Nat) (arcs : List Arc) : Prop where
  hn : 1 ≤ N ∧ N ≤ 256
  hl : arcs.length ≤ 2048
  ha : ∀ a ∈ arcs, (0 ≤ a.from_ ∧ a.from_ < N) ∧ (0 ≤ a.to ∧ a.to < N) ∧ a.from_ ≠ a.to ∧ (0 ≤ a.cap ∧ a.cap ≤ 1073741824) ∧ 0 ≤ a.cost ∧ a.cost ≤ 1048576
theorem Val.of {n : Int} {arcs : List Arc} (h : checkI n arcs = 0) : ∃ N : Nat, n = N ∧ Val N arcs := by
  unfold checkI at h
  split at h
  · cases h
  · split at h
    · cases h
    · split at h
      · rename_i h1 h2 h3
        refine ⟨n.toNat, by omega, by omega, by omega, fun a ha => ?_⟩
        rw [List.all_eq_true] at h3
        have := h3 a ha
        simp only [validA, nodeB, Bool.and_eq_true, decide_eq_true_eq] at this
        omega
      · cases h
theorem Val.chk {N : Nat} {arcs : List Arc} (h : Val N arcs) : checkI N arcs = 0 := by
  obtain ⟨h1, h2, h3⟩ := h
  refine checkI_0 (by omega) (by omega) fun k hk => ?_
  have := h3 _ (List.getElem_mem hk)
  simp only [validA, nodeB, Bool.and_eq_true, decide_eq_true_eq]
  omega
def possP (arcs : List Arc) (flow : List Int) : Prop := ∀ i (h1 : i < flow.length) (h2 : i < arcs.length), 0 ≤ flow[i] ∧ flow[i] ≤ arcs[i].cap
theorem Val.flow {N : Nat} {arcs : List Arc} (h : Val N arcs) {flow : List Int} (hl : flow.length = arcs.length) (hp : possP arcs flow) : ∀ x ∈ flow, 0 ≤ x ∧ x ≤ 1073741824 := by
  intro x hx
  obtain ⟨i, hi, rfl⟩ := List.getElem_of_mem hx
  have h1 := hp i hi (by omega)
  have h2 := (h.ha arcs[i] (List.getElem_mem _))
  omega
def valTo (arcs : List Arc) (node : Int) (flow : List Int) : Nat → Int
  | 0 => 0
  | k + 1 => valTo arcs node flow k + (if (arcs.getD k ⟨0,0,0,0⟩).from_ = node then flow.getD k 0 else 0) - (if (arcs.getD k ⟨0,0,0,0⟩).to = node then flow.getD k 0 else 0)
theorem flow_b {flow : List Int} (hf : ∀ x ∈ flow, 0 ≤ x ∧ x ≤ 1073741824) (k : Nat) : 0 ≤ flow.getD k 0 ∧ flow.getD k 0 ≤ 1073741824 := by
  rw [List.getD_eq_getElem?_getD]
  cases h : flow[k]? with
  | none => simp
  | some x => exact hf x (List.mem_of_getElem? h)
theorem valTo_bound (arcs : List Arc) (node : Int) (flow : List Int) (hf : ∀ x ∈ flow, 0 ≤ x ∧ x ≤ 1073741824) : ∀ k : Nat, -((k : Int) * 1073741824) ≤ valTo arcs node flow k ∧ valTo arcs node flow k ≤ (k : Int) * 1073741824
  | 0 => by simp [valTo]
  | k + 1 => by
    have h1 := valTo_bound arcs node flow hf k
    have h2 := flow_b hf k
    simp only [valTo]
    split <;> split <;> omega
theorem valTo_step {arcs : List Arc} {node : Int} {flow : List Int} {k : Nat} (h1 : k < arcs.length) (h2 : k < flow.length) : valTo arcs node flow (k + 1) = valTo arcs node flow k + (if arcs[k].from_ = node then flow[k] else 0) - (if arcs[k].to = node then flow[k] else 0) := by
  simp only [valTo, List.getD_eq_getElem?_getD, List.getElem?_eq_getElem h1, List.getElem?_eq_getElem h2, Option.getD_some]
def totTo (arcs : List Arc) (flow : List Int) : Nat → Int
  | 0 => 0
  | k + 1 => totTo arcs flow k + flow.getD k 0 * (arcs.getD k ⟨0,0,0,0⟩).cost
theorem totTo_step {arcs : List Arc} {flow : List Int} {k : Nat} (h1 : k < arcs.length) (h2 : k < flow.length) : totTo arcs flow (k + 1) = totTo arcs flow k + flow[k] * arcs[k].cost := by
  simp only [totTo, List.getD_eq_getElem?_getD, List.getElem?_eq_getElem h1, List.getElem?_eq_getElem h2, Option.getD_some]
theorem mul_b {a b : Int} (h1 : 0 ≤ a ∧ a ≤ 1073741824) (h2 : 0 ≤ b ∧ b ≤ 1048576) : 0 ≤ a * b ∧ a * b ≤ 1125899906842624 := by
  refine ⟨Int.mul_nonneg h1.1 h2.1, ?_⟩
  have := Int.mul_le_mul h1.2 h2.2 h2.1 (by omega)
  omega
theorem totTo_bound (arcs : List Arc) (flow : List Int) (hf : ∀ x ∈ flow, 0 ≤ x ∧ x ≤ 1073741824) (ha : ∀ a ∈ arcs, 0 ≤ a.cost ∧ a.cost ≤ 1048576) : ∀ k : Nat, 0 ≤ totTo arcs flow k ∧ totTo arcs flow k ≤ (k : Int) * 1125899906842624
  | 0 => by simp [totTo]
  | k + 1 => by
    have h1 := totTo_bound arcs flow hf ha k
    have h2 := flow_b hf k
    have h3 : 0 ≤ (arcs.getD k ⟨0,0,0,0⟩).cost ∧ (arcs.getD k ⟨0,0,0,0⟩).cost ≤ 1048576 := by
      rw [List.getD_eq_getElem?_getD]
      cases h : arcs[k]? with
      | none => simp
      | some x => exact ha x (List.mem_of_getElem? h)
    have := mul_b h2 h3
    simp only [totTo]
    omega
theorem ok21 (n node : Int) (arcs : List Arc) (flow : List Int) (hl : flow.length = arcs.length) (hb : arcs.length ≤ 4096) (hf : ∀ x ∈ flow, 0 ≤ x ∧ x ≤ 1073741824) : Ok 21 [net n arcs, li flow, .i node] (Is (.i (valTo arcs node flow arcs.length))) := by
  refine ok_of lw21 (by simp) ?_
  unfold c21 net li
  simp -implicitDefEqProofs only [qF, qI, qK, qL, qO, qP, qR, qT, zF, zH, zI, zL, ofConst, cells?, List.length_nil, List.length_cons, List.set_cons_zero, List.getElem?_cons_zero, ↓reduceIte, List.nil_append, List.append_nil, Nat.zero_add, Nat.reduceAdd, Nat.add_zero, freshP, true_and, zZ, jg, ↓jh, cxN, args0]
  refine loopP_intro (fun k : Nat => ⟨[(8, .i k), (7, .i (valTo arcs node flow k)), (3, .ptr 0 0 0), (2, .i node), (1, .ro 1 (flow.map encI))], [.var [.i n, .ro 4 (arcs.map Arc.enc)]], 0⟩) (fun k => k ≤ arcs.length) (fun k => arcs.length - k) 0 (by simp) ?_ ?_
  · simp -implicitDefEqProofs only [zL, List.getElem?_cons_zero, ↓reduceIte, Nat.reduceEqDiff, reduceCtorEq, zV, leE, leH, leB, leV, leVs, keepP, liveP, wfE, wfB, wfV, wfL, Bool.and_self, and_self, leVs, leV, valTo, Int.natCast_zero]
  intro k hk
  simp -implicitDefEqProofs only [qE, qF, qI, qJ, qK, qM, qN, qO, qP, qR, qV, qX, qY, qZ, za, zF, zH, zI, zL, ofConst, List.length_nil, List.length_cons, zM, List.getD_eq_getElem?_getD, List.getElem?_cons_zero, ↓reduceIte, Nat.reduceEqDiff, Option.getD_some, zN, zP, List.nil_append, List.append_nil, Nat.zero_add, Nat.add_zero, zU, resP, tupV, List.reverse_cons, List.reverse_nil, zV, leE, leH, leB, leV, leVs, keepP, liveP, wfE, wfB, wfV, wfL, Bool.and_true, Bool.and_self, true_and, and_true, and_self, V.v.injEq, Value.int.injEq, Value.bool.injEq, List.length_map, lg0, jg, ↓jh, ↓jj, ↓jk, ↓jl, ↓jo, ↓jv, ↓jx, ↓jz, ↓jE, ↓qaB, ↓qaD, ↓qaH, ↓qaJ, List.length_map, List.getElem_map, enc_0, enc_1, encI_0, Int.toNat_natCast]
  simp only [br, decide_eq_true_eq, decide_eq_false_iff_not]
  refine fun hm => ⟨fun h => ⟨⟨by omega, h⟩, by omega, ?_⟩, fun h => ?_⟩
  · have hk1 : k < arcs.length := by omega
    have hk2 : k < flow.length := by omega
    have hfk := hf flow[k] (List.getElem_mem hk2)
    have hvb := valTo_bound arcs node flow hf k
    have hst := valTo_step (node := node) hk1 hk2
    simp only [lo, hi, beq_iff_eq, beq_eq_false_iff_ne]
    repeat' (first | (refine ⟨(k+1 : _), ?_⟩) | (refine ⟨by omega, ?_⟩) | (refine And.intro ?_ ?_) | (refine (fun _ => ?_)))
    all_goals first | omega | grind
  · have : k = arcs.length := by omega
    rw [this]
theorem ok22 (n : Int) (arcs : List Arc) (flow : List Int) (hl : flow.length = arcs.length) (hb : arcs.length ≤ 2048) (hf : ∀ x ∈ flow, 0 ≤ x ∧ x ≤ 1073741824) (ha : ∀ a ∈ arcs, 0 ≤ a.cost ∧ a.cost ≤ 1048576) : Ok 22 [net n arcs, li flow] (Is (.i (totTo arcs flow arcs.length))) := by
  refine ok_of lw22 (by simp) ?_
  unfold c22 net li
  simp -implicitDefEqProofs only [qF, qI, qK, qL, qO, qP, qR, qT, zF, zH, zI, zL, ofConst, cells?, List.length_nil, List.length_cons, List.set_cons_zero, List.getElem?_cons_zero, ↓reduceIte, List.nil_append, List.append_nil, Nat.zero_add, Nat.add_zero, freshP, true_and, zZ, jg, ↓jh, cxN, args0]
  refine loopP_intro (fun k : Nat => ⟨[(6, .i k), (5, .i (totTo arcs flow k)), (2, .ptr 0 0 0), (1, .ro 1 (flow.map encI))], [.var [.i n, .ro 4 (arcs.map Arc.enc)]], 0⟩) (fun k => k ≤ arcs.length) (fun k => arcs.length - k) 0 (by simp) ?_ ?_
  · simp -implicitDefEqProofs only [zL, List.getElem?_cons_zero, ↓reduceIte, Nat.reduceEqDiff, reduceCtorEq, zV, leE, leH, leB, leV, leVs, keepP, liveP, wfE, wfB, wfV, wfL, Bool.and_self, and_self, leVs, leV, totTo, Int.natCast_zero]
  intro k hk
  simp -implicitDefEqProofs only [qE, qF, qH, qI, qJ, qK, qM, qN, qO, qP, qR, qV, qX, qY, qZ, za, zF, zH, zI, zL, ofConst, List.length_nil, List.length_cons, zM, List.getD_eq_getElem?_getD, List.getElem?_cons_zero, ↓reduceIte, Nat.reduceEqDiff, Option.getD_some, zN, zP, List.nil_append, List.append_nil, Nat.zero_add, zU, resP, tupV, List.reverse_cons, List.reverse_nil, zV, leE, leH, leB, leV, leVs, keepP, liveP, wfE, wfB, wfV, wfL, Bool.and_true, Bool.and_self, true_and, and_true, and_self, V.v.injEq, Value.int.injEq, Value.bool.injEq, List.length_map, lg0, jg, ↓jh, ↓jj, ↓jk, ↓jl, ↓jo, ↓jv, ↓jx, ↓jz, ↓jE, ↓qaB, ↓qaF, ↓qaJ, List.length_map, List.getElem_map, enc_3, encI_0, Int.toNat_natCast]
  simp only [br, decide_eq_true_eq, decide_eq_false_iff_not]
  refine fun hm => ⟨fun h => ⟨⟨by omega, h⟩, by omega, ?_⟩, fun h => ?_⟩
  · have hk1 : k < arcs.length := by omega
    have hk2 : k < flow.length := by omega
    have hfk := hf flow[k] (List.getElem_mem hk2)
    have hak := ha arcs[k] (List.getElem_mem hk1)
    have hvb := totTo_bound arcs flow hf ha k
    have hst := totTo_step hk1 hk2
    have hmb := mul_b hfk hak
    simp only [lo, hi, beq_iff_eq, beq_eq_false_iff_ne]
    repeat' (first | (refine ⟨(k+1 : _), ?_⟩) | (refine ⟨by omega, ?_⟩) | (refine And.intro ?_ ?_) | (refine (fun _ => ?_)))
    all_goals first | omega | exact hst.symm
  · have : k = arcs.length := by omega
    rw [this]
structure FewInv (arcs : List Arc) (most : Int) (k : Nat) : Prop where
  h : ∀ j (h : j < arcs.length), j < k → arcs[j].cap ≤ most
def fewB (n : Int) (arcs : List Arc) (most : Int) : Bool := decide (n ≤ 12 ∧ arcs.length ≤ 30 ∧ checkI n arcs = 0) && arcs.all fun a => decide (a.cap ≤ most)
theorem fewB_f {n : Int} {arcs : List Arc} {most : Int} (h : ¬ (n ≤ 12 ∧ arcs.length ≤ 30 ∧ checkI n arcs = 0)) : fewB n arcs most = false := by simp only [fewB, h, decide_false, Bool.false_and]
theorem ok14 (n most : Int) (arcs : List Arc) : Ok 14 [net n arcs, .i most] (Is (.b (fewB n arcs most))) := by
  refine ok_of lw14 (by simp) ?_
  unfold c14 net
  simp -implicitDefEqProofs only [qF, qI, qJ, qN, qO, qP, qQ, qR, qS, qT, qV, qX, qZ, za, zB, zF, zH, zI, zL, ofConst, cells?, List.length_nil, List.length_cons, List.set_cons_zero, zM, List.getD_eq_getElem?_getD, List.getElem?_cons_zero, ↓reduceIte, Nat.reduceEqDiff, Option.getD_some, zN, zP, Bool.not_false, ↓zQ, ↓zR, zS, List.nil_append, List.append_nil, Nat.zero_add, Nat.reduceAdd, Nat.add_zero, freshP, zU, resP, tupV, List.reverse_cons, List.reverse_nil, wfV, List.map_cons, List.map_nil, List.drop_zero, List.take_nil, true_and, V.v.injEq, Value.int.injEq, Value.bool.injEq, List.length_map, Bool.false_eq_true, Nat.le_refl, lg0, zY, zZ, ke, jg, ↓jh, ↓jj, ↓jl, ↓jo, ↓jp, ↓jv, ↓jE, ↓qaL, List.length_map, cxN, args0]
  simp only [br, decide_eq_true_eq, decide_eq_false_iff_not]
  refine ⟨fun h => ?_, fun h1 hm => ⟨fun h => ?_, fun h2 => ?_⟩⟩
  · exact (fewB_f (by omega)).symm
  · exact (fewB_f (by omega)).symm
  refine call_is (ok10 n arcs) (by simp [net, lendsOk, lendOk, lends, lend, wkL, wk, wkR]) rfl trivial ?_
  simp -implicitDefEqProofs only [qE, qF, qI, qJ, qK, qL, qN, qO, qP, qQ, qR, qS, qZ, zF, zH, zI, zL, ofConst, List.length_nil, List.length_cons, ↓reduceIte, Nat.reduceEqDiff, zN, zP, ↓zR, zS, List.nil_append, List.append_nil, Nat.zero_add, zU, resP, tupV, List.reverse_cons, List.reverse_nil, wfV, true_and, V.v.injEq, Value.int.injEq, Value.bool.injEq, Bool.false_eq_true, jg, ↓qaI]
  simp only [br, bne_iff_ne, bne_eq_false_iff_eq]
  refine ⟨fun h => (fewB_f (by omega)).symm, fun h => ?_⟩
  refine loopP_intro (fun k : Nat => ⟨[(5, .i k), (2, .ptr 0 0 0), (1, .i most)], [.var [.i n, .ro 4 (arcs.map Arc.enc)]], 0⟩) (fun k => k ≤ arcs.length ∧ FewInv arcs most k) (fun k => arcs.length - k) 0 ⟨by omega, ⟨by simp⟩⟩ ?_ ?_
  · simp -implicitDefEqProofs only [zL, List.getElem?_cons_zero, ↓reduceIte, Nat.reduceEqDiff, reduceCtorEq, zV, leE, leH, leB, leV, leVs, keepP, liveP, wfE, wfB, wfV, wfL, Bool.and_self, and_self, leVs, leV, Int.natCast_zero]
  rintro k ⟨hk, hv⟩
  simp -implicitDefEqProofs only [qE, qF, qI, qJ, qK, qM, qN, qO, qP, qR, qV, qX, qY, qZ, za, zF, zH, zI, zL, ofConst, List.length_nil, List.length_cons, zM, List.getD_eq_getElem?_getD, List.getElem?_cons_zero, ↓reduceIte, Nat.reduceEqDiff, Option.getD_some, zN, zP, List.nil_append, List.append_nil, Nat.zero_add, zU, resP, tupV, List.reverse_cons, List.reverse_nil, zV, leE, leH, leB, leV, leVs, keepP, liveP, wfE, wfB, wfV, wfL, Bool.and_true, Bool.and_self, true_and, and_true, and_self, V.v.injEq, Value.int.injEq, Value.bool.injEq, List.length_map, lg0, jg, ↓jh, ↓jj, ↓jk, ↓jl, ↓jo, ↓jv, ↓jx, ↓jz, ↓jE, ↓qaB, ↓qaJ, ↓qaL, List.length_map, List.getElem_map, enc_2, Int.toNat_natCast]
  simp only [br, decide_eq_true_eq, decide_eq_false_iff_not]
  refine fun _ => ⟨fun h3 => ⟨⟨by omega, h3⟩, by omega, fun h4 => ?_, fun h4 => ⟨by simp only [lo, hi, maxLen] at *; omega, k + 1, ⟨⟨by omega, ⟨fun j hj h2 => ?_⟩⟩, by omega⟩, by simp⟩⟩, fun h3 => ?_⟩
  · have : (arcs.all fun a => decide (a.cap ≤ most)) = false := by
      rw [List.all_eq_false]
      exact ⟨_, List.getElem_mem (by omega : k < arcs.length), by simpa using h4⟩
    simp [fewB, this]
  · by_cases h5 : j = k
    · subst h5; omega
    · exact hv.h j hj (by omega)
  · have : (arcs.all fun a => decide (a.cap ≤ most)) = true := by
      rw [List.all_eq_true]
      intro a ha
      obtain ⟨j, hj, rfl⟩ := List.getElem_of_mem ha
      simpa using hv.h j hj (by omega)
    have h6 : n ≤ 12 ∧ arcs.length ≤ 30 ∧ checkI n arcs = 0 := by omega
    simp [fewB, this, h6]
end Go.Fx.C
namespace Go.Fx.C
open Go Go.Fx Go.Proofs
set_option maxRecDepth 20000
/-- A flow. -/
structure OkF (n : Int) (arcs : List Arc) (f t : Int) (flow : List Int) : Prop where
  hl : flow.length = arcs.length
  hp : possP arcs flow
  hz : ∀ j : Int, 0 ≤ j → j < n → j ≠ f → j ≠ t → valTo arcs j flow arcs.length = 0
open Classical in
noncomputable def flB (n : Int) (arcs : List Arc) (f t : Int) (flow : List Int) : Bool := decide (OkF n arcs f t flow)
theorem flB_t {n : Int} {arcs : List Arc} {f t : Int} {flow : List Int} (h : OkF n arcs f t flow) : true = flB n arcs f t flow := by simp [flB, h]
theorem flB_f {n : Int} {arcs : List Arc} {f t : Int} {flow : List Int} (h : ¬ OkF n arcs f t flow) : false = flB n arcs f t flow := by simp [flB, h]
structure PInv (arcs : List Arc) (flow : List Int) (k : Nat) : Prop where
  h : ∀ j (h1 : j < flow.length) (h2 : j < arcs.length), j < k → 0 ≤ flow[j] ∧ flow[j] ≤ arcs[j].cap
structure ZInv (arcs : List Arc) (f t : Int) (flow : List Int) (k : Nat) : Prop where
  h : ∀ j : Nat, j < k → ((j : Int) ≠ f → (j : Int) ≠ t → valTo arcs j flow arcs.length = 0)
theorem ok20 (N : Nat) (arcs : List Arc) (f t : Int) (flow : List Int) (hV : Val N arcs) : Ok 20 [net N arcs, .i f, .i t, li flow] (Is (.b (flB N arcs f t flow))) := by
  refine ok_of lw20 (by simp) ?_
  unfold c20 net li
  simp -implicitDefEqProofs only [qE, qF, qI, qJ, qK, qL, qN, qO, qP, qR, qT, qV, qX, qZ, za, zF, zH, zI, zL, ofConst, cells?, List.length_nil, List.length_cons, List.set_cons_zero, zM, List.getD_eq_getElem?_getD, List.getElem?_cons_zero, ↓reduceIte, Nat.reduceEqDiff, Option.getD_some, zN, zP, List.nil_append, List.append_nil, Nat.zero_add, Nat.reduceAdd, Nat.add_zero, reduceCtorEq, freshP, zU, resP, tupV, List.reverse_cons, List.reverse_nil, wfV, true_and, V.v.injEq, Value.int.injEq, Value.bool.injEq, List.length_map, lg0, zZ, jg, ↓jh, ↓jj, ↓jl, ↓jo, ↓jv, ↓jE, ↓qaI, List.length_map, cxN, args0]
  simp only [br, decide_eq_true_eq, decide_eq_false_iff_not, bne_iff_ne, bne_eq_false_iff_eq]
  refine fun hm1 hm2 => ⟨fun h => flB_f fun hO => ?_, fun h => ?_⟩
  · have := hO.hl; omega
  have hl : flow.length = arcs.length := by omega
  have hL := hV.hl
  have hN := hV.hn
  refine loopP_intro (fun k : Nat => ⟨[(9, .i k), (4, .ptr 0 0 0), (3, .ro 1 (flow.map encI)), (2, .i t), (1, .i f)], [.var [.i N, .ro 4 (arcs.map Arc.enc)]], 0⟩) (fun k => k ≤ arcs.length ∧ PInv arcs flow k) (fun k => arcs.length - k) 0 ⟨by omega, ⟨by simp⟩⟩ ?_ ?_
  · simp -implicitDefEqProofs only [zL, List.getElem?_cons_zero, ↓reduceIte, Nat.reduceEqDiff, reduceCtorEq, zV, leE, leH, leB, leV, leVs, keepP, liveP, wfE, wfB, wfV, wfL, Bool.and_self, and_self, leVs, leV, Int.natCast_zero]
  rintro k ⟨hk, hv⟩
  simp -implicitDefEqProofs only [qE, qF, qH, qI, qJ, qK, qL, qM, qN, qO, qP, qQ, qR, qS, qV, qX, qY, qZ, za, zF, zH, zI, zL, ofConst, List.length_nil, List.length_cons, zM, List.getD_eq_getElem?_getD, List.getElem?_cons_zero, ↓reduceIte, Nat.reduceEqDiff, Option.getD_some, zN, zP, Bool.not_false, ↓zQ, ↓zR, zS, List.nil_append, List.append_nil, Nat.zero_add, zU, resP, tupV, List.reverse_cons, List.reverse_nil, zV, leE, leH, leB, leV, leVs, keepP, liveP, wfE, wfB, wfV, wfL, Bool.and_true, Bool.and_self, true_and, and_true, and_self, V.v.injEq, Value.int.injEq, Value.bool.injEq, List.length_map, Bool.false_eq_true, lg0, jg, ↓jh, ↓jj, ↓jk, ↓jl, ↓jo, ↓jv, ↓jx, ↓jz, ↓jE, ↓qaB, ↓qaJ, ↓qaL, List.length_map, List.getElem_map, enc_2, encI_0, Int.toNat_natCast]
  simp only [br, decide_eq_true_eq, decide_eq_false_iff_not]
  refine fun _ => ⟨fun h2 => ?_, fun h2 => ?_⟩
  · have hk1 : k < arcs.length := by omega
    have hk2 : k < flow.length := by omega
    have bad : ¬ (0 ≤ flow[k] ∧ flow[k] ≤ arcs[k].cap) → false = flB N arcs f t flow := fun h => flB_f fun hO => h (hO.hp k hk2 hk1)
    have good : (0 ≤ flow[k] ∧ flow[k] ≤ arcs[k].cap) → PInv arcs flow (k + 1) := by
      refine fun hx => ⟨fun j h3 h4 h5 => ?_⟩
      by_cases h6 : j = k
      · subst h6; exact hx
      · exact hv.h j h3 h4 (by omega)
    simp only [lo, hi, maxLen] at *
    repeat' (first | (refine ⟨(k+1 : _), ?_⟩) | (refine ⟨by omega, ?_⟩) | (refine And.intro ?_ ?_) | (refine (fun _ => ?_)))
    all_goals first | omega | (apply bad; omega) | (apply good; omega)
  have hp : possP arcs flow := fun i h3 h4 => hv.h i h3 h4 (by omega)
  have hf := hV.flow hl hp
  refine loopP_intro (fun k : Nat => ⟨[(10, .i k), (4, .ptr 0 0 0), (3, .ro 1 (flow.map encI)), (2, .i t), (1, .i f)], [.var [.i N, .ro 4 (arcs.map Arc.enc)]], 0⟩) (fun k => k ≤ N ∧ ZInv arcs f t flow k) (fun k => N - k) 0 ⟨by omega, ⟨by simp⟩⟩ ?_ ?_
  · simp -implicitDefEqProofs only [zL, List.getElem?_cons_zero, ↓reduceIte, Nat.reduceEqDiff, zV, leE, leH, leB, leV, leVs, keepP, liveP, wfE, wfB, wfV, wfL, Bool.and_self, and_self, leVs, leV, Int.natCast_zero]
  rintro k ⟨hk, hv⟩
  simp -implicitDefEqProofs only [qE, qF, qI, qJ, qK, qM, qN, qO, qP, qQ, qR, qS, qV, qX, qZ, zB, zF, zH, zI, zL, ofConst, List.length_nil, List.length_cons, zM, List.getD_eq_getElem?_getD, List.getElem?_cons_zero, ↓reduceIte, Nat.reduceEqDiff, Option.getD_some, zN, zP, Bool.not_true, ↓zQ, ↓zR, zS, List.nil_append, List.append_nil, Nat.zero_add, Nat.reduceAdd, Nat.add_zero, zU, resP, tupV, List.reverse_cons, List.reverse_nil, zV, leE, leH, leB, leV, leVs, keepP, liveP, wfE, wfB, wfV, wfL, List.map_cons, List.map_nil, List.drop_zero, List.take_nil, Bool.and_true, Bool.and_self, true_and, and_true, and_self, V.v.injEq, Value.int.injEq, Value.bool.injEq, Nat.le_refl, zY, ke, jg, ↓jh, ↓jj, ↓jl, ↓jo, ↓jp, ↓jv, ↓qaB, ↓qaI, ↓qaJ]
  simp only [br, decide_eq_true_eq, decide_eq_false_iff_not, bne_iff_ne, bne_eq_false_iff_eq]
  have hnx : ((k : Int) ≠ f → (k : Int) ≠ t → valTo arcs k flow arcs.length = 0) → ZInv arcs f t flow (k + 1) := by
    refine fun h4 => ⟨fun j hj => ?_⟩
    by_cases h6 : j = k
    · subst h6; exact h4
    · exact hv.h j (by omega)
  refine ⟨fun h3 => ⟨fun h1 => ⟨fun h2 => ?_, fun h2 => ?_⟩, fun h1 => ?_⟩, fun h3 => ?_⟩
  · refine call_is (ok21 N k arcs flow hl (by omega) hf) (by simp [net, li, lendsOk, lendOk, lends, lend, wkL, wk, wkR]) rfl trivial ?_
    simp -implicitDefEqProofs only [qE, qF, qI, qJ, qN, qO, qP, qQ, qR, qS, qZ, zF, zH, zI, zL, ofConst, List.length_nil, List.length_cons, List.getElem?_cons_zero, ↓reduceIte, Nat.reduceEqDiff, zN, zP, ↓zQ, zS, List.nil_append, List.append_nil, Nat.zero_add, zU, resP, tupV, List.reverse_cons, List.reverse_nil, zV, leE, leH, leB, leV, leVs, keepP, liveP, wfE, wfB, wfV, wfL, Bool.and_true, Bool.and_self, true_and, and_true, and_self, V.v.injEq, Value.int.injEq, Value.bool.injEq, jg, ↓qaB, ↓qaI]
    simp only [br, decide_eq_true_eq, decide_eq_false_iff_not, bne_iff_ne, bne_eq_false_iff_eq, lo, hi]
    refine ⟨fun h5 => flB_f fun hO => h5 (hO.hz k (by omega) (by omega) h1 h2), fun h5 => ?_⟩
    repeat' (first | (refine ⟨(k+1 : _), ?_⟩) | (refine ⟨by omega, ?_⟩) | (refine And.intro ?_ ?_) | (refine (fun _ => ?_)))
    all_goals first | omega | exact hnx fun _ _ => h5
  · simp only [lo, hi]
    repeat' (first | (refine ⟨(k+1 : _), ?_⟩) | (refine ⟨by omega, ?_⟩) | (refine And.intro ?_ ?_) | (refine (fun _ => ?_)))
    all_goals first | omega | exact hnx fun _ h => absurd h2 h
  · simp only [lo, hi]
    repeat' (first | (refine ⟨(k+1 : _), ?_⟩) | (refine ⟨by omega, ?_⟩) | (refine And.intro ?_ ?_) | (refine (fun _ => ?_)))
    all_goals first | omega | exact hnx fun h _ => absurd h1 h
  · refine flB_t ⟨hl, hp, fun j h1 h2 h4 h6 => ?_⟩
    have := (hv.h j.toNat (by omega))
    rw [Int.toNat_of_nonneg h1] at this
    exact this h4 h6
def hasB (l : List Int) (x : Int) : Bool := decide (x ∈ l)
structure NInv (l : List Int) (x : Int) (k : Nat) : Prop where
  h : ∀ j (h1 : j < l.length), j < k → l[j] ≠ x
theorem ok45 (l : List Int) (x : Int) : Ok 45 [li l, .i x] (Is (.b (hasB l x))) := by
  refine ok_of lw45 (by simp) ?_
  unfold c45 li
  simp -implicitDefEqProofs only [qF, qI, qK, qL, qO, qP, qR, zF, zI, ofConst, List.length_nil, List.append_nil, Nat.zero_add, jg, cxN, args0]
  refine loopP_intro (fun k : Nat => ⟨[(5, .i k), (1, .i x), (0, .ro 1 (l.map encI))], [], 0⟩) (fun k => k ≤ l.length ∧ NInv l x k) (fun k => l.length - k) 0 ⟨by omega, ⟨by simp⟩⟩ ?_ ?_
  · simp -implicitDefEqProofs only [zL, ↓reduceIte, Nat.reduceEqDiff, reduceCtorEq, zV, leE, leH, keepP, wfE, wfB, wfV, Bool.and_self, and_self, Int.natCast_zero]
  rintro k ⟨hk, hv⟩
  simp -implicitDefEqProofs only [qE, qF, qI, qJ, qK, qM, qN, qO, qP, qR, qV, qY, qZ, za, zF, zH, zI, zL, ofConst, List.length_nil, ↓reduceIte, Nat.reduceEqDiff, zN, zP, List.nil_append, List.append_nil, reduceCtorEq, zU, resP, tupV, List.reverse_cons, List.reverse_nil, zV, leE, leH, keepP, wfE, wfB, wfV, Bool.and_true, Bool.and_self, true_and, and_true, and_self, V.v.injEq, Value.int.injEq, Value.bool.injEq, List.length_map, jg, ↓jh, ↓jk, ↓jo, ↓jz, ↓jE, ↓qaB, ↓qaH, ↓qaJ, List.length_map, List.getElem_map, encI_0, Int.toNat_natCast]
  simp only [br, decide_eq_true_eq, decide_eq_false_iff_not, beq_iff_eq, beq_eq_false_iff_ne]
  refine fun _ => ⟨fun h2 => ⟨⟨by omega, h2⟩, by omega, fun h3 => ?_, fun h3 => ⟨by simp only [lo, hi, maxLen] at *; omega, k + 1, ⟨⟨by omega, ⟨fun j hj h2 => ?_⟩⟩, by omega⟩, by simp⟩⟩, fun h2 => ?_⟩
  · have : x ∈ l := by rw [← h3]; exact List.getElem_mem _
    simp [hasB, this]
  · by_cases h6 : j = k
    · subst h6; exact h3
    · exact hv.h j hj (by omega)
  · have : ¬ x ∈ l := by
      intro hx
      obtain ⟨j, hj, rfl⟩ := List.getElem_of_mem hx
      exact hv.h j hj (by omega) rfl
    simp [hasB, this]
/-- Prices that show that a flow is a cheapest one. -/
structure OkP (N : Nat) (arcs : List Arc) (f : Int) (flow price : List Int) : Prop where
  hl : price.length = N
  h0 : price.getD f.toNat 0 = 0
  hb : ∀ j (h : j < price.length), 0 ≤ price[j] ∧ price[j] ≤ 1073741824
  ha : ∀ k (h : k < arcs.length), (arcs[k].cost + price.getD arcs[k].from_.toNat 0 - price.getD arcs[k].to.toNat 0 < 0 → arcs[k].cap ≤ flow.getD k 0) ∧ (0 < arcs[k].cost + price.getD arcs[k].from_.toNat 0 - price.getD arcs[k].to.toNat 0 → flow.getD k 0 ≤ 0)
open Classical in
noncomputable def prB (N : Nat) (arcs : List Arc) (f : Int) (flow price : List Int) : Bool := decide (OkP N arcs f flow price)
theorem prB_t {N : Nat} {arcs : List Arc} {f : Int} {flow price : List Int} (h : OkP N arcs f flow price) : true = prB N arcs f flow price := by simp [prB, h]
theorem prB_f {N : Nat} {arcs : List Arc} {f : Int} {flow price : List Int} (h : ¬ OkP N arcs f flow price) : false = prB N arcs f flow price := by simp [prB, h]
theorem getD_at {l : List Int} {i : Int} (h : 0 ≤ i ∧ i < l.length) : l.getD i.toNat 0 = l[i.toNat]'(by omega) := by
  rw [List.getD_eq_getElem?_getD, List.getElem?_eq_getElem (by omega)]; rfl
theorem getD_nat {l : List Int} {k : Nat} (h : k < l.length) : l.getD k 0 = l[k] := by
  rw [List.getD_eq_getElem?_getD, List.getElem?_eq_getElem h]; rfl
structure BInv (price : List Int) (k : Nat) : Prop where
  h : ∀ j (h : j < price.length), j < k → 0 ≤ price[j] ∧ price[j] ≤ 1073741824
structure RInv (arcs : List Arc) (flow price : List Int) (k : Nat) : Prop where
  h : ∀ k' (h : k' < arcs.length), k' < k → (arcs[k'].cost + price.getD arcs[k'].from_.toNat 0 - price.getD arcs[k'].to.toNat 0 < 0 → arcs[k'].cap ≤ flow.getD k' 0) ∧ (0 < arcs[k'].cost + price.getD arcs[k'].from_.toNat 0 - price.getD arcs[k'].to.toNat 0 → flow.getD k' 0 ≤ 0)
theorem RInv.next {arcs : List Arc} {flow price : List Int} {k : Nat} (hv : RInv arcs flow price k) (hk : k < arcs.length) (h : (arcs[k].cost + price.getD arcs[k].from_.toNat 0 - price.getD arcs[k].to.toNat 0 < 0 → arcs[k].cap ≤ flow.getD k 0) ∧ (0 < arcs[k].cost + price.getD arcs[k].from_.toNat 0 - price.getD arcs[k].to.toNat 0 → flow.getD k 0 ≤ 0)) : RInv arcs flow price (k + 1) := by
  refine ⟨fun j hj h2 => ?_⟩
  by_cases h6 : j = k
  · subst h6; exact h
  · exact hv.h j hj (by omega)
theorem ok33 (N : Nat) (arcs : List Arc) (f : Int) (fr : Fr) (hV : Val N arcs) (hf : 0 ≤ f ∧ f < N) (hl : fr.flow.length = arcs.length) : Ok 33 [net N arcs, .i f, fr.enc] (Is (.b (prB N arcs f fr.flow fr.price))) := by
  refine ok_of lw33 (by simp) ?_
  unfold c33 net Fr.enc li
  simp -implicitDefEqProofs only [qE, qF, qI, qJ, qK, qL, qN, qO, qP, qQ, qR, qS, qT, qV, qX, qY, qZ, za, zF, zH, zI, zL, ofConst, cells?, List.length_nil, List.length_cons, List.set_cons_zero, zM, List.getD_eq_getElem?_getD, List.getElem?_cons_zero, ↓reduceIte, Nat.reduceEqDiff, Option.getD_some, zN, zP, Bool.not_false, ↓zQ, ↓zR, zS, List.nil_append, List.append_nil, Nat.zero_add, Nat.reduceAdd, Nat.add_zero, reduceCtorEq, freshP, zU, resP, tupV, List.reverse_cons, List.reverse_nil, wfV, true_and, V.v.injEq, Value.int.injEq, Value.bool.injEq, List.length_map, Bool.false_eq_true, lg0, zW, zZ, lg1, kf, lg2, jg, ↓jh, ↓jj, ↓jk, ↓jl, ↓jo, ↓jv, ↓jz, ↓jE, ↓qaI, List.length_map, List.getElem_map, encI_0, cxN, args0]
  simp only [br, decide_eq_true_eq, decide_eq_false_iff_not, bne_iff_ne, bne_eq_false_iff_eq]
  have hL := hV.hl
  have hN := hV.hn
  refine fun hm1 => ⟨fun h => prB_f fun hO => ?_, fun h => ?_⟩
  · have := hO.hl; omega
  have hpl : fr.price.length = N := by omega
  refine ⟨⟨hf.1, by omega⟩, by omega, fun h0 => prB_f fun hO => ?_, fun h0 => ?_⟩
  · have := hO.h0
    rw [getD_at (by omega)] at this
    exact h0 this
  refine loopP_intro (fun k : Nat => ⟨[(7, .i k), (5, .ptr 1 0 0), (3, .ptr 0 0 0), (1, .i f)], [.var [.i N, .ro 4 (arcs.map Arc.enc)], .var [.i fr.sent, .i fr.cost, .ro 1 (fr.flow.map encI), .ro 1 (fr.price.map encI), .ro 1 (fr.cut.map encI)]], 0⟩) (fun k => k ≤ N ∧ BInv fr.price k) (fun k => N - k) 0 ⟨by omega, ⟨by simp⟩⟩ ?_ ?_
  · simp -implicitDefEqProofs only [zL, List.getElem?_cons_zero, ↓reduceIte, Nat.reduceEqDiff, reduceCtorEq, zV, leE, leH, leB, leV, leVs, keepP, liveP, wfE, wfB, wfV, wfL, Bool.and_self, and_self, lg0, leVs, leV, Int.natCast_zero]
  rintro k ⟨hk, hv⟩
  simp -implicitDefEqProofs only [qE, qF, qI, qJ, qK, qL, qM, qN, qO, qP, qQ, qR, qS, qV, qX, qY, qZ, zF, zH, zI, zL, ofConst, List.length_nil, List.length_cons, zM, List.getD_eq_getElem?_getD, List.getElem?_cons_zero, ↓reduceIte, Nat.reduceEqDiff, Option.getD_some, zN, zP, Bool.not_false, ↓zQ, ↓zR, zS, List.nil_append, List.append_nil, Nat.zero_add, Nat.reduceAdd, Nat.add_zero, zU, resP, tupV, List.reverse_cons, List.reverse_nil, zV, leE, leH, leB, leV, leVs, keepP, liveP, wfE, wfB, wfV, wfL, Bool.and_true, Bool.and_self, true_and, and_true, and_self, V.v.injEq, Value.int.injEq, Value.bool.injEq, List.length_map, Bool.false_eq_true, lg0, lg1, lg2, jg, ↓jh, ↓jj, ↓jk, ↓jl, ↓jo, ↓jv, ↓jz, ↓qaB, ↓qaJ, ↓qaL, List.length_map, List.getElem_map, encI_0, Int.toNat_natCast]
  simp only [br, decide_eq_true_eq, decide_eq_false_iff_not]
  refine ⟨fun h2 => ?_, fun h2 => ?_⟩
  · have hk1 : k < fr.price.length := by omega
    have bad : ¬ (0 ≤ fr.price[k] ∧ fr.price[k] ≤ 1073741824) → false = prB N arcs f fr.flow fr.price := fun h => prB_f fun hO => h (hO.hb k hk1)
    have good : (0 ≤ fr.price[k] ∧ fr.price[k] ≤ 1073741824) → BInv fr.price (k + 1) := by
      refine fun hx => ⟨fun j h3 h5 => ?_⟩
      by_cases h6 : j = k
      · subst h6; exact hx
      · exact hv.h j h3 (by omega)
    simp only [lo, hi, maxLen] at *
    repeat' (first | (refine ⟨(k+1 : _), ?_⟩) | (refine ⟨by omega, ?_⟩) | (refine And.intro ?_ ?_) | (refine (fun _ => ?_)))
    all_goals first | omega | (apply bad; omega) | (apply good; omega)
  have hb : ∀ j (h : j < fr.price.length), 0 ≤ fr.price[j] ∧ fr.price[j] ≤ 1073741824 := fun j hj => hv.h j hj (by omega)
  refine loopP_intro (fun k : Nat => ⟨[(8, .i k), (5, .ptr 1 0 0), (3, .ptr 0 0 0), (1, .i f)], [.var [.i N, .ro 4 (arcs.map Arc.enc)], .var [.i fr.sent, .i fr.cost, .ro 1 (fr.flow.map encI), .ro 1 (fr.price.map encI), .ro 1 (fr.cut.map encI)]], 0⟩) (fun k => k ≤ arcs.length ∧ RInv arcs fr.flow fr.price k) (fun k => arcs.length - k) 0 ⟨by omega, ⟨by simp⟩⟩ ?_ ?_
  · simp -implicitDefEqProofs only [zL, List.getElem?_cons_zero, ↓reduceIte, Nat.reduceEqDiff, zV, leE, leH, leB, leV, leVs, keepP, liveP, wfE, wfB, wfV, wfL, Bool.and_self, and_self, lg0, leVs, leV, Int.natCast_zero]
  rintro k ⟨hk, hv⟩
  simp -implicitDefEqProofs only [qE, qF, qH, qI, qJ, qK, qM, qN, qO, qP, qQ, qR, qS, qU, qV, qW, qX, qY, qZ, za, zF, zG, zH, zI, zL, ofConst, cells?, List.length_nil, List.length_cons, List.set_cons_zero, splice, zM, List.getD_eq_getElem?_getD, List.getElem?_cons_zero, ↓reduceIte, Nat.reduceEqDiff, Option.getD_some, zN, zP, Bool.not_true, Bool.not_false, ↓zQ, ↓zR, zS, zT, List.nil_append, List.cons_append, List.append_nil, Nat.zero_add, Nat.reduceAdd, Nat.add_zero, freshP, zU, resP, tupV, List.reverse_cons, List.reverse_nil, zV, leE, leH, leB, leV, leVs, keepP, liveP, wfE, wfB, wfV, wfL, List.map_cons, List.map_nil, List.drop_zero, List.take_zero, List.drop_nil, Bool.and_true, Bool.and_self, true_and, and_true, and_self, V.v.injEq, Value.int.injEq, Value.bool.injEq, List.not_mem_nil, List.length_map, not_false_eq_true, Bool.false_eq_true, Nat.le_refl, lg0, zW, zX, zZ, lg1, ka, kc, lg2, kh, kn, jg, ↓jh, ↓jj, ↓jk, ↓jl, ↓jo, ↓jp, ↓jq, ↓jr, ↓jv, ↓jz, ↓jE, ↓qaB, ↓qaD, ↓qaJ, ↓qaL, List.length_map, List.getElem_map, enc_len, enc_take, enc_0, enc_1, enc_2, enc_3, enc_isC, encI_0, Int.toNat_natCast]
  simp only [br, decide_eq_true_eq, decide_eq_false_iff_not]
  refine fun hm2 => ⟨fun h2 => ?_, fun h2 => ?_⟩
  · have hk1 : k < arcs.length := by omega
    have hk2 : k < fr.flow.length := by omega
    have hva := hV.ha arcs[k] (List.getElem_mem hk1)
    have b1 := hb arcs[k].from_.toNat (by omega)
    have b2 := hb arcs[k].to.toNat (by omega)
    have bad : ¬ (_ ∧ _) → false = prB N arcs f fr.flow fr.price := fun h => prB_f fun hO => h (hO.ha k hk1)
    have good := hv.next hk1
    rw [getD_at (by omega), getD_at (by omega), getD_nat hk2] at bad good
    simp only [lo, hi, maxLen] at *
    repeat' (first | (refine ⟨(k+1 : _), ?_⟩) | (refine ⟨by omega, ?_⟩) | (refine And.intro ?_ ?_) | (refine (fun _ => ?_)))
    all_goals first | omega | (apply bad; omega) | (apply good; omega)
  · refine prB_t ⟨hpl, ?_, hb, fun j hj => hv.h j hj (by omega)⟩
    rw [getD_at (by omega)]; exact h0
end Go.Fx.C
namespace Go.Fx.C
open Go Go.Fx Go.Proofs
set_option maxRecDepth 20000
/-- Nodes, from the least on. -/
structure OkS (n : Int) (cut : List Int) (k : Nat) : Prop where
  h : ∀ j (h : j < cut.length), j < k → (0 ≤ cut[j] ∧ cut[j] < n) ∧ (0 < j → cut.getD (j - 1) 0 < cut[j])
theorem OkS.next {n : Int} {cut : List Int} {k : Nat} (hv : OkS n cut k) (hk : k < cut.length) (h : (0 ≤ cut[k] ∧ cut[k] < n) ∧ (0 < k → cut.getD (k - 1) 0 < cut[k])) : OkS n cut (k + 1) := by
  refine ⟨fun j hj h2 => ?_⟩
  by_cases h6 : j = k
  · subst h6; exact h
  · exact hv.h j hj (by omega)
/-- Arcs that leave a cut are full, those that come back are empty. -/
structure OkA (arcs : List Arc) (flow : List Int) (cut : List Int) (k : Nat) : Prop where
  h : ∀ j (h : j < arcs.length), j < k → (hasB cut arcs[j].from_ = true → hasB cut arcs[j].to = false → flow.getD j 0 = arcs[j].cap) ∧ (hasB cut arcs[j].to = true → hasB cut arcs[j].from_ = false → flow.getD j 0 = 0)
theorem OkA.next {arcs : List Arc} {flow cut : List Int} {k : Nat} (hv : OkA arcs flow cut k) (hk : k < arcs.length) (h : (hasB cut arcs[k].from_ = true → hasB cut arcs[k].to = false → flow.getD k 0 = arcs[k].cap) ∧ (hasB cut arcs[k].to = true → hasB cut arcs[k].from_ = false → flow.getD k 0 = 0)) : OkA arcs flow cut (k + 1) := by
  refine ⟨fun j hj h2 => ?_⟩
  by_cases h6 : j = k
  · subst h6; exact h
  · exact hv.h j hj (by omega)
structure OkC (n : Int) (arcs : List Arc) (f t : Int) (flow cut : List Int) : Prop where
  hs : OkS n cut cut.length
  hf : hasB cut f = true
  ht : hasB cut t = false
  ha : OkA arcs flow cut arcs.length
open Classical in
noncomputable def cuB (n : Int) (arcs : List Arc) (f t : Int) (flow cut : List Int) : Bool := decide (OkC n arcs f t flow cut)
theorem cuB_t {n : Int} {arcs : List Arc} {f t : Int} {flow cut : List Int} (h : OkC n arcs f t flow cut) : true = cuB n arcs f t flow cut := by simp [cuB, h]
theorem cuB_f {n : Int} {arcs : List Arc} {f t : Int} {flow cut : List Int} (h : ¬ OkC n arcs f t flow cut) : false = cuB n arcs f t flow cut := by simp [cuB, h]
def frB (fr : Fr) : Blk := .var [.i fr.sent, .i fr.cost, .ro 1 (fr.flow.map encI), .ro 1 (fr.price.map encI), .ro 1 (fr.cut.map encI)]
theorem ok34 (N : Nat) (arcs : List Arc) (f t : Int) (fr : Fr) (hV : Val N arcs) (hl : fr.flow.length = arcs.length) : Ok 34 [net N arcs, .i f, .i t, fr.enc] (Is (.b (cuB N arcs f t fr.flow fr.cut))) := by
  refine ok_of lw34 (by simp) ?_
  unfold c34 net Fr.enc li
  simp -implicitDefEqProofs only [qF, qI, qK, qL, qO, qP, qR, qT, zF, zH, zI, zL, ofConst, cells?, List.length_nil, List.length_cons, List.set_cons_zero, List.getElem?_cons_zero, ↓reduceIte, Nat.reduceEqDiff, List.nil_append, List.append_nil, Nat.zero_add, Nat.reduceAdd, Nat.add_zero, reduceCtorEq, freshP, true_and, lg0, zW, zZ, kf, jg, ↓jh, cxN, args0]
  have hL := hV.hl
  have hN := hV.hn
  refine loopP_intro (fun k : Nat => ⟨[(9, .i k), (7, .ptr 1 0 0), (4, .ptr 0 0 0), (2, .i t), (1, .i f)], [.var [.i N, .ro 4 (arcs.map Arc.enc)], frB fr], 0⟩) (fun k => k ≤ fr.cut.length ∧ OkS N fr.cut k) (fun k => fr.cut.length - k) 0 ⟨by omega, ⟨by simp⟩⟩ ?_ ?_
  · simp -implicitDefEqProofs only [zL, List.getElem?_cons_zero, ↓reduceIte, Nat.reduceEqDiff, reduceCtorEq, zV, leE, leH, leB, leV, leVs, keepP, liveP, wfE, wfB, wfV, wfL, Bool.and_self, and_self, lg0, leVs, leV, Int.natCast_zero, frB]
  rintro k ⟨hk, hv⟩
  simp -implicitDefEqProofs only [qa, qc, qd, qw, rdK, qx, qz, qA, qC, qE, qF, qI, qJ, qK, qM, qO, qP, qR, qV, qX, qY, qZ, za, zB, zF, zH, zL, List.length_nil, List.length_cons, zM, List.getD_eq_getElem?_getD, List.getElem?_cons_zero, ↓reduceIte, Nat.reduceEqDiff, Option.getD_some, zN, zP, List.append_nil, Nat.zero_add, Nat.reduceAdd, List.map_cons, List.map_nil, List.drop_zero, List.take_nil, Bool.and_true, true_and, and_true, List.length_map, Bool.false_eq_true, Nat.le_refl, lg0, zY, lg1, ke, lg2, lg3, jg, ↓jh, ↓jj, ↓jk, ↓jl, ↓jo, ↓jp, ↓jv, ↓jz, ↓jE, ↓qaJ, List.length_map, List.getElem_map, encI_0, Int.toNat_natCast, frB]
  simp only [br, decide_eq_true_eq, decide_eq_false_iff_not]
  refine fun hm1 => ⟨fun h2 => ?_, fun h2 => ?_⟩
  · have hk1 : k < fr.cut.length := by omega
    have good := hv.next hk1
    have bad : ¬ ((0 ≤ fr.cut[k] ∧ fr.cut[k] < N) ∧ (0 < k → fr.cut.getD (k - 1) 0 < fr.cut[k])) → false = cuB N arcs f t fr.flow fr.cut := fun h => cuB_f fun hO => h (hO.hs.h k hk1 hk1)
    refine ⟨⟨by omega, h2⟩, by omega, ?_⟩
    refine call_is (ok24 N arcs fr.cut[k]) (by simp [net, lendsOk, lendOk, lends, lend, wkL, wk, wkR]) rfl trivial ?_
    cases hn : nodeB N fr.cut[k] with
    | false =>
      simp -implicitDefEqProofs only [qa, qb, qc, qd, qe, qi, qw, rdK, qy, qA, qB, qF, qI, qJ, qN, qO, qP, qR, qS, zc, zF, zH, zI, zL, ofConst, List.length_nil, List.length_cons, ↓reduceIte, Nat.reduceEqDiff, zO, zP, Bool.not_false, ↓zQ, zS, zT, List.nil_append, List.append_nil, Nat.zero_add, Nat.reduceAdd, zU, resP, tupV, List.reverse_cons, List.reverse_nil, wfV, true_and, V.v.injEq, Value.int.injEq, Value.bool.injEq, Bool.false_eq_true, jg]
      simp only [nodeB, decide_eq_false_iff_not] at hn
      exact bad fun h => hn h.1
    | true =>
      simp -implicitDefEqProofs only [qa, qb, qc, qd, qe, qi, qw, rdK, qy, qA, qB, qE, qF, qI, qJ, qN, qO, qP, qR, qS, qV, qX, qY, qZ, zc, zF, zH, zI, zL, ofConst, List.length_nil, List.length_cons, zM, List.getD_eq_getElem?_getD, List.getElem?_cons_zero, ↓reduceIte, Nat.reduceEqDiff, Option.getD_some, zN, zO, zP, Bool.not_true, ↓zQ, ↓zR, zS, List.nil_append, List.append_nil, Nat.zero_add, Nat.reduceAdd, zU, resP, tupV, List.reverse_cons, List.reverse_nil, zV, leE, leH, leB, leV, leVs, keepP, liveP, wfE, wfB, wfV, wfL, Bool.and_true, Bool.and_self, true_and, and_true, and_self, V.v.injEq, Value.int.injEq, Value.bool.injEq, List.length_map, Bool.false_eq_true, lg0, lg1, lg2, lg3, jg, ↓jh, ↓jj, ↓jk, ↓jl, ↓jo, ↓jv, ↓jz, ↓qaB, ↓qaD, ↓qaK, ↓qaL, List.length_map, List.getElem_map, encI_0, Int.toNat_natCast]
      simp only [nodeB, decide_eq_true_eq] at hn
      have hp : 0 < k → fr.cut.getD (k - 1) 0 = fr.cut[((k : Int) - 1).toNat]'(by omega) := by
        intro h0
        have e1 : ((k : Int) - 1).toNat = k - 1 := by omega
        simp only [e1]
        exact getD_nat (by omega)
      simp only [br, decide_eq_true_eq, decide_eq_false_iff_not, lo, hi, maxLen] at *
      repeat' (first | (refine ⟨(k+1 : _), ?_⟩) | (refine ⟨by omega, ?_⟩) | (refine And.intro ?_ ?_) | (refine (fun _ => ?_)))
      all_goals first | omega | (apply bad; rintro ⟨_, h4⟩; have h4 := h4 (by omega); rw [hp (by omega)] at h4; omega) | (apply good; refine ⟨hn, fun h0 => ?_⟩; rw [hp h0]; omega) | (apply good; refine ⟨hn, fun h0 => ?_⟩; omega)
  have hs : OkS N fr.cut fr.cut.length := ⟨fun j h _ => hv.h j h (by omega)⟩
  refine call_is (ok45 fr.cut f) (by simp [li, lendsOk, lendOk, lends, lend, wkL, wk, wkR]) rfl trivial ?_
  cases hf : hasB fr.cut f with
  | false =>
    simp -implicitDefEqProofs only [qF, qI, qJ, qN, qO, qP, qQ, qR, qS, zc, zF, zH, zI, zL, ofConst, List.length_nil, List.length_cons, ↓reduceIte, Nat.reduceEqDiff, zO, zP, Bool.not_false, ↓zQ, zS, List.nil_append, List.append_nil, Nat.zero_add, Nat.reduceAdd, zU, resP, tupV, List.reverse_cons, List.reverse_nil, wfV, true_and, V.v.injEq, Value.int.injEq, Value.bool.injEq, Bool.false_eq_true, jg]
    exact cuB_f fun hO => by have := hO.hf; rw [hf] at this; cases this
  | true =>
  simp -implicitDefEqProofs only [qP, qQ, qR, qV, qX, zc, zB, zF, zH, zL, zM, List.getD_eq_getElem?_getD, List.getElem?_cons_zero, ↓reduceIte, Nat.reduceEqDiff, Option.getD_some, zO, Bool.not_true, ↓zR, zS, Nat.zero_add, List.map_cons, List.map_nil, Bool.false_eq_true, lg0, lg1, lg2, lg3, ↓jh, ↓jj, ↓jl, ↓jo, ↓jv]
  refine call_is (ok45 fr.cut t) (by simp [li, lendsOk, lendOk, lends, lend, wkL, wk, wkR]) rfl trivial ?_
  cases ht : hasB fr.cut t with
  | true =>
    simp -implicitDefEqProofs only [qF, qI, qJ, qN, qO, qP, qR, qS, zF, zH, zI, zL, ofConst, List.length_nil, List.length_cons, ↓reduceIte, Nat.reduceEqDiff, zP, ↓zQ, ↓zR, List.nil_append, List.append_nil, Nat.zero_add, Nat.reduceAdd, zU, resP, tupV, List.reverse_cons, List.reverse_nil, wfV, true_and, V.v.injEq, Value.int.injEq, Value.bool.injEq, jg]
    exact cuB_f fun hO => by have := hO.ht; rw [ht] at this; cases this
  | false =>
  simp -implicitDefEqProofs only [qE, qF, qI, qJ, qK, qL, qO, qP, qR, qS, zF, zH, zI, zL, ofConst, List.length_nil, List.length_cons, ↓reduceIte, Nat.reduceEqDiff, zP, ↓zR, List.append_nil, Nat.zero_add, Nat.reduceAdd, jg]
  refine loopP_intro (fun k : Nat => ⟨[(10, .i k), (7, .ptr 1 0 0), (4, .ptr 0 0 0)], [.var [.i N, .ro 4 (arcs.map Arc.enc)], frB fr], 0⟩) (fun k => k ≤ arcs.length ∧ OkA arcs fr.flow fr.cut k) (fun k => arcs.length - k) 0 ⟨by omega, ⟨by simp⟩⟩ ?_ ?_
  · simp -implicitDefEqProofs only [zL, List.getElem?_cons_zero, ↓reduceIte, Nat.reduceEqDiff, zV, leE, leH, leB, leV, leVs, keepP, liveP, wfE, wfB, wfV, wfL, Bool.and_self, and_self, lg0, leVs, leV, Int.natCast_zero, frB]
  rintro k ⟨hk, hv⟩
  simp -implicitDefEqProofs only [qE, qF, qI, qJ, qK, qM, qN, qO, qP, qR, qU, qV, qW, qX, qY, qZ, za, zB, zF, zG, zH, zI, zL, ofConst, cells?, List.length_nil, List.length_cons, List.set_cons_zero, splice, zM, List.getD_eq_getElem?_getD, List.getElem?_cons_zero, ↓reduceIte, Nat.reduceEqDiff, Option.getD_some, zN, zP, List.nil_append, List.cons_append, List.append_nil, Nat.zero_add, Nat.reduceAdd, Nat.add_zero, freshP, zU, resP, tupV, List.reverse_cons, List.reverse_nil, wfV, List.map_cons, List.map_nil, List.drop_zero, List.take_zero, List.drop_nil, Bool.and_true, true_and, and_true, V.v.injEq, Value.int.injEq, Value.bool.injEq, List.not_mem_nil, List.length_map, not_false_eq_true, Nat.le_refl, lg0, zW, zX, zZ, lg1, ka, kc, lg2, kh, lg3, kn, jg, ↓jh, ↓jj, ↓jk, ↓jl, ↓jo, ↓jp, ↓jq, ↓jr, ↓jv, ↓jz, ↓jE, ↓qaJ, List.length_map, List.getElem_map, enc_len, enc_take, enc_0, enc_isC, Int.toNat_natCast, frB]
  simp only [br, decide_eq_true_eq, decide_eq_false_iff_not]
  refine fun hm2 => ⟨fun h2 => ?_, fun h2 => cuB_t ⟨hs, hf, ht, ⟨fun j h _ => hv.h j h (by omega)⟩⟩⟩
  have hk1 : k < arcs.length := by omega
  have hk2 : k < fr.flow.length := by omega
  refine ⟨⟨by omega, h2⟩, by omega, ?_⟩
  have good := hv.next hk1
  have bad : ¬ (_ ∧ _) → false = cuB N arcs f t fr.flow fr.cut := fun h => cuB_f fun hO => h (hO.ha.h k hk1 hk1)
  rw [getD_nat hk2] at good bad
  refine call_is (ok45 fr.cut arcs[k].from_) (by simp [li, lendsOk, lendOk, lends, lend, wkL, wk, wkR]) rfl trivial ?_
  simp -implicitDefEqProofs only [qF, qI, qO, qP, qR, qV, qX, zB, zF, zH, zL, List.length_nil, List.length_cons, zM, List.getD_eq_getElem?_getD, List.getElem?_cons_zero, ↓reduceIte, Nat.reduceEqDiff, Option.getD_some, List.append_nil, Nat.zero_add, Nat.reduceAdd, List.map_cons, List.map_nil, lg0, lg1, lg2, lg3, jg, ↓jh, ↓jj, ↓jl, ↓jo, ↓jv, enc_1]
  refine call_is (ok45 fr.cut arcs[k].to) (by simp [li, lendsOk, lendOk, lends, lend, wkL, wk, wkR]) rfl trivial ?_
  generalize hasB fr.cut arcs[k].from_ = x at *
  generalize hasB fr.cut arcs[k].to = y at *
  cases x <;> cases y <;> simp -implicitDefEqProofs only [qE, qF, qH, qI, qJ, qN, qO, qP, qQ, qR, qS, qV, qX, qY, qZ, zc, zF, zH, zI, zL, ofConst, List.length_nil, List.length_cons, zM, List.getD_eq_getElem?_getD, List.getElem?_cons_zero, ↓reduceIte, Nat.reduceEqDiff, Option.getD_some, zN, zO, zP, Bool.not_true, Bool.not_false, ↓zQ, ↓zR, zS, zT, List.nil_append, List.append_nil, Nat.zero_add, Nat.reduceAdd, zU, resP, tupV, List.reverse_cons, List.reverse_nil, zV, leE, leH, leB, leV, leVs, keepP, liveP, wfE, wfB, wfV, wfL, Bool.and_true, Bool.and_self, true_and, and_true, and_self, V.v.injEq, Value.int.injEq, Value.bool.injEq, List.length_map, Bool.false_eq_true, lg0, lg1, jg, ↓jh, ↓jj, ↓jk, ↓jl, ↓jo, ↓jv, ↓jz, ↓qaB, ↓qaI, List.length_map, List.getElem_map, enc_2, encI_0, Int.toNat_natCast] <;> simp only [br, decide_eq_true_eq, decide_eq_false_iff_not, bne_iff_ne, bne_eq_false_iff_eq, lo, hi, maxLen] at * <;>
    (repeat' (first | (refine ⟨(k+1 : _), ?_⟩) | (refine ⟨by omega, ?_⟩) | (refine And.intro ?_ ?_) | (refine (fun _ => ?_)))) <;> first | omega | (apply bad; simp; omega) | (apply good; simp; try omega)
/-- What Accept asks. -/
structure OkAc (N : Nat) (arcs : List Arc) (f t am : Int) (fr : Fr) : Prop where
  fl : OkF N arcs f t fr.flow
  hs : 0 ≤ fr.sent ∧ fr.sent ≤ am
  hv : valTo arcs f fr.flow arcs.length = fr.sent
  ht : totTo arcs fr.flow arcs.length = fr.cost
  hp : OkP N arcs f fr.flow fr.price
  hc : if fr.sent = am then fr.cut = [] else OkC N arcs f t fr.flow fr.cut
open Classical in
noncomputable def accI (N : Nat) (arcs : List Arc) (f t am : Int) (fr : Fr) : Int := if OkAc N arcs f t am fr then 0 else 110
theorem accI_t {N : Nat} {arcs : List Arc} {f t am : Int} {fr : Fr} (h : OkAc N arcs f t am fr) : 0 = accI N arcs f t am fr := by simp [accI, h]
theorem accI_f {N : Nat} {arcs : List Arc} {f t am : Int} {fr : Fr} (h : ¬ OkAc N arcs f t am fr) : 110 = accI N arcs f t am fr := by simp [accI, h]
theorem ok16 (N : Nat) (arcs : List Arc) (f t am : Int) (fr : Fr) (hV : Val N arcs) (hf : 0 ≤ f ∧ f < N) : Ok 16 [net N arcs, .i f, .i t, .i am, fr.enc] (Is (.i (accI N arcs f t am fr))) := by
  refine ok_of lw16 (by simp) ?_
  unfold c16 net Fr.enc li
  have hL := hV.hl
  have hN := hV.hn
  have hac := fun a ha => (hV.ha a ha).2.2.2.2
  simp -implicitDefEqProofs only [qF, qI, qO, qP, qR, qT, qV, qX, zB, zF, zH, zI, zL, ofConst, cells?, List.length_nil, List.length_cons, List.set_cons_zero, zM, List.getD_eq_getElem?_getD, List.getElem?_cons_zero, ↓reduceIte, Nat.reduceEqDiff, Option.getD_some, List.nil_append, List.append_nil, Nat.zero_add, Nat.reduceAdd, Nat.add_zero, reduceCtorEq, freshP, List.map_cons, List.map_nil, List.drop_zero, List.take_nil, true_and, Nat.le_refl, lg0, zW, zY, zZ, lg1, ke, kf, jg, ↓jh, ↓jj, ↓jl, ↓jo, ↓jp, ↓jv, cxN, args0]
  refine call_is (ok20 N arcs f t fr.flow hV) (by simp [net, li, lendsOk, lendOk, lends, lend, wkL, wk, wkR]) rfl trivial ?_
  cases hfl : flB N arcs f t fr.flow with
  | false =>
    simp -implicitDefEqProofs only [qa, qb, qc, qe, qi, qw, rdK, qx, qy, qz, qA, qB, qD, qF, qI, qJ, qN, qO, qP, qR, qS, zc, zF, zH, zI, zL, ofConst, List.length_nil, List.length_cons, ↓reduceIte, Nat.reduceEqDiff, zO, zP, Bool.not_false, ↓zQ, zS, List.nil_append, List.append_nil, Nat.zero_add, Nat.reduceAdd, zU, resP, tupV, List.reverse_cons, List.reverse_nil, wfV, Bool.and_true, true_and, and_true, V.v.injEq, Value.int.injEq, Value.bool.injEq, Bool.false_eq_true, jg]
    exact accI_f fun hO => by have := flB_t hO.fl; rw [hfl] at this; cases this
  | true =>
  have hfl : OkF N arcs f t fr.flow := by
    apply Classical.byContradiction
    intro h
    have := flB_f h; rw [hfl] at this; cases this
  have hl := hfl.hl
  have hfb := hV.flow hl hfl.hp
  simp -implicitDefEqProofs only [qa, qb, qc, qe, qi, qw, rdK, qx, qy, qz, qA, qB, qD, qF, qI, qJ, qN, qO, qP, qR, qS, qV, qX, qZ, zc, zB, zF, zH, zI, zL, ofConst, List.length_nil, List.length_cons, zM, List.getD_eq_getElem?_getD, List.getElem?_cons_zero, ↓reduceIte, Nat.reduceEqDiff, Option.getD_some, zN, zO, zP, Bool.not_true, Bool.not_false, ↓zQ, ↓zR, zS, List.nil_append, List.append_nil, Nat.zero_add, Nat.reduceAdd, Nat.add_zero, reduceCtorEq, zU, resP, tupV, List.reverse_cons, List.reverse_nil, wfV, List.map_cons, List.map_nil, List.drop_zero, List.take_nil, Bool.and_true, true_and, and_true, V.v.injEq, Value.int.injEq, Value.bool.injEq, Bool.false_eq_true, Nat.le_refl, lg0, zY, lg1, ke, jg, ↓jh, ↓jj, ↓jl, ↓jo, ↓jp, ↓jv, ↓qaJ, ↓qaL]
  simp only [br, decide_eq_true_eq, decide_eq_false_iff_not]
  refine ⟨fun h => accI_f fun hO => by have := hO.hs; omega, fun h0 => ⟨fun h => accI_f fun hO => by have := hO.hs; omega, fun h1 => ?_⟩⟩
  refine call_is (ok21 N f arcs fr.flow hl (by omega) hfb) (by simp [net, li, lendsOk, lendOk, lends, lend, wkL, wk, wkR]) rfl trivial ?_
  simp -implicitDefEqProofs only [qa, qb, qc, qe, qi, qw, rdK, qy, qz, qA, qB, qD, qF, qI, qJ, qN, qO, qP, qR, qS, qV, qX, qZ, zB, zF, zH, zI, zL, ofConst, List.length_nil, List.length_cons, zM, List.getD_eq_getElem?_getD, List.getElem?_cons_zero, ↓reduceIte, Nat.reduceEqDiff, Option.getD_some, zN, zP, Bool.not_false, ↓zQ, ↓zR, zS, List.nil_append, List.append_nil, Nat.zero_add, Nat.reduceAdd, zU, resP, tupV, List.reverse_cons, List.reverse_nil, wfV, List.map_cons, List.map_nil, List.drop_zero, List.take_nil, Bool.and_true, true_and, and_true, V.v.injEq, Value.int.injEq, Value.bool.injEq, Bool.false_eq_true, Nat.le_refl, lg0, zY, lg1, ke, jg, ↓jh, ↓jj, ↓jl, ↓jo, ↓jp, ↓jv, ↓qaI]
  simp only [br, bne_iff_ne, bne_eq_false_iff_eq]
  refine ⟨fun h => accI_f fun hO => h hO.hv, fun h2 => ?_⟩
  refine call_is (ok22 N arcs fr.flow hl hL hfb hac) (by simp [net, li, lendsOk, lendOk, lends, lend, wkL, wk, wkR]) rfl trivial ?_
  simp -implicitDefEqProofs only [qa, qb, qe, qi, qw, rdK, qy, qz, qA, qB, qD, qF, qI, qJ, qN, qO, qP, qR, qS, qV, qZ, zB, zF, zH, zI, zL, ofConst, List.length_nil, List.length_cons, zM, List.getD_eq_getElem?_getD, List.getElem?_cons_zero, ↓reduceIte, Nat.reduceEqDiff, Option.getD_some, zN, zP, Bool.not_false, ↓zQ, ↓zR, zS, List.nil_append, List.append_nil, Nat.zero_add, Nat.reduceAdd, reduceCtorEq, zU, resP, tupV, List.reverse_cons, List.reverse_nil, wfV, List.map_cons, List.map_nil, List.drop_zero, List.take_nil, Bool.and_true, true_and, and_true, V.v.injEq, Value.int.injEq, Value.bool.injEq, Bool.false_eq_true, Nat.le_refl, lg0, zY, ke, ki, ko, kv, jg, ↓jj, ↓jl, ↓jp, ↓qaI]
  simp only [br, bne_iff_ne, bne_eq_false_iff_eq]
  refine ⟨fun h => accI_f fun hO => h hO.ht, fun h3 => ?_⟩
  refine call_is (ok33 N arcs f fr hV hf hl) (by simp [Fr.enc, net, li, lendsOk, lendOk, lends, lend, wkL, wk, wkR]) rfl trivial ?_
  cases hp : prB N arcs f fr.flow fr.price with
  | false =>
    simp -implicitDefEqProofs only [qb, qi, qy, qA, qB, qF, qI, qJ, qN, qO, qP, qR, qS, zc, zF, zH, zI, zL, ofConst, List.length_nil, List.length_cons, ↓reduceIte, Nat.reduceEqDiff, zO, zP, Bool.not_false, ↓zQ, ↓zR, zS, List.nil_append, List.append_nil, Nat.zero_add, Nat.reduceAdd, zU, resP, tupV, List.reverse_cons, List.reverse_nil, wfV, true_and, V.v.injEq, Value.int.injEq, Value.bool.injEq, Bool.false_eq_true, jg]
    exact accI_f fun hO => by have := prB_t hO.hp; rw [hp] at this; cases this
  | true =>
  have hp : OkP N arcs f fr.flow fr.price := by
    apply Classical.byContradiction
    intro h
    have := prB_f h; rw [hp] at this; cases this
  simp -implicitDefEqProofs only [qb, qi, qy, qA, qB, qE, qF, qI, qJ, qN, qO, qP, qR, qS, qV, qX, qZ, za, zc, zB, zF, zH, zI, zL, ofConst, List.length_nil, List.length_cons, zM, List.getD_eq_getElem?_getD, List.getElem?_cons_zero, ↓reduceIte, Nat.reduceEqDiff, Option.getD_some, zN, zO, zP, Bool.not_true, ↓zR, zS, List.nil_append, List.append_nil, Nat.zero_add, Nat.reduceAdd, Nat.add_zero, reduceCtorEq, zU, resP, tupV, List.reverse_cons, List.reverse_nil, wfV, List.map_cons, List.map_nil, List.drop_zero, List.take_nil, true_and, V.v.injEq, Value.int.injEq, Value.bool.injEq, List.length_map, Bool.false_eq_true, Nat.le_refl, lg0, zY, lg1, ke, lg2, ki, lg3, ko, kv, jg, ↓jh, ↓jj, ↓jl, ↓jo, ↓jp, ↓jv, ↓jE, ↓qaH, ↓qaL, List.length_map]
  simp only [br, beq_iff_eq, beq_eq_false_iff_ne, decide_eq_true_eq, decide_eq_false_iff_not]
  refine ⟨fun h4 => ?_, fun h4 => ?_⟩
  · refine fun _ => ⟨fun h5 => accI_f fun hO => ?_, fun h5 => accI_t ⟨hfl, by omega, h2, h3, hp, ?_⟩⟩
    · have := hO.hc
      rw [if_pos h4] at this
      rw [this] at h5
      simp at h5
    · rw [if_pos h4]
      exact List.length_eq_zero_iff.1 (by omega)
  · refine call_is (ok34 N arcs f t fr hV hl) (by simp [Fr.enc, net, li, lendsOk, lendOk, lends, lend, wkL, wk, wkR]) rfl trivial ?_
    cases hc : cuB N arcs f t fr.flow fr.cut with
    | false =>
      simp -implicitDefEqProofs only [qF, qI, qJ, qN, qO, qP, qR, zc, zF, zH, zI, zL, ofConst, List.length_nil, List.length_cons, ↓reduceIte, zO, zP, Bool.not_false, ↓zQ, List.nil_append, List.append_nil, Nat.zero_add, Nat.reduceAdd, zU, resP, tupV, List.reverse_cons, List.reverse_nil, wfV, true_and, V.v.injEq, Value.int.injEq, Value.bool.injEq, jg]
      exact accI_f fun hO => by have h6 := hO.hc; rw [if_neg h4] at h6; have := cuB_t h6; rw [hc] at this; cases this
    | true =>
    have hc : OkC N arcs f t fr.flow fr.cut := by
      apply Classical.byContradiction
      intro h
      have := cuB_f h; rw [hc] at this; cases this
    simp -implicitDefEqProofs only [qE, qF, qI, qJ, qN, qO, qP, qR, zc, zF, zH, zI, zL, ofConst, List.length_nil, List.length_cons, ↓reduceIte, zO, zP, Bool.not_true, ↓zR, List.nil_append, List.append_nil, Nat.zero_add, Nat.reduceAdd, zU, resP, tupV, List.reverse_cons, List.reverse_nil, wfV, true_and, V.v.injEq, Value.int.injEq, Value.bool.injEq, jg]
    exact accI_t ⟨hfl, by omega, h2, h3, hp, by rw [if_neg h4]; exact hc⟩
end Go.Fx.C
namespace Go.Fx.C
open Go Go.Fx Go.Proofs
set_option maxRecDepth 20000
def rowF (N : Nat) (f : Int → Int) : List (List V) := (List.range N).map fun j : Nat => encI (f j)
theorem rowF_len {N : Nat} {f : Int → Int} : (rowF N f).length = N := by simp [rowF]
theorem rowF_get {N : Nat} {f : Int → Int} {i : Nat} (h : i < (rowF N f).length) : (rowF N f)[i] = encI (f i) := by simp [rowF]
theorem rowF_set {N : Nat} {f : Int → Int} {i : Nat} {x : Int} : (rowF N f).set i [.v (.int .i64 x)] = rowF N (fun j => if j = i then x else f j) := by
  apply List.ext_getElem
  · simp [rowF]
  · intro j h1 h2
    simp only [List.getElem_set, rowF_get]
    by_cases h : i = j
    · subst h; simp [encI]
    · have : ¬ (j : Int) = i := by omega
      simp [h, this]
theorem rowF_congr {N : Nat} {f g : Int → Int} (h : ∀ i : Nat, i < N → f i = g i) : rowF N f = rowF N g := by
  simp only [rowF, List.map_inj_left, List.mem_range]
  intro i hi
  rw [h i hi]
theorem rowF_rep {N : Nat} {x : Int} : List.replicate N [V.v (.int .i64 x)] = rowF N (fun _ => x) := by
  apply List.ext_getElem
  · simp [rowF]
  · intro i h1 h2
    simp [rowF, encI]
def rowB (N : Nat) (f : Int → Bool) : List (List V) := (List.range N).map fun j : Nat => encB (f j)
theorem rowB_len {N : Nat} {f : Int → Bool} : (rowB N f).length = N := by simp [rowB]
theorem rowB_get {N : Nat} {f : Int → Bool} {i : Nat} (h : i < (rowB N f).length) : (rowB N f)[i] = encB (f i) := by simp [rowB]
theorem rowB_set {N : Nat} {f : Int → Bool} {i : Nat} {x : Bool} : (rowB N f).set i [.v (.bool x)] = rowB N (fun j => if j = i then x else f j) := by
  apply List.ext_getElem
  · simp [rowB]
  · intro j h1 h2
    simp only [List.getElem_set, rowB_get]
    by_cases h : i = j
    · subst h; simp [encB]
    · have : ¬ (j : Int) = i := by omega
      simp [h, this]
theorem rowB_congr {N : Nat} {f g : Int → Bool} (h : ∀ i : Nat, i < N → f i = g i) : rowB N f = rowB N g := by
  simp only [rowB, List.map_inj_left, List.mem_range]
  intro i hi
  rw [h i hi]
theorem rowB_rep {N : Nat} {x : Bool} : List.replicate N [V.v (.bool x)] = rowB N (fun _ => x) := by
  apply List.ext_getElem
  · simp [rowB]
  · intro i h1 h2
    simp [rowB, encB]
theorem valTo_bound2 (arcs : List Arc) (node : Int) (flow : List Int) : ∀ k : Nat, (∀ j, j < k → 0 ≤ flow.getD j 0 ∧ flow.getD j 0 ≤ 1073741824) → -((k : Int) * 1073741824) ≤ valTo arcs node flow k ∧ valTo arcs node flow k ≤ (k : Int) * 1073741824
  | 0, _ => by simp [valTo]
  | k + 1, hf => by
    have h1 := valTo_bound2 arcs node flow k fun j hj => hf j (by omega)
    have h2 := hf k (by omega)
    simp only [valTo]
    split <;> split <;> omega
theorem totTo_bound2 (arcs : List Arc) (flow : List Int) (ha : ∀ a ∈ arcs, 0 ≤ a.cost ∧ a.cost ≤ 1048576) : ∀ k : Nat, (∀ j, j < k → 0 ≤ flow.getD j 0 ∧ flow.getD j 0 ≤ 1073741824) → 0 ≤ totTo arcs flow k ∧ totTo arcs flow k ≤ (k : Int) * 1125899906842624
  | 0, _ => by simp [totTo]
  | k + 1, hf => by
    have h1 := totTo_bound2 arcs flow ha k fun j hj => hf j (by omega)
    have h2 := hf k (by omega)
    have h3 : 0 ≤ (arcs.getD k ⟨0,0,0,0⟩).cost ∧ (arcs.getD k ⟨0,0,0,0⟩).cost ≤ 1048576 := by
      rw [List.getD_eq_getElem?_getD]
      cases h : arcs[k]? with
      | none => simp
      | some x => exact ha x (List.mem_of_getElem? h)
    have := mul_b h2 h3
    simp only [totTo]
    omega
open Classical in
noncomputable def flwB (n : Int) (arcs : List Arc) (f t : Int) (fr : Fr) : Bool := decide (OkF n arcs f t fr.flow ∧ valTo arcs f fr.flow arcs.length = fr.sent ∧ totTo arcs fr.flow arcs.length = fr.cost)
theorem flwB_t {n : Int} {arcs : List Arc} {f t : Int} {fr : Fr} (h : OkF n arcs f t fr.flow ∧ valTo arcs f fr.flow arcs.length = fr.sent ∧ totTo arcs fr.flow arcs.length = fr.cost) : flwB n arcs f t fr = true := by simp [flwB, h]
theorem flwB_f {n : Int} {arcs : List Arc} {f t : Int} {fr : Fr} (h : ¬ (OkF n arcs f t fr.flow ∧ valTo arcs f fr.flow arcs.length = fr.sent ∧ totTo arcs fr.flow arcs.length = fr.cost)) : flwB n arcs f t fr = false := by simp only [flwB, h, decide_false]
structure ZInw (arcs : List Arc) (f t s : Int) (flow : List Int) (k : Nat) : Prop where
  h : ∀ j : Nat, j < k → ((j : Int) ≠ f → (j : Int) ≠ t → valTo arcs j flow arcs.length = 0) ∧ ((j : Int) = f → valTo arcs j flow arcs.length = s)
theorem ok35 (N : Nat) (arcs : List Arc) (f t : Int) (fr : Fr) (hV : Val N arcs) (hf : 0 ≤ f ∧ f < N) : Ok 35 [net N arcs, .i f, .i t, fr.enc] (Is (.b (flwB N arcs f t fr))) := by
  refine ok_of lw35 (by simp) ?_
  unfold c35 net Fr.enc li
  have hL := hV.hl
  have hN := hV.hn
  have hac := fun a ha => (hV.ha a ha).2.2.2.2
  simp -implicitDefEqProofs only [qE, qF, qI, qJ, qK, qL, qN, qO, qP, qR, qT, qV, qX, qZ, za, zp, zF, zH, zI, zL, ofConst, cells?, List.length_nil, List.length_cons, List.set_cons_zero, zM, List.getD_eq_getElem?_getD, List.getElem?_cons_zero, ↓reduceIte, Nat.reduceEqDiff, Option.getD_some, zN, zP, List.nil_append, List.cons_append, List.append_nil, Nat.zero_add, Nat.reduceAdd, Nat.add_zero, reduceCtorEq, freshP, zU, resP, tupV, List.reverse_cons, List.reverse_nil, wfV, List.map_cons, List.map_nil, true_and, V.v.injEq, Value.int.injEq, Value.bool.injEq, List.length_map, lg0, zW, zZ, lg1, ka, kf, jg, ↓jh, ↓jj, ↓jl, ↓jo, ↓jv, ↓jE, ↓qaI, List.length_map, Int.toNat_natCast, cxN, args0]
  simp only [br, decide_eq_true_eq, decide_eq_false_iff_not, bne_iff_ne, bne_eq_false_iff_eq]
  refine fun hm1 hm2 => ⟨fun h => (flwB_f fun hO => ?_).symm, fun h => ⟨by omega, fun _ => ?_⟩⟩
  · have := hO.1.hl; omega
  have hl : fr.flow.length = arcs.length := by omega
  refine loopP_intro (fun k : Nat => ⟨[(29, .i k), (28, .i arcs.length), (27, .ro 4 (arcs.map Arc.enc)), (10, .i (totTo arcs fr.flow k)), (9, .sl 2 0 N), (7, .ptr 1 0 0), (4, .ptr 0 0 0), (2, .i t), (1, .i f)], [.var [.i N, .ro 4 (arcs.map Arc.enc)], frB fr, .arr 1 (rowF N (fun j => valTo arcs j fr.flow k))], 0⟩) (fun k => k ≤ arcs.length ∧ PInv arcs fr.flow k) (fun k => arcs.length - k) 0 ⟨by omega, ⟨by simp⟩⟩ ?_ ?_
  · have h0 : rowF N (fun j => valTo arcs j fr.flow 0) = List.replicate N [V.i 0] := by rw [rowF_rep]; rfl
    simp -implicitDefEqProofs only [zL, List.getElem?_cons_zero, ↓reduceIte, Nat.reduceEqDiff, reduceCtorEq, zV, leE, leH, leB, leV, leVs, keepP, liveP, wfE, wfB, wfV, wfL, Bool.and_self, and_self, lg0, lg1, leVs, leV, Int.natCast_zero, frB, h0, totTo]
  rintro k ⟨hk, hv⟩
  simp -implicitDefEqProofs only [qE, qF, qI, qJ, qK, qL, qM, qN, qO, qP, qQ, qR, qS, qU, qV, qW, qX, qY, qZ, za, zF, zG, zH, zI, zL, ofConst, cells?, List.length_nil, List.length_cons, List.set_cons_zero, splice, zM, List.getD_eq_getElem?_getD, List.getElem?_cons_zero, ↓reduceIte, Nat.reduceEqDiff, Option.getD_some, zN, arrSz, zP, Bool.not_false, ↓zQ, ↓zR, zS, List.nil_append, List.cons_append, List.append_nil, Nat.zero_add, Nat.reduceAdd, Nat.add_zero, freshP, zU, resP, tupV, List.reverse_cons, List.reverse_nil, zV, leE, leH, leB, leV, leVs, keepP, liveP, wfE, wfB, wfV, wfL, List.map_cons, List.map_nil, List.drop_zero, List.take_zero, List.drop_nil, List.all_cons, List.all_nil, isD, isC, Bool.and_true, Bool.and_self, true_and, and_true, and_self, V.v.injEq, Value.int.injEq, Value.bool.injEq, List.not_mem_nil, List.length_map, not_false_eq_true, Bool.false_eq_true, Nat.le_refl, lg0, zW, zX, zZ, lg1, ka, kc, lg2, kg, kh, kn, jg, ↓jh, ↓jj, ↓jk, ↓jl, ↓jm, ↓jo, ↓jp, ↓jq, ↓jr, ↓jt, ↓jv, ↓jy, ↓jz, ↓jD, ↓qaB, ↓qaD, ↓qaF, ↓qaJ, ↓qaL, List.length_map, List.getElem_map, enc_len, enc_take, enc_0, enc_1, enc_2, enc_3, enc_isC, encI_0, Int.toNat_natCast, encI_drop, frB, rowF_len, rowF_get, rowF_set]
  simp only [br, decide_eq_true_eq, decide_eq_false_iff_not]
  refine ⟨fun h2 => ?_, fun h2 => ?_⟩
  · have hk1 : k < arcs.length := by omega
    have hk2 : k < fr.flow.length := by omega
    have hva := hV.ha arcs[k] (List.getElem_mem hk1)
    have bad : ¬ (0 ≤ fr.flow[k] ∧ fr.flow[k] ≤ arcs[k].cap) → false = flwB N arcs f t fr := fun h => (flwB_f fun hO => h (hO.1.hp k hk2 hk1)).symm
    have good : (0 ≤ fr.flow[k] ∧ fr.flow[k] ≤ arcs[k].cap) → PInv arcs fr.flow (k + 1) := by
      refine fun hx => ⟨fun j h3 h4 h5 => ?_⟩
      by_cases h6 : j = k
      · subst h6; exact hx
      · exact hv.h j h3 h4 (by omega)
    have hfb : ∀ j, j < k → 0 ≤ fr.flow.getD j 0 ∧ fr.flow.getD j 0 ≤ 1073741824 := by
      intro j hj
      have h1 := hv.h j (by omega) (by omega) hj
      have h3 := hV.ha arcs[j] (List.getElem_mem _)
      rw [getD_nat (by omega)]
      omega
    have hb1 := valTo_bound2 arcs arcs[k].from_ fr.flow k hfb
    have hb2 := valTo_bound2 arcs arcs[k].to fr.flow k hfb
    have hb3 := totTo_bound2 arcs fr.flow hac k hfb
    have e1 : ((arcs[k].from_.toNat : Nat) : Int) = arcs[k].from_ := by omega
    have e2 : ((arcs[k].to.toNat : Nat) : Int) = arcs[k].to := by omega
    have e3 : ¬ arcs[k].to = arcs[k].from_ := by omega
    refine ⟨⟨by omega, h2⟩, by omega, ⟨by omega, by omega⟩, by omega, fun h3 => bad (by omega), fun h3 => ⟨fun h4 => bad (by omega), fun h4 => ?_⟩⟩
    have hfk : 0 ≤ fr.flow[k] ∧ fr.flow[k] ≤ 1073741824 := by omega
    have hmb := mul_b hfk hva.2.2.2.2
    have hst := totTo_step hk1 hk2
    simp only [e1, e2, e3, if_false, lo, hi, rowF_len]
    repeat' (first | (refine ⟨(k+1 : _), ?_⟩) | (refine ⟨by omega, ?_⟩) | (refine And.intro ?_ ?_) | (refine (fun _ => ?_)))
    all_goals first | omega | (apply good; omega) | skip
    congr 1
    apply rowF_congr
    intro i hi
    simp only [valTo_step (node := i) hk1 hk2]
    grind
  have hp : possP arcs fr.flow := fun i h3 h4 => hv.h i h3 h4 (by omega)
  have hk0 : k = arcs.length := by omega
  subst hk0
  refine fun _ => loopP_intro (fun k : Nat => ⟨[(72, .i k), (71, .i N), (70, .sl 2 0 N), (10, .i (totTo arcs fr.flow arcs.length)), (7, .ptr 1 0 0), (2, .i t), (1, .i f)], [.dead, frB fr, .arr 1 (rowF N (fun j => valTo arcs j fr.flow arcs.length))], 0⟩) (fun k => k ≤ N ∧ ZInw arcs f t fr.sent fr.flow k) (fun k => N - k) 0 ⟨by omega, ⟨by simp⟩⟩ ?_ ?_
  · simp -implicitDefEqProofs only [zL, List.getElem?_cons_zero, ↓reduceIte, Nat.reduceEqDiff, zV, leE, leH, leB, leV, leVs, keepP, liveP, wfE, wfB, wfV, wfL, Bool.and_self, and_self, lg0, lg1, leVs, leV, Int.natCast_zero, frB]
  rintro k ⟨hk, hv⟩
  simp -implicitDefEqProofs only [qE, qF, qI, qJ, qK, qM, qN, qO, qP, qQ, qR, qS, qV, qX, qY, qZ, zF, zH, zI, zL, ofConst, List.length_nil, List.length_cons, zM, List.getD_eq_getElem?_getD, List.getElem?_cons_zero, ↓reduceIte, Nat.reduceEqDiff, Option.getD_some, zN, arrSz, zP, Bool.not_true, Bool.not_false, ↓zQ, ↓zR, zS, zT, List.nil_append, List.append_nil, Nat.zero_add, Nat.reduceAdd, Nat.add_zero, zU, resP, tupV, List.reverse_cons, List.reverse_nil, zV, leE, leH, leB, leV, leVs, keepP, liveP, wfE, wfB, wfV, wfL, Bool.and_true, Bool.and_self, true_and, and_true, and_self, V.v.injEq, Value.int.injEq, Value.bool.injEq, Bool.false_eq_true, lg0, lg1, jg, ↓jh, ↓jj, ↓jl, ↓jm, ↓jo, ↓jv, ↓jy, ↓qaB, ↓qaH, ↓qaI, ↓qaJ, encI_0, Int.toNat_natCast, frB, rowF_len, rowF_get]
  simp only [br, decide_eq_true_eq, decide_eq_false_iff_not, bne_iff_ne, bne_eq_false_iff_eq, beq_iff_eq, beq_eq_false_iff_ne]
  refine ⟨fun h3 => ?_, fun h3 => ?_⟩
  · have h4 : k < N := by omega
    have bad1 : (k : Int) = f → valTo arcs k fr.flow arcs.length ≠ fr.sent → false = flwB N arcs f t fr := fun h h5 => (flwB_f fun hO => h5 (by rw [h]; exact hO.2.1)).symm
    have bad2 : (k : Int) ≠ f → (k : Int) ≠ t → valTo arcs k fr.flow arcs.length ≠ 0 → false = flwB N arcs f t fr := fun h h5 h6 => (flwB_f fun hO => h6 (hO.1.hz k (by omega) (by omega) h h5)).symm
    have good : ((k : Int) ≠ f → (k : Int) ≠ t → valTo arcs k fr.flow arcs.length = 0) ∧ ((k : Int) = f → valTo arcs k fr.flow arcs.length = fr.sent) → ZInw arcs f t fr.sent fr.flow (k + 1) := by
      refine fun h5 => ⟨fun j hj => ?_⟩
      by_cases h6 : j = k
      · subst h6; exact h5
      · exact hv.h j (by omega)
    simp only [lo, hi, maxLen, rowF_len] at *
    repeat' (first | (refine ⟨(k+1 : _), ?_⟩) | (refine ⟨by omega, ?_⟩) | (refine And.intro ?_ ?_) | (refine (fun _ => ?_)))
    all_goals first | omega | exact bad1 ‹_› ‹_› | exact bad2 ‹_› ‹_› ‹_› | (exact good ⟨fun _ _ => by first | assumption | omega, fun _ => by first | assumption | omega⟩)
  · have hOF : OkF N arcs f t fr.flow := ⟨hl, hp, fun j h1 h2 h4 h6 => by
      have := (hv.h j.toNat (by omega)).1
      rw [Int.toNat_of_nonneg h1] at this
      exact this h4 h6⟩
    have hval : valTo arcs f fr.flow arcs.length = fr.sent := by
      have := (hv.h f.toNat (by omega)).2
      rw [Int.toNat_of_nonneg hf.1] at this
      exact this rfl
    by_cases hc : totTo arcs fr.flow arcs.length = fr.cost <;> simp [flwB, hOF, hval, hc]
end Go.Fx.C
namespace Go.Fx.C
open Go Go.Fx Go.Proofs
set_option maxRecDepth 20000
def badP (x : Int) : Bool := decide (x < 0 ∨ 1073741824 < x)
theorem ok47 (x : Int) : Ok 47 [.i x] (Is (.b (badP x))) := by
  refine ok_of lw47 (by simp) ?_
  unfold c47
  simp -implicitDefEqProofs only [qF, qI, qN, qO, qP, qQ, qR, qS, qZ, zF, zH, zI, zL, ofConst, List.length_nil, ↓reduceIte, Nat.reduceEqDiff, zN, zP, Bool.not_false, ↓zQ, ↓zR, zS, List.nil_append, List.append_nil, reduceCtorEq, zU, resP, tupV, List.reverse_cons, List.reverse_nil, wfV, true_and, V.v.injEq, Value.int.injEq, Value.bool.injEq, Bool.false_eq_true, jg, ↓qaJ, ↓qaL, cxN, args0]
  simp only [br, decide_eq_true_eq, decide_eq_false_iff_not, badP]
  grind
def firstB (l : List Int) : Int := if l.any badP then (l.findIdx badP : Nat) else -1
structure GInv (l : List Int) (k : Nat) : Prop where
  h : ∀ j (h : j < l.length), j < k → badP l[j] = false
theorem ok51 (l : List Int) : Ok 51 [li l, .clo 47 []] (Is (.i (firstB l))) := by
  refine ok_of lw51 (by simp) ?_
  unfold c51 li
  simp -implicitDefEqProofs only [qF, qI, qK, qL, qO, qP, qR, za, zF, zH, zI, zL, ofConst, List.length_nil, ↓reduceIte, List.append_nil, Nat.zero_add, reduceCtorEq, List.length_map, jg, ↓jE, List.length_map, cxN, args0]
  intro hm
  refine loopP_intro (fun k : Nat => ⟨[(8, .i k), (7, .i l.length), (1, .clo 47 []), (0, .ro 1 (l.map encI))], [], 0⟩) (fun k => k ≤ l.length ∧ GInv l k) (fun k => l.length - k) 0 ⟨by omega, ⟨by simp⟩⟩ ?_ ?_
  · simp -implicitDefEqProofs only [zL, ↓reduceIte, Nat.reduceEqDiff, reduceCtorEq, zV, leE, leH, keepP, wfE, wfB, wfV, wfL, Bool.and_self, and_self, Int.natCast_zero]
  rintro k ⟨hk, hv⟩
  simp -implicitDefEqProofs only [qE, qF, qI, qJ, qK, qM, qN, qO, qP, qR, qV, qY, qZ, zE, zF, zH, zI, zL, ofConst, List.length_nil, ↓reduceIte, Nat.reduceEqDiff, zN, zP, List.nil_append, List.append_nil, reduceCtorEq, zU, resP, tupV, List.reverse_cons, List.reverse_nil, wfV, List.map_cons, List.map_nil, true_and, V.v.injEq, Value.int.injEq, Value.bool.injEq, List.length_map, jg, ↓jh, ↓jk, ↓jo, ↓jz, ↓jM, ↓qaJ, List.length_map, List.getElem_map, encI_0, Int.toNat_natCast]
  simp only [br, Int.toNat_natCast, decide_eq_true_eq, decide_eq_false_iff_not]
  refine ⟨fun h => ⟨⟨by omega, h⟩, by omega, ?_⟩, fun h => ?_⟩
  · have hk : k < l.length := by omega
    refine call_is (ok47 l[k]) ?_ rfl trivial ?_
    · simp [lendsOk, lendOk, lends, lend, wkL, wk, pos]
    cases hb : badP l[k] with
    | true =>
      simp -implicitDefEqProofs only [qF, qI, qJ, qN, qO, qP, qR, zF, zH, zL, List.length_nil, ↓reduceIte, Nat.reduceEqDiff, zP, ↓zQ, List.nil_append, List.append_nil, zU, resP, tupV, List.reverse_cons, List.reverse_nil, wfV, true_and, V.v.injEq, Value.int.injEq, Value.bool.injEq, jg]
      have h1 : l.any badP = true := by
        rw [List.any_eq_true]; exact ⟨_, List.getElem_mem hk, hb⟩
      have h2 : l.findIdx badP = k := by
        rw [List.findIdx_eq hk]
        exact ⟨hb, fun j hj => hv.h j (by omega) hj⟩
      simp [firstB, h1, h2]
    | false =>
      simp -implicitDefEqProofs only [qE, qF, qJ, qO, qP, qR, qZ, zF, zH, zI, zL, ofConst, List.length_nil, ↓reduceIte, Nat.reduceEqDiff, zN, zP, ↓zR, List.append_nil, reduceCtorEq, zV, leE, leH, keepP, wfE, wfB, wfV, wfL, Bool.and_true, Bool.and_self, true_and, and_true, and_self, V.v.injEq, Value.int.injEq, Value.bool.injEq, jg, ↓qaB]
      refine ⟨by simp only [lo, hi, maxLen] at *; omega, k + 1, ⟨⟨by omega, ⟨fun j hj h2 => ?_⟩⟩, by omega⟩, by simp⟩
      by_cases h3 : j = k
      · subst h3; exact hb
      · exact hv.h j hj (by omega)
  · have h1 : l.any badP = false := by
      rw [List.any_eq_false]
      intro x hx
      obtain ⟨j, hj, rfl⟩ := List.getElem_of_mem hx
      simp [hv.h j hj (by omega)]
    simp [firstB, h1]
theorem ok46 (l : List Int) : Ok 46 [li l, .clo 47 []] (Is (.b (l.any badP))) := by
  refine ok_of lw46 (by simp) ?_
  unfold c46 li
  simp -implicitDefEqProofs only [qF, qI, qO, qP, qR, zB, zF, zH, zI, zL, ofConst, List.length_nil, ↓reduceIte, Nat.reduceEqDiff, List.append_nil, Nat.zero_add, reduceCtorEq, List.map_cons, List.map_nil, jg, cxN, args0]
  refine call_is (ok51 l) ?_ rfl trivial ?_
  · simp [li, lendsOk, lendOk, lends, lend, wkL, wk, wkR]
  simp -implicitDefEqProofs only [qN, qO, qP, qR, qZ, zF, zH, zI, zL, ofConst, ↓reduceIte, zN, List.nil_append, zU, resP, tupV, List.reverse_cons, List.reverse_nil, wfV, true_and, V.v.injEq, Value.int.injEq, Value.bool.injEq, ↓qaM, firstB]
  by_cases h : l.any badP = true
  · simp [h]
  · simp only [h, if_false]; simp
theorem ok36 (N : Nat) (arcs : List Arc) (f : Int) (fr : Fr) (hV : Val N arcs) (hf : 0 ≤ f ∧ f < N) (hl : fr.flow.length = arcs.length) : Ok 36 [net N arcs, .i f, fr.enc] (Is (.b (prB N arcs f fr.flow fr.price))) := by
  refine ok_of lw36 (by simp) ?_
  unfold c36 net Fr.enc li
  simp -implicitDefEqProofs only [qF, qI, qJ, qN, qO, qP, qQ, qR, qS, qT, qV, qX, qY, qZ, za, zB, zF, zH, zI, zJ, zL, ofConst, cells?, List.length_nil, List.length_cons, List.set_cons_zero, zM, List.getD_eq_getElem?_getD, List.getElem?_cons_zero, ↓reduceIte, Nat.reduceEqDiff, Option.getD_some, zN, zP, Bool.not_false, ↓zQ, ↓zR, zS, List.nil_append, List.append_nil, Nat.zero_add, Nat.reduceAdd, Nat.add_zero, reduceCtorEq, freshP, zU, resP, tupV, List.reverse_cons, List.reverse_nil, wfV, List.map_cons, List.map_nil, true_and, V.v.injEq, Value.int.injEq, Value.bool.injEq, List.length_map, Bool.false_eq_true, lg0, zW, zZ, lg1, kf, lg2, jg, ↓jh, ↓jj, ↓jk, ↓jl, ↓jo, ↓jv, ↓jz, ↓jE, ↓qaI, List.length_map, List.getElem_map, encI_0, cxN, args0]
  simp only [br, decide_eq_true_eq, decide_eq_false_iff_not, bne_iff_ne, bne_eq_false_iff_eq]
  have hL := hV.hl
  have hN := hV.hn
  refine fun hm1 => ⟨fun h => prB_f fun hO => ?_, fun h => ?_⟩
  · have := hO.hl; omega
  have hpl : fr.price.length = N := by omega
  refine ⟨⟨hf.1, by omega⟩, by omega, fun h0 => prB_f fun hO => ?_, fun h0 => ?_⟩
  · have := hO.h0
    rw [getD_at (by omega)] at this
    exact h0 this
  refine call_is (ok46 fr.price) (by simp [li, lendsOk, lendOk, lends, lend, wkL, wk, wkR]) rfl trivial ?_
  cases hb : fr.price.any badP with
  | true =>
    simp -implicitDefEqProofs only [qF, qI, qJ, qN, qO, qP, qR, qS, zF, zH, zI, zL, ofConst, List.length_nil, List.length_cons, ↓reduceIte, Nat.reduceEqDiff, zP, ↓zQ, ↓zR, List.nil_append, List.append_nil, Nat.zero_add, Nat.reduceAdd, zU, resP, tupV, List.reverse_cons, List.reverse_nil, wfV, true_and, V.v.injEq, Value.int.injEq, Value.bool.injEq, jg]
    refine prB_f fun hO => ?_
    rw [List.any_eq_true] at hb
    obtain ⟨x, hx, hb⟩ := hb
    obtain ⟨j, hj, rfl⟩ := List.getElem_of_mem hx
    have := hO.hb j hj
    simp only [badP, decide_eq_true_eq] at hb
    omega
  | false =>
  have hb : ∀ j (h : j < fr.price.length), 0 ≤ fr.price[j] ∧ fr.price[j] ≤ 1073741824 := by
    intro j hj
    rw [List.any_eq_false] at hb
    have := hb _ (List.getElem_mem hj)
    simp only [badP, decide_eq_true_eq] at this
    omega
  simp -implicitDefEqProofs only [qE, qF, qI, qJ, qK, qL, qO, qP, qR, qS, qV, qX, za, zF, zH, zI, zL, ofConst, List.length_nil, List.length_cons, zM, List.getD_eq_getElem?_getD, List.getElem?_cons_zero, ↓reduceIte, Nat.reduceEqDiff, Option.getD_some, zP, ↓zR, List.append_nil, Nat.zero_add, Nat.reduceAdd, List.length_map, lg0, jg, ↓jh, ↓jj, ↓jl, ↓jo, ↓jv, ↓jE, List.length_map]
  refine fun _ => loopP_intro (fun k : Nat => ⟨[(32, .i k), (31, .i arcs.length), (30, .ro 4 (arcs.map Arc.enc)), (5, .ptr 1 0 0), (3, .ptr 0 0 0), (1, .i f)], [.var [.i N, .ro 4 (arcs.map Arc.enc)], frB fr], 0⟩) (fun k => k ≤ arcs.length ∧ RInv arcs fr.flow fr.price k) (fun k => arcs.length - k) 0 ⟨by omega, ⟨by simp⟩⟩ ?_ ?_
  · simp -implicitDefEqProofs only [zL, List.getElem?_cons_zero, ↓reduceIte, Nat.reduceEqDiff, reduceCtorEq, zV, leE, leH, leB, leV, leVs, keepP, liveP, wfE, wfB, wfV, wfL, Bool.and_self, and_self, lg0, leVs, leV, Int.natCast_zero, frB]
  rintro k ⟨hk, hv⟩
  simp -implicitDefEqProofs only [qE, qF, qH, qI, qJ, qK, qM, qN, qO, qP, qQ, qR, qS, qU, qV, qW, qX, qY, qZ, zF, zG, zH, zI, zL, ofConst, cells?, List.length_nil, List.length_cons, List.set_cons_zero, splice, zM, List.getD_eq_getElem?_getD, List.getElem?_cons_zero, ↓reduceIte, Nat.reduceEqDiff, Option.getD_some, zN, zP, Bool.not_true, Bool.not_false, ↓zQ, ↓zR, zS, zT, List.nil_append, List.cons_append, List.append_nil, Nat.zero_add, Nat.reduceAdd, Nat.add_zero, freshP, zU, resP, tupV, List.reverse_cons, List.reverse_nil, zV, leE, leH, leB, leV, leVs, keepP, liveP, wfE, wfB, wfV, wfL, List.map_cons, List.map_nil, List.drop_zero, List.take_zero, List.drop_nil, Bool.and_true, Bool.and_self, true_and, and_true, and_self, V.v.injEq, Value.int.injEq, Value.bool.injEq, List.not_mem_nil, List.length_map, not_false_eq_true, Bool.false_eq_true, Nat.le_refl, lg0, zW, zX, zZ, lg1, ka, kc, lg2, kh, kn, jg, ↓jh, ↓jj, ↓jk, ↓jl, ↓jo, ↓jp, ↓jq, ↓jr, ↓jv, ↓jz, ↓qaB, ↓qaD, ↓qaJ, ↓qaL, List.length_map, List.getElem_map, enc_len, enc_take, enc_0, enc_1, enc_2, enc_3, enc_isC, encI_0, Int.toNat_natCast, frB]
  simp only [br, decide_eq_true_eq, decide_eq_false_iff_not]
  refine ⟨fun h2 => ?_, fun h2 => ?_⟩
  · have hk1 : k < arcs.length := by omega
    have hk2 : k < fr.flow.length := by omega
    have hva := hV.ha arcs[k] (List.getElem_mem hk1)
    have b1 := hb arcs[k].from_.toNat (by omega)
    have b2 := hb arcs[k].to.toNat (by omega)
    have bad : ¬ (_ ∧ _) → false = prB N arcs f fr.flow fr.price := fun h => prB_f fun hO => h (hO.ha k hk1)
    have good := hv.next hk1
    rw [getD_at (by omega), getD_at (by omega), getD_nat hk2] at bad good
    simp only [lo, hi, maxLen] at *
    repeat' (first | (refine ⟨(k+1 : _), ?_⟩) | (refine ⟨by omega, ?_⟩) | (refine And.intro ?_ ?_) | (refine (fun _ => ?_)))
    all_goals first | omega | (apply bad; omega) | (apply good; omega)
  · refine prB_t ⟨hpl, ?_, hb, fun j hj => hv.h j hj (by omega)⟩
    rw [getD_at (by omega)]; exact h0
end Go.Fx.C
namespace Go.Fx.C
open Go Go.Fx Go.Proofs
set_option maxRecDepth 20000
theorem hasB_take {l : List Int} {k : Nat} (h : k < l.length) (x : Int) : hasB (l.take (k + 1)) x = if x = l[k] then true else hasB (l.take k) x := by
  simp only [hasB, List.take_succ_eq_append_getElem h, List.mem_append, List.mem_singleton]
  by_cases hx : x = l[k]
  · simp only [hx, or_true, if_true, decide_true]
  · simp only [hx, or_false, if_false]
theorem ok37 (N : Nat) (arcs : List Arc) (f t : Int) (fr : Fr) (hV : Val N arcs) (hf : 0 ≤ f ∧ f < N) (ht : 0 ≤ t ∧ t < N) (hl : fr.flow.length = arcs.length) : Ok 37 [net N arcs, .i f, .i t, fr.enc] (Is (.b (cuB N arcs f t fr.flow fr.cut))) := by
  refine ok_of lw37 (by simp) ?_
  unfold c37 net Fr.enc li
  simp -implicitDefEqProofs only [qF, qI, qK, qL, qO, qP, qR, qT, qV, qX, za, zp, zF, zH, zI, zL, ofConst, cells?, List.length_nil, List.length_cons, List.set_cons_zero, zM, List.getD_eq_getElem?_getD, List.getElem?_cons_zero, ↓reduceIte, Nat.reduceEqDiff, Option.getD_some, zN, List.nil_append, List.cons_append, List.append_nil, Nat.zero_add, Nat.reduceAdd, Nat.add_zero, reduceCtorEq, freshP, List.map_cons, List.map_nil, true_and, List.length_map, lg0, zW, zZ, lg1, ka, kf, lg2, lg3, jg, ↓jh, ↓jj, ↓jl, ↓jo, ↓jv, ↓jE, List.length_map, Int.toNat_natCast, cxN, args0]
  have hL := hV.hl
  have hN := hV.hn
  refine ⟨by omega, fun hm => ?_⟩
  refine loopP_intro (fun k : Nat => ⟨[(20, .i k), (19, .i fr.cut.length), (18, .ro 1 (fr.cut.map encI)), (9, .sl 2 0 N), (7, .ptr 1 0 0), (4, .ptr 0 0 0), (2, .i t), (1, .i f)], [.var [.i N, .ro 4 (arcs.map Arc.enc)], frB fr, .arr 1 (rowB N (fun j => hasB (fr.cut.take k) j))], 0⟩) (fun k => k ≤ fr.cut.length ∧ OkS N fr.cut k) (fun k => fr.cut.length - k) 0 ⟨by omega, ⟨by simp⟩⟩ ?_ ?_
  · have h0 : rowB N (fun j => hasB [] j) = List.replicate N [V.b false] := by rw [rowB_rep]; rfl
    simp -implicitDefEqProofs only [zL, List.getElem?_cons_zero, ↓reduceIte, Nat.reduceEqDiff, reduceCtorEq, zV, leE, leH, leB, leV, leVs, keepP, liveP, wfE, wfB, wfV, wfL, List.take_zero, Bool.and_self, and_self, lg0, lg1, leVs, leV, Int.natCast_zero, frB, h0]
  rintro k ⟨hk, hv⟩
  simp -implicitDefEqProofs only [qE, qF, qI, qJ, qK, qL, qM, qN, qO, qP, qQ, qR, qS, qV, qW, qX, qY, qZ, za, zc, zF, zG, zH, zI, zL, ofConst, cells?, List.length_nil, List.length_cons, List.set_cons_zero, splice, zM, List.getD_eq_getElem?_getD, List.getElem?_cons_zero, ↓reduceIte, Nat.reduceEqDiff, Option.getD_some, zN, zO, arrSz, zP, Bool.not_true, Bool.not_false, ↓zQ, ↓zR, zS, zT, List.nil_append, List.append_nil, Nat.zero_add, Nat.reduceAdd, Nat.add_zero, zU, resP, tupV, List.reverse_cons, List.reverse_nil, zV, leE, leH, leB, leV, leVs, keepP, liveP, wfE, wfB, wfV, wfL, List.take_zero, List.all_cons, List.all_nil, isD, isC, Bool.and_true, Bool.and_self, true_and, and_true, and_self, V.v.injEq, Value.int.injEq, Value.bool.injEq, List.not_mem_nil, List.length_map, not_false_eq_true, Bool.false_eq_true, Nat.le_refl, lg0, zW, lg1, ka, lg2, lg3, jg, ↓jh, ↓jj, ↓jk, ↓jl, ↓jm, ↓jo, ↓jq, ↓jt, ↓jv, ↓jy, ↓jz, ↓jE, ↓qaB, ↓qaD, ↓qaJ, ↓qaK, ↓qaL, ↓qaM, List.length_map, List.getElem_map, encI_0, encB_0, Int.toNat_natCast, encB_drop, frB, rowB_len, rowB_get, rowB_set]
  simp only [br, decide_eq_true_eq, decide_eq_false_iff_not]
  refine ⟨fun h2 => ?_, fun h2 => ?_⟩
  · have hk1 : k < fr.cut.length := by omega
    have good := hv.next hk1
    have bad : ¬ ((0 ≤ fr.cut[k] ∧ fr.cut[k] < N) ∧ (0 < k → fr.cut.getD (k - 1) 0 < fr.cut[k])) → false = cuB N arcs f t fr.flow fr.cut := fun h => cuB_f fun hO => h (hO.hs.h k hk1 hk1)
    have hp : 0 < k → fr.cut.getD (k - 1) 0 = fr.cut[((k : Int) - 1).toNat]'(by omega) := by
      intro h0
      have e1 : ((k : Int) - 1).toNat = k - 1 := by omega
      simp only [e1]
      exact getD_nat (by omega)
    have hrow : ∀ i : Nat, i < N → (if (i : Int) = (fr.cut[k].toNat : Nat) then true else hasB (fr.cut.take k) i) = hasB (fr.cut.take (k + 1)) i ∨ ¬ (0 ≤ fr.cut[k]) := by
      intro i hi
      rw [hasB_take hk1]
      by_cases h0 : 0 ≤ fr.cut[k]
      · left; rw [Int.toNat_of_nonneg h0]
      · right; exact h0
    simp only [br, decide_eq_true_eq, decide_eq_false_iff_not, lo, hi, maxLen] at *
    repeat' (first | (refine ⟨(k+1 : _), ?_⟩) | (refine ⟨by omega, ?_⟩) | (refine And.intro ?_ ?_) | (refine (fun _ => ?_)))
    all_goals first | omega | (apply bad; rintro ⟨_, h4⟩; have h4 := h4 (by omega); rw [hp (by omega)] at h4; omega) | (apply bad; omega) | (apply good; refine ⟨by omega, fun h0 => ?_⟩; rw [hp h0]; omega) | (apply good; refine ⟨by omega, fun h0 => ?_⟩; omega) | (congr 1; apply rowB_congr; intro i hi; exact (hrow i hi).resolve_right (by omega))
  have hs : OkS N fr.cut fr.cut.length := ⟨fun j h _ => hv.h j h (by omega)⟩
  have hk0 : fr.cut.take k = fr.cut := List.take_of_length_le (by omega)
  rw [hk0]
  have e1 : ((f.toNat : Nat) : Int) = f := Int.toNat_of_nonneg hf.1
  have e2 : ((t.toNat : Nat) : Int) = t := Int.toNat_of_nonneg ht.1
  simp only [e1, e2]
  refine ⟨hf, by omega, fun h3 => cuB_f fun hO => ?_, fun h3 => ⟨ht, by omega, fun h4 => cuB_f fun hO => ?_, fun h4 => ?_⟩⟩
  · have := hO.hf; simp [this] at h3
  · have := hO.ht; simp [this] at h4
  have h3 : hasB fr.cut f = true := by simpa using h3
  refine fun _ => loopP_intro (fun k : Nat => ⟨[(65, .i k), (64, .i arcs.length), (63, .ro 4 (arcs.map Arc.enc)), (9, .sl 2 0 N), (7, .ptr 1 0 0)], [.dead, frB fr, .arr 1 (rowB N (fun j => hasB fr.cut j))], 0⟩) (fun k => k ≤ arcs.length ∧ OkA arcs fr.flow fr.cut k) (fun k => arcs.length - k) 0 ⟨by omega, ⟨by simp⟩⟩ ?_ ?_
  · simp -implicitDefEqProofs only [zL, List.getElem?_cons_zero, ↓reduceIte, Nat.reduceEqDiff, zV, leE, leH, leB, leV, leVs, keepP, liveP, wfE, wfB, wfV, wfL, Bool.and_self, and_self, lg0, lg1, leVs, leV, Int.natCast_zero, frB]
  rintro k ⟨hk, hv⟩
  simp -implicitDefEqProofs only [qE, qF, qH, qI, qJ, qK, qM, qN, qO, qP, qQ, qR, qS, qU, qV, qW, qX, qY, qZ, zc, zF, zG, zH, zI, zL, ofConst, cells?, List.length_nil, List.length_cons, List.set_cons_zero, splice, zM, List.getD_eq_getElem?_getD, List.getElem?_cons_zero, ↓reduceIte, Nat.reduceEqDiff, Option.getD_some, zN, zO, arrSz, zP, Bool.not_true, Bool.not_false, ↓zQ, ↓zR, zS, zT, List.nil_append, List.cons_append, List.append_nil, Nat.zero_add, Nat.reduceAdd, Nat.add_zero, freshP, zU, resP, tupV, List.reverse_cons, List.reverse_nil, zV, leE, leH, leB, leV, leVs, keepP, liveP, wfE, wfB, wfV, wfL, List.map_cons, List.map_nil, List.drop_zero, List.take_zero, List.drop_nil, Bool.and_true, Bool.and_self, true_and, and_true, and_self, V.v.injEq, Value.int.injEq, Value.bool.injEq, List.not_mem_nil, List.length_map, not_false_eq_true, Bool.false_eq_true, Nat.le_refl, lg0, zW, zX, zZ, lg1, ka, kc, lg2, kg, kh, kn, jg, ↓jh, ↓jj, ↓jk, ↓jl, ↓jm, ↓jo, ↓jp, ↓jq, ↓jr, ↓jv, ↓jy, ↓jz, ↓qaB, ↓qaI, ↓qaJ, List.length_map, List.getElem_map, enc_len, enc_take, enc_0, enc_1, enc_2, enc_isC, encI_0, encB_0, Int.toNat_natCast, frB, rowB_len, rowB_get]
  simp only [br, decide_eq_true_eq, decide_eq_false_iff_not]
  refine ⟨fun h5 => ?_, fun h2 => cuB_t ⟨hs, h3, h4, ⟨fun j h _ => hv.h j h (by omega)⟩⟩⟩
  have hk1 : k < arcs.length := by omega
  have hk2 : k < fr.flow.length := by omega
  have hva := hV.ha arcs[k] (List.getElem_mem hk1)
  have good := hv.next hk1
  have bad : ¬ (_ ∧ _) → false = cuB N arcs f t fr.flow fr.cut := fun h => cuB_f fun hO => h (hO.ha.h k hk1 hk1)
  rw [getD_nat hk2] at good bad
  have e3 : ((arcs[k].from_.toNat : Nat) : Int) = arcs[k].from_ := by omega
  have e4 : ((arcs[k].to.toNat : Nat) : Int) = arcs[k].to := by omega
  simp only [e3, e4] at *
  generalize hasB fr.cut arcs[k].from_ = x at *
  generalize hasB fr.cut arcs[k].to = y at *
  cases x <;> cases y <;> simp only [br, bne_iff_ne, bne_eq_false_iff_eq, lo, hi, maxLen, Bool.not_true, Bool.not_false, forall_const, Bool.false_eq_true, reduceCtorEq, false_implies, true_implies, and_true, true_and] at * <;>
    (repeat' (first | (refine ⟨(k+1 : _), ?_⟩) | (refine ⟨by omega, ?_⟩) | (refine And.intro ?_ ?_) | (refine (fun _ => ?_)))) <;> first | omega | exact good ‹_› | exact bad ‹_› | exact good | (apply bad; simp; omega) | (apply good; simp; try omega) | (apply good; done) | trivial
theorem ok17 (N : Nat) (arcs : List Arc) (f t am : Int) (fr : Fr) (hV : Val N arcs) (hf : 0 ≤ f ∧ f < N) (ht : 0 ≤ t ∧ t < N) : Ok 17 [net N arcs, .i f, .i t, .i am, fr.enc] (Is (.i (accI N arcs f t am fr))) := by
  refine ok_of lw17 (by simp) ?_
  unfold c17 net Fr.enc li
  have hL := hV.hl
  have hN := hV.hn
  simp -implicitDefEqProofs only [qF, qI, qJ, qK, qN, qO, qP, qQ, qR, qS, qT, qV, qX, qZ, zB, zF, zH, zI, zL, ofConst, cells?, List.length_nil, List.length_cons, List.set_cons_zero, zM, List.getD_eq_getElem?_getD, List.getElem?_cons_zero, ↓reduceIte, Nat.reduceEqDiff, Option.getD_some, zN, zP, Bool.not_false, ↓zQ, ↓zR, zS, List.nil_append, List.append_nil, Nat.zero_add, Nat.reduceAdd, Nat.add_zero, reduceCtorEq, freshP, zU, resP, tupV, List.reverse_cons, List.reverse_nil, wfV, List.map_cons, List.map_nil, List.drop_zero, List.take_nil, true_and, V.v.injEq, Value.int.injEq, Value.bool.injEq, Bool.false_eq_true, Nat.le_refl, lg0, zW, zY, zZ, ke, kf, ki, ko, kv, jg, ↓jh, ↓jj, ↓jl, ↓jo, ↓jp, ↓jv, ↓qaJ, ↓qaL, cxN, args0]
  simp only [br, decide_eq_true_eq, decide_eq_false_iff_not]
  refine ⟨fun h => accI_f fun hO => by have := hO.hs; omega, fun h0 => ⟨fun h => accI_f fun hO => by have := hO.hs; omega, fun h1 => ?_⟩⟩
  refine call_is (ok35 N arcs f t fr hV hf) (by simp [Fr.enc, net, li, lendsOk, lendOk, lends, lend, wkL, wk, wkR]) rfl trivial ?_
  cases hfl : flwB N arcs f t fr with
  | false =>
    simp -implicitDefEqProofs only [qF, qI, qJ, qN, qO, qP, qQ, qR, qS, zc, zF, zH, zI, zL, ofConst, List.length_nil, List.length_cons, ↓reduceIte, Nat.reduceEqDiff, zO, zP, Bool.not_false, ↓zQ, ↓zR, zS, List.nil_append, List.append_nil, Nat.zero_add, Nat.reduceAdd, zU, resP, tupV, List.reverse_cons, List.reverse_nil, wfV, true_and, V.v.injEq, Value.int.injEq, Value.bool.injEq, Bool.false_eq_true, jg]
    exact accI_f fun hO => by rw [flwB_t ⟨hO.fl, hO.hv, hO.ht⟩] at hfl; cases hfl
  | true =>
  have hfl : OkF N arcs f t fr.flow ∧ valTo arcs f fr.flow arcs.length = fr.sent ∧ totTo arcs fr.flow arcs.length = fr.cost := by
    apply Classical.byContradiction
    intro h
    rw [flwB_f h] at hfl; cases hfl
  have hl := hfl.1.hl
  simp -implicitDefEqProofs only [qP, qQ, qR, qS, qV, zc, zB, zF, zH, zL, List.length_nil, List.length_cons, zM, List.getD_eq_getElem?_getD, List.getElem?_cons_zero, ↓reduceIte, Nat.reduceEqDiff, Option.getD_some, zO, zP, Bool.not_true, ↓zR, zS, Nat.zero_add, Nat.reduceAdd, reduceCtorEq, List.map_cons, List.map_nil, List.drop_zero, List.take_nil, true_and, Bool.false_eq_true, Nat.le_refl, lg0, zY, ke, ki, ko, kv, ↓jj, ↓jl, ↓jp]
  refine call_is (ok36 N arcs f fr hV hf hl) (by simp [Fr.enc, net, li, lendsOk, lendOk, lends, lend, wkL, wk, wkR]) rfl trivial ?_
  cases hp : prB N arcs f fr.flow fr.price with
  | false =>
    simp -implicitDefEqProofs only [qF, qI, qJ, qN, qO, qP, qQ, qR, qS, zc, zF, zH, zI, zL, ofConst, List.length_nil, List.length_cons, ↓reduceIte, Nat.reduceEqDiff, zO, zP, Bool.not_false, ↓zQ, ↓zR, zS, List.nil_append, List.append_nil, Nat.zero_add, Nat.reduceAdd, zU, resP, tupV, List.reverse_cons, List.reverse_nil, wfV, true_and, V.v.injEq, Value.int.injEq, Value.bool.injEq, Bool.false_eq_true, jg]
    exact accI_f fun hO => by have := prB_t hO.hp; rw [hp] at this; cases this
  | true =>
  have hp : OkP N arcs f fr.flow fr.price := by
    apply Classical.byContradiction
    intro h
    have := prB_f h; rw [hp] at this; cases this
  simp -implicitDefEqProofs only [qE, qF, qI, qJ, qN, qO, qP, qQ, qR, qS, qV, qX, qZ, za, zc, zB, zF, zH, zI, zL, ofConst, List.length_nil, List.length_cons, zM, List.getD_eq_getElem?_getD, List.getElem?_cons_zero, ↓reduceIte, Nat.reduceEqDiff, Option.getD_some, zN, zO, zP, Bool.not_true, Bool.not_false, ↓zQ, ↓zR, zS, zT, List.nil_append, List.append_nil, Nat.zero_add, Nat.reduceAdd, Nat.add_zero, reduceCtorEq, zU, resP, tupV, List.reverse_cons, List.reverse_nil, wfV, List.map_cons, List.map_nil, List.drop_zero, List.take_nil, true_and, V.v.injEq, Value.int.injEq, Value.bool.injEq, List.length_map, Bool.false_eq_true, Nat.le_refl, lg0, zY, lg1, ke, lg2, ki, lg3, ko, kv, jg, ↓jh, ↓jj, ↓jl, ↓jo, ↓jp, ↓jv, ↓jE, ↓qaH, ↓qaJ, List.length_map]
  simp only [br, beq_iff_eq, beq_eq_false_iff_ne, decide_eq_true_eq, decide_eq_false_iff_not]
  refine ⟨fun h4 => fun _ => ⟨fun h5 => accI_t ⟨hfl.1, by omega, hfl.2.1, hfl.2.2, hp, ?_⟩, fun h5 => ⟨fun h6 => by omega, fun h6 => accI_f fun hO => ?_⟩⟩, fun h4 => ⟨fun h5 => ?_, fun h5 => accI_f fun hO => ?_⟩⟩
  · rw [if_pos h4]
    exact List.length_eq_zero_iff.1 (by omega)
  · have := hO.hc
    rw [if_pos h4] at this
    rw [this] at h5
    simp at h5
  · refine call_is (ok37 N arcs f t fr hV hf ht hl) (by simp [Fr.enc, net, li, lendsOk, lendOk, lends, lend, wkL, wk, wkR]) rfl trivial ?_
    cases hc : cuB N arcs f t fr.flow fr.cut with
    | false =>
      simp -implicitDefEqProofs only [qE, qF, qI, qJ, qN, qO, qP, qQ, qR, qS, zF, zH, zI, zL, ofConst, List.length_nil, List.length_cons, ↓reduceIte, Nat.reduceEqDiff, zP, ↓zQ, ↓zR, zS, List.nil_append, List.append_nil, Nat.zero_add, Nat.reduceAdd, zU, resP, tupV, List.reverse_cons, List.reverse_nil, wfV, true_and, V.v.injEq, Value.int.injEq, Value.bool.injEq, Bool.false_eq_true, jg]
      exact accI_f fun hO => by have h6 := hO.hc; rw [if_neg h4] at h6; have := cuB_t h6; rw [hc] at this; cases this
    | true =>
    have hc : OkC N arcs f t fr.flow fr.cut := by
      apply Classical.byContradiction
      intro h
      have := cuB_f h; rw [hc] at this; cases this
    simp -implicitDefEqProofs only [qF, qI, qJ, qN, qO, qP, qQ, qR, qS, zF, zH, zI, zL, ofConst, List.length_nil, List.length_cons, ↓reduceIte, Nat.reduceEqDiff, zP, ↓zQ, ↓zR, zS, List.nil_append, List.append_nil, Nat.zero_add, Nat.reduceAdd, zU, resP, tupV, List.reverse_cons, List.reverse_nil, wfV, true_and, V.v.injEq, Value.int.injEq, Value.bool.injEq, Bool.false_eq_true, jg]
    exact accI_t ⟨hfl.1, by omega, hfl.2.1, hfl.2.2, hp, by rw [if_neg h4]; exact hc⟩
  · have := hO.hs; omega
end Go.Fx.C
namespace Go.Fx
open Go.RowKit

theorem get_app_r : ∀ {a b : Env} {i : Nat}, (∀ p ∈ a, p.1 ≠ i) → get (a ++ b) i = get b i
  | [], _, _, _ => rfl
  | (j, x) :: r, b, i, h => by
    have hj : j ≠ i := h (j, x) (by simp)
    show (if i = j then x else get (r ++ b) i) = _
    rw [if_neg (Ne.symm hj)]
    exact get_app_r fun p hp => h p (by simp [hp])
theorem get_none : ∀ {a : Env} {i : Nat}, (∀ p ∈ a, p.1 ≠ i) → get a i = .any
  | [], _, _ => rfl
  | (j, x) :: r, i, h => by
    have hj : j ≠ i := h (j, x) (by simp)
    show (if i = j then x else get r i) = _
    rw [if_neg (Ne.symm hj)]
    exact get_none fun p hp => h p (by simp [hp])
theorem get_app_l : ∀ {a b : Env} {i : Nat}, (∀ p ∈ b, p.1 ≠ i) → get (a ++ b) i = get a i
  | [], b, i, h => get_none h
  | (j, x) :: r, b, i, h => by
    show (if i = j then x else get (r ++ b) i) = (if i = j then x else get r i)
    rw [get_app_l h]
theorem get_mapf {f : Nat → Nat} (hf : ∀ i j, f i = f j → i = j) : ∀ (a : Env) (i : Nat), get (a.map fun p => (f p.1, p.2)) (f i) = get a i
  | [], _ => rfl
  | (j, x) :: r, i => by
    show (if f i = f j then x else get (r.map fun p => (f p.1, p.2)) (f i)) = (if i = j then x else get r i)
    rw [get_mapf hf r i]
    by_cases h : i = j
    · subst h; simp
    · rw [if_neg h, if_neg fun e => h (hf _ _ e)]
theorem toEnv_get : ∀ (E : Tr) (i : Nat), get E.toEnv i = E.get i
  | .lf, _ => rfl
  | .nd v l r, 0 => rfl
  | .nd v l r, j + 1 => by
    show (if j + 1 = 0 then v else get (l.toEnv.map (fun p => (2 * p.1 + 1, p.2)) ++ r.toEnv.map (fun p => (2 * p.1 + 2, p.2))) (j + 1)) = _
    rw [if_neg (by omega)]
    simp only [Tr.get]
    split
    · rename_i hj
      rw [get_app_l (by rintro p hp; obtain ⟨q, _, rfl⟩ := List.mem_map.1 hp; simp; omega), show j + 1 = 2 * (j / 2) + 1 by omega, get_mapf (f := fun i => 2 * i + 1) (by intros; simp at *; omega)]
      exact toEnv_get l _
    · rename_i hj
      rw [get_app_r (by rintro p hp; obtain ⟨q, _, rfl⟩ := List.mem_map.1 hp; simp; omega), show j + 1 = 2 * (j / 2) + 2 by omega, get_mapf (f := fun i => 2 * i + 2) (by intros; simp at *; omega)]
      exact toEnv_get r _

mutual
theorem wfVB_ok {h : List Blk} : ∀ x : V, wfVB h x = true → wfV h x
  | .sl k _ _, hx => live_of (by simpa [wfVB] using hx)
  | .ptr k _ _, hx => live_of (by simpa [wfVB] using hx)
  | .mp k, hx => live_of (by simpa [wfVB] using hx)
  | .itr k, hx => live_of (by simpa [wfVB] using hx)
  | .agg cs, hx => wfLB_ok cs (by simpa [wfVB] using hx)
  | .tup cs, hx => wfLB_ok cs (by simpa [wfVB] using hx)
  | .clo _ cs, hx => wfLB_ok cs (by simpa [wfVB] using hx)
  | .any, _ | .v _, _ | .ro _ _, _ | .bro _ _, _ | .full _ _, _ | .rp _ _ _ _, _ => by simp [wfV]
theorem wfLB_ok {h : List Blk} : ∀ xs : List V, wfLB h xs = true → wfL h xs
  | [], _ => trivial
  | x :: r, hx => by
    simp only [wfLB, Bool.and_eq_true] at hx
    exact ⟨wfVB_ok x hx.1, wfLB_ok r hx.2⟩
end
theorem wfEB_ok {h : List Blk} : ∀ e : Env, wfEB h e = true → wfE h e
  | [], _ => trivial
  | (_, x) :: r, hx => by
    simp only [wfEB, Bool.and_eq_true] at hx
    exact ⟨wfVB_ok x hx.1, wfEB_ok r hx.2⟩
theorem wfBB_ok {h : List Blk} : ∀ l : List Blk, wfBB h l = true → wfB h l
  | [], _ => trivial
  | .var cs :: r, hx => by simp only [wfBB, Bool.and_eq_true] at hx; exact ⟨wfLB_ok _ hx.1, wfBB_ok r hx.2⟩
  | .dead :: r, hx => wfBB_ok r (by simpa [wfBB] using hx)
  | .arr _ _ :: r, hx => wfBB_ok r (by simpa [wfBB] using hx)
  | .arv _ els :: r, hx => by simp only [wfBB, Bool.and_eq_true] at hx; exact ⟨wfLB_ok _ hx.1, wfBB_ok r hx.2⟩
  | .map es _ :: r, hx => by simp only [wfBB, Bool.and_eq_true] at hx; exact ⟨wfLB_ok _ hx.1, wfBB_ok r hx.2⟩
  | .it m _ _ _ :: r, hx => by simp only [wfBB, Bool.and_eq_true] at hx; exact ⟨wfVB_ok _ hx.1, wfBB_ok r hx.2⟩
  | .rcd _ e :: r, hx => by simp only [wfBB, Bool.and_eq_true] at hx; exact ⟨wfEB_ok _ hx.1, wfBB_ok r hx.2⟩
theorem Tr.wf_ok {h : List Blk} : ∀ (E : Tr), E.wf h = true → ∀ i, wfV h (E.get i)
  | .lf, _, _ => trivial
  | .nd v l r, hx, i => by
    simp only [Tr.wf, Bool.and_eq_true] at hx
    cases i with
    | zero => exact wfVB_ok v hx.1
    | succ j =>
      simp only [Tr.get]
      split
      · exact Tr.wf_ok l hx.2.1 _
      · exact Tr.wf_ok r hx.2.2 _
theorem leTB_ok : ∀ (E E' : Tr), leTB E E' = true → ∀ i, E'.get i = .any ∨ E'.get i = E.get i
  | _, .lf, _, i => .inl rfl
  | .nd v l r, .nd v' l' r', h, i => by
    simp only [leTB, Bool.and_eq_true] at h
    cases i with
    | zero =>
      show v' = .any ∨ v' = v
      have h1 := h.1.1
      split at h1
      · exact .inl rfl
      · exact .inr (eqV_ok h1).symm
    | succ j =>
      simp only [Tr.get]
      split
      · exact leTB_ok l l' h.1.2 _
      · exact leTB_ok r r' h.2 _
  | .lf, .nd v' l' r', h, i => by
    simp only [leTB, Bool.and_eq_true] at h
    cases i with
    | zero =>
      show v' = .any ∨ v' = .any
      have h1 := h.1.1
      split at h1
      · exact .inl rfl
      · cases h1
    | succ j =>
      simp only [Tr.get]
      split
      · exact leTB_ok .lf l' h.1.2 _
      · exact leTB_ok .lf r' h.2 _
theorem leVsB_ok : ∀ {xs ys : List V}, leVsB xs ys = true → leVs xs ys
  | [], [], _ => trivial
  | x :: xs, y :: ys, h => by
    simp only [leVsB, Bool.and_eq_true] at h
    refine ⟨?_, leVsB_ok h.2⟩
    have h1 := h.1
    unfold leV
    split at h1
    · trivial
    · have := eqV_ok h1
      subst this
      split <;> trivial
  | [], _ :: _, h => by simp [leVsB] at h
  | _ :: _, [], h => by simp [leVsB] at h
theorem leBB_ok {b c : Blk} (h : leBB b c = true) : leB b c := by
  unfold leBB at h
  unfold leB
  split at h
  · trivial
  · split at h
    · exact leVsB_ok h
    · cases h
  · split
    · trivial
    · rename_i hne; exact (hne _ rfl).elim
    · have := eqB_ok h
      subst this
      exact ⟨rfl, .inl rfl⟩
    · exact eqB_ok h
theorem leHB_ok : ∀ {h p : List Blk}, leHB h p = true → leH h p
  | _, [], _ => by unfold leH; trivial
  | b :: h, c :: p, hx => by
    simp only [leHB, Bool.and_eq_true] at hx
    exact ⟨leBB_ok hx.1, leHB_ok hx.2⟩
  | [], _ :: _, hx => by simp [leHB] at hx

section
variable {P : Program} {ρ0 : Nat → Loc} {X : Nat → Prop} {w0 : World} {fx : List Nat} {N : Nat}

def GoodT (ρ0 : Nat → Loc) (X : Nat → Prop) (w0 : World) (fx : List Nat) (N : Nat) (p : Pt) (a : Act) (w : World) : Prop :=
  ∃ e b, (∀ i, get e i = p.1.get i) ∧ Good ρ0 X w0 fx N ⟨e, p.2, b⟩ a w

theorem GoodT.le {p q : Pt} {a : Act} {w : World} (hE : ∀ i, q.1.get i = .any ∨ q.1.get i = p.1.get i) (l2 : leH p.2 q.2) (l3 : keepP fx q.2) (l4 : ∀ i, wfV q.2 (q.1.get i)) (l5 : wfB q.2 q.2) (h : GoodT ρ0 X w0 fx N p a w) : GoodT ρ0 X w0 fx N q a w := by
  obtain ⟨e, b, he, ρ, ⟨⟨hf, h1⟩, hk⟩, ⟨hr, hre⟩, h5, h6⟩ := h
  refine ⟨q.1.toEnv, 0, toEnv_get _, dropLoc ρ q.2, ⟨⟨hf.trans drop_fr, fun k hk' => by rw [live_loc (keepP_get l3 k hk')]; exact h1 k hk'⟩, l3⟩, ⟨dropRep hr l2 l5, fun i => ?_⟩, h5, h6.fr drop_fr⟩
  rw [toEnv_get]
  rcases hE i with hg | hg
  · rw [hg]; trivial
  · exact drop_rep _ _ (l4 i) (by rw [hg, ← he]; exact hre i)

theorem joinD_ok {outs ps : List Pt} (h : joinD fx outs = some ps) {q : Pt} (hq : q ∈ outs) {a : Act} {w : World} (hg : GoodT ρ0 X w0 fx N q a w) : ∃ p ∈ ps, GoodT ρ0 X w0 fx N p a w := by
  unfold joinD at h
  split at h
  · simp at hq
  · simp only [Option.some.injEq] at h
    subst h
    exact ⟨q, hq, hg⟩
  · simp only at h
    split at h
    · rename_i hc
      simp only [Option.some.injEq] at h
      subst h
      simp only [Bool.and_eq_true, List.all_eq_true] at hc
      obtain ⟨h1, h2, h3, h4⟩ := hc
      obtain ⟨h5, h6⟩ := h1 q hq
      exact ⟨_, List.mem_singleton_self _, hg.le (leTB_ok _ _ h5) (leHB_ok h6) (keep_of h2) (Tr.wf_ok _ h3) (wfBB_ok _ h4)⟩
    · cases h

theorem goL_ok {α β : Type} {f : α → Option (List β)} : ∀ {xs : List α} {ys : List β}, goL f xs = some ys → ∀ x ∈ xs, ∃ zs, f x = some zs ∧ ∀ z ∈ zs, z ∈ ys
  | [], _, _, x, hx => by simp at hx
  | [y], ys, h, x, hx => by
    simp only [List.mem_singleton] at hx
    subst hx
    exact ⟨ys, h, fun _ h => h⟩
  | y :: y2 :: r, ys, h, x, hx => by
    simp only [goL] at h
    split at h
    · rename_i a b h1 h2
      simp only [Option.some.injEq] at h
      subst h
      rcases List.mem_cons.1 hx with rfl | hx
      · exact ⟨a, h1, fun z hz => List.mem_append_left _ hz⟩
      · obtain ⟨zs, h3, h4⟩ := goL_ok h2 x hx
        exact ⟨zs, h3, fun z hz => List.mem_append_right _ (h4 z hz)⟩
    · cases h
theorem bindL_ok {α β : Type} {l : Option (List α)} {f : α → Option (List β)} {ys : List β} (h : bindL l f = some ys) : ∃ xs, l = some xs ∧ ∀ x ∈ xs, ∃ zs, f x = some zs ∧ ∀ z ∈ zs, z ∈ ys := by
  unfold bindL at h
  split at h
  · cases h
  · exact ⟨_, rfl, goL_ok h⟩

/-- What holds of all states that these places and blocks tell. -/
def AT (b : Nat) (q : Pt) (K : St → Prop) : Prop := ∀ e, (∀ i, get e i = q.1.get i) → K ⟨e, q.2, b⟩

/-- What the run takes yield for is so. -/
def YdOk (y : Nat → YtD) (yy : Nat → Yt) : Prop := ∀ (k : Nat) (xs : List V) (s : St) (E : Tr) (rs : List (V × Pt)) (Z : V → St → Prop), (∀ i, get s.e i = E.get i) → y k xs (E, s.h) = some rs → (∀ r ∈ rs, AT s.b r.2 (Z r.1)) → yy k xs s Z

section
variable {C : Ctr} {it : Itr} {yy : Nat → Yt} {rk : Option Nat} {call : CallD} {mvf : FuncId → Option Nat} (hcall : ∀ f zas h0 mv r h', call f zas h0 mv = some (r, h') → C f zas h0 mv (fun r1 h1 => r1 = r ∧ h1 = h'))
include hcall

theorem putT_get {E : Tr} {e : Env} (he : ∀ i, get e i = E.get i) (d : Option Nat) (x : V) (h : List Blk) (b : Nat) : ∀ i, get ((⟨e, h, b⟩ : St).put d x).e i = (putT E d x).get i := by
  intro i
  cases d with
  | none => exact he i
  | some d =>
    simp only [putT, forceV_eq]
    rw [Tr.get_put _ _ _ _ _ (Nat.lt_succ_self d)]
    show (if i = d then x else get e i) = _
    rw [he]

theorem runD_ok {bn : List Nat} {o : LOper} {b : Nat} {p : Pt} {outs : List Pt} (h : runD call mvf fx bn o b p = some outs) {e : Env} (he : ∀ i, get e i = p.1.get i) {K : St → Prop}
    (hK : ∀ q ∈ outs, ∀ e', (∀ i, get e' i = q.1.get i) → K ⟨e', q.2, b⟩) : aOp { C := C, fx := fx, bn := bn, it := it, y := yy, rk := rk } o.op ⟨e, p.2, b⟩ fun x s' => K (s'.put o.dst x) := by
  unfold runD at h
  split at h
  · cases h
  · rename_i rs hrs
    simp only [Option.some.injEq] at h
    subst h
    refine opD_ok hcall he hrs fun r hr e' he' => ?_
    have := hK (putT r.E o.dst r.x, r.h) (by rw [List.mem_map]; exact ⟨r, hr, rfl⟩) ((⟨e', r.h, b⟩ : St).put o.dst r.x).e (putT_get hcall he' _ _ _ _)
    cases hd : o.dst with
    | none => rw [hd] at this; exact this
    | some d => rw [hd] at this; exact this

theorem operD_ok {bn : List Nat} {o : LOper} {b : Nat} {p : Pt} {outs : List Pt} (h : operD call mvf fx bn o b p = some outs) {e : Env} (he : ∀ i, get e i = p.1.get i) {K : St → Prop}
    (hK : ∀ q ∈ outs, ∀ e', (∀ i, get e' i = q.1.get i) → K ⟨e', q.2, b⟩) : aOper { C := C, fx := fx, bn := bn, it := it, y := yy, rk := rk } o ⟨e, p.2, b⟩ K := by
  unfold operD at h
  unfold aOper
  split at h
  · rename_i hg
    rw [hg]
    exact runD_ok hcall h he hK
  · rename_i g want hg
    rw [hg]
    have hge := he g
    show guardP (get e g) want _ _ _
    split at h
    · rename_i t ht
      rw [hge, ht]
      have hput : ∀ v : Bool, v = t → ∀ i, get ((g, V.b v) :: e) i = p.1.get i := by
        intro v hv i
        subst hv
        show (if i = g then V.b v else get e i) = _
        by_cases hi : i = g
        · rw [if_pos hi, hi, ht]
        · rw [if_neg hi, he]
      have hskip : ∀ v : Bool, v = t → ∀ {outs : List Pt}, some [(putT p.1 o.dst (.v (.tuple #[])), p.2)] = some outs → (∀ q ∈ outs, ∀ e', (∀ i, get e' i = q.1.get i) → K ⟨e', q.2, b⟩) →
          K (((⟨e, p.2, b⟩ : St).put (some g) (.b v)).put o.dst (.v (.tuple #[]))) := by
        intro v hv outs ho hK
        simp only [Option.some.injEq] at ho
        subst ho
        have := hK _ (List.mem_singleton_self _) ((⟨(g, V.b v) :: e, p.2, b⟩ : St).put o.dst (.v (.tuple #[]))).e (putT_get hcall (hput v hv) _ _ _ _)
        cases hd : o.dst with
        | none => rw [hd] at this; exact this
        | some d => rw [hd] at this; exact this
      split at h
      · rename_i htw
        subst htw
        have := runD_ok (it := it) (yy := yy) (rk := rk) hcall h (hput t rfl) hK
        cases t with
        | true => exact ⟨fun _ => this, fun h => by cases h⟩
        | false => exact ⟨fun h => (by cases h), fun _ => this⟩
      · rename_i htw
        have hn : (!want) = t := by cases t <;> cases want <;> simp_all
        have := hskip (!want) hn h hK
        cases t with
        | true => cases want with
          | true => exact absurd rfl htw
          | false => exact ⟨fun _ => this, fun h => by cases h⟩
        | false => cases want with
          | true => exact ⟨fun h => (by cases h), fun _ => this⟩
          | false => exact absurd rfl htw
    · rename_i u ht
      rw [hge, ht]
      simp only [Option.some.injEq] at h
      subst h
      have := hK _ (List.mem_singleton_self _) ((⟨e, p.2, b⟩ : St).put o.dst (.v (.tuple #[]))).e (putT_get hcall he _ _ _ _)
      show K ((⟨e, p.2, b⟩ : St).put o.dst (.v (.tuple #[])))
      cases hd : o.dst with
      | none => rw [hd] at this; exact this
      | some d => rw [hd] at this; exact this
    · cases h

theorem opsD_ok {b : Nat} {K : St → Prop} : ∀ {ls : List LOper} {p : Pt} {outs : List Pt}, opsD call mvf fx b ls p = some outs → ∀ {e : Env}, (∀ i, get e i = p.1.get i) →
    (∀ q ∈ outs, ∀ e', (∀ i, get e' i = q.1.get i) → K ⟨e', q.2, b⟩) → aOps { C := C, fx := fx, bn := [], it := it, y := yy, rk := rk } ls ⟨e, p.2, b⟩ K
  | [], p, outs, h, e, he, hK => by
    simp only [opsD, Option.some.injEq] at h
    subst h
    exact hK _ (List.mem_singleton_self _) e he
  | o :: r, p, outs, h, e, he, hK => by
    simp only [opsD] at h
    obtain ⟨xs, h1, h2⟩ := bindL_ok h
    refine operD_ok hcall h1 he fun q hq e' he' => ?_
    obtain ⟨zs, h3, h4⟩ := h2 q hq
    exact opsD_ok h3 he' fun z hz => hK z (h4 z hz)

theorem yldD_ok {y : Nat → YtD} (hy : YdOk y yy) {d : Option Nat} {f : Operand} {xs : List Operand} {p : Pt} {outs : List Pt} (h : yldD y d f xs p = some outs) {e : Env} (he : ∀ i, get e i = p.1.get i) {b : Nat} {K : St → Prop}
    (hK : ∀ q ∈ outs, ∀ e', (∀ i, get e' i = q.1.get i) → K ⟨e', q.2, b⟩) : yieldP { C := C, fx := fx, bn := [], it := it, y := yy, rk := rk } f xs ⟨e, p.2, b⟩ fun x s' => K (s'.put d x) := by
  unfold yldD at h
  unfold yieldP
  rw [ev_ok he]
  split at h
  · rename_i k hk
    rw [hk]
    split at h
    · rename_i rs hrs
      simp only [Option.some.injEq] at h
      subst h
      have hm : xs.map (ev e) = xs.map (evT p.1) := List.map_congr_left fun x _ => ev_ok he x
      show yy k (xs.map (ev e)) _ _
      rw [hm]
      refine hy k _ _ p.1 rs _ he hrs fun r hr e' he' => ?_
      have := hK (putT r.2.1 d r.1, r.2.2) (by rw [List.mem_map]; exact ⟨r, hr, rfl⟩) ((⟨e', r.2.2, b⟩ : St).put d r.1).e (putT_get hcall he' _ _ _ _)
      cases d with
      | none => exact this
      | some d => exact this
    · cases h
  · cases h

theorem operYD_ok {y : Nat → YtD} (hy : YdOk y yy) {o : LOper} {b : Nat} {p : Pt} {outs : List Pt} (h : operYD call mvf fx y o b p = some outs) {e : Env} (he : ∀ i, get e i = p.1.get i) {K : St → Prop}
    (hK : ∀ q ∈ outs, ∀ e', (∀ i, get e' i = q.1.get i) → K ⟨e', q.2, b⟩) : aOperY { C := C, fx := fx, bn := [], it := it, y := yy, rk := rk } o ⟨e, p.2, b⟩ K := by
  unfold operYD at h
  unfold aOperY
  split at h
  · rename_i f xs ho
    rw [ho]
    show gP o.g o.dst (yieldP _ f xs) ⟨e, p.2, b⟩ K
    unfold gP
    split at h
    · rename_i hg
      rw [hg]
      exact yldD_ok hcall hy h he hK
    · rename_i g want hg
      rw [hg]
      have hge := he g
      show guardP (get e g) want _ _ _
      split at h
      · rename_i t ht
        rw [hge, ht]
        have hput : ∀ v : Bool, v = t → ∀ i, get ((g, V.b v) :: e) i = p.1.get i := by
          intro v hv i
          subst hv
          show (if i = g then V.b v else get e i) = _
          by_cases hi : i = g
          · rw [if_pos hi, hi, ht]
          · rw [if_neg hi, he]
        have hskip : ∀ v : Bool, v = t → ∀ {outs : List Pt}, some [(putT p.1 o.dst (.v (.tuple #[])), p.2)] = some outs → (∀ q ∈ outs, ∀ e', (∀ i, get e' i = q.1.get i) → K ⟨e', q.2, b⟩) →
            K (((⟨e, p.2, b⟩ : St).put (some g) (.b v)).put o.dst (.v (.tuple #[]))) := by
          intro v hv outs ho hK
          simp only [Option.some.injEq] at ho
          subst ho
          have := hK _ (List.mem_singleton_self _) ((⟨(g, V.b v) :: e, p.2, b⟩ : St).put o.dst (.v (.tuple #[]))).e (putT_get hcall (hput v hv) _ _ _ _)
          cases hd : o.dst with
          | none => rw [hd] at this; exact this
          | some d => rw [hd] at this; exact this
        split at h
        · rename_i htw
          subst htw
          have := yldD_ok (C := C) (it := it) (rk := rk) (fx := fx) hcall hy h (hput t rfl) hK
          cases t with
          | true => exact ⟨fun _ => this, fun h => by cases h⟩
          | false => exact ⟨fun h => (by cases h), fun _ => this⟩
        · rename_i htw
          have hn : (!want) = t := by cases t <;> cases want <;> simp_all
          have := hskip (!want) hn h hK
          cases t with
          | true => cases want with
            | true => exact absurd rfl htw
            | false => exact ⟨fun _ => this, fun h => by cases h⟩
          | false => cases want with
            | true => exact ⟨fun h => (by cases h), fun _ => this⟩
            | false => exact absurd rfl htw
      · rename_i u ht
        rw [hge, ht]
        simp only [Option.some.injEq] at h
        subst h
        have := hK _ (List.mem_singleton_self _) ((⟨e, p.2, b⟩ : St).put o.dst (.v (.tuple #[]))).e (putT_get hcall he _ _ _ _)
        show K ((⟨e, p.2, b⟩ : St).put o.dst (.v (.tuple #[])))
        cases hd : o.dst with
        | none => rw [hd] at this; exact this
        | some d => rw [hd] at this; exact this
      · cases h
  · rename_i hne
    split
    · rename_i f xs ho; exact absurd ho (hne f xs)
    · exact operD_ok hcall h he hK

theorem opsYD_ok {y : Nat → YtD} (hy : YdOk y yy) {b : Nat} {K : St → Prop} : ∀ {ls : List LOper} {p : Pt} {outs : List Pt}, opsYD call mvf fx y b ls p = some outs → ∀ {e : Env}, (∀ i, get e i = p.1.get i) →
    (∀ q ∈ outs, ∀ e', (∀ i, get e' i = q.1.get i) → K ⟨e', q.2, b⟩) → aOpsY { C := C, fx := fx, bn := [], it := it, y := yy, rk := rk } ls ⟨e, p.2, b⟩ K
  | [], p, outs, h, e, he, hK => by
    simp only [opsYD, Option.some.injEq] at h
    subst h
    exact hK _ (List.mem_singleton_self _) e he
  | o :: r, p, outs, h, e, he, hK => by
    simp only [opsYD] at h
    obtain ⟨xs, h1, h2⟩ := bindL_ok h
    refine operYD_ok hcall hy h1 he fun q hq e' he' => ?_
    obtain ⟨zs, h3, h4⟩ := h2 q hq
    exact opsYD_ok hy h3 he' fun z hz => hK z (h4 z hz)

theorem planD_ok {b : Nat} {K : St → Prop} : ∀ {l : LPlan} {bn : List Nat} {p : Pt} {outs : List Pt}, planD call mvf fx b l bn p = some outs → ∀ {e : Env}, (∀ i, get e i = p.1.get i) →
    (∀ q ∈ outs, ∀ e', (∀ i, get e' i = q.1.get i) → K ⟨e', q.2, b⟩) → awP { C := C, fx := fx, bn := [], it := it, y := yy, rk := rk } l bn K ⟨e, p.2, b⟩
  | .done, bn, p, outs, h, e, he, hK => by
    simp only [planD, Option.some.injEq] at h
    subst h
    exact hK _ (List.mem_singleton_self _) e he
  | .take i D o q, bn, p, outs, h, e, he, hK => by
    simp only [planD] at h
    obtain ⟨xs, h1, h2⟩ := bindL_ok h
    refine operD_ok hcall h1 he fun q' hq e' he' => ?_
    obtain ⟨zs, h3, h4⟩ := h2 q' hq
    have hrd : rdB o.op e bn = rdT o.op p.1 bn := by
      unfold rdB rdT
      cases o.op with
      | load n a => simp only [ev_ok he]; cases evT p.1 a <;> rfl
      | _ => rfl
    show awP _ q (rdB o.op e bn) K _
    rw [hrd]
    exact planD_ok h3 he' fun z hz => hK z (h4 z hz)
  | .alt i o r q q', bn, p, outs, h, e, he, hK => by
    simp only [planD] at h
    split at h
    · rename_i x y h1 h2
      simp only [Option.some.injEq] at h
      subst h
      obtain ⟨xs, h3, h4⟩ := bindL_ok h1
      refine ⟨operD_ok hcall h3 he fun q' hq e' he' => ?_, planD_ok h2 he fun z hz => hK z (List.mem_append_right _ hz)⟩
      obtain ⟨zs, h5, h6⟩ := h4 q' hq
      exact planD_ok h5 he' fun z hz => hK z (List.mem_append_left _ (h6 z hz))
    · cases h
  | .none, bn, p, outs, h, e, he, hK => trivial
end

/-- How a piece of text is left. -/
def Out.ex : Out → Exit
  | .normal _ => .normal
  | .exit j _ => .exit j
  | .ret _ => .ret
def Out.pt : Out → Pt
  | .normal p => p
  | .exit _ p => p
  | .ret p => p

theorem GoodT.reserve {p : Pt} {a : Act} {w : World} (n : Nat) (h : GoodT ρ0 X w0 fx N p a w) : ∃ e, (∀ i, get e i = p.1.get i) ∧ Good ρ0 X w0 fx N ⟨e, roomD n p.2, p.2.length⟩ a w := by
  obtain ⟨e, b, he, hg⟩ := h
  refine ⟨e, he, ?_⟩
  have := hg.reserve n p.2.length
  cases n with
  | zero => simpa [roomD] using this
  | succ n => exact this

theorem others_mem {o : Out} : ∀ {l : List Out}, o ∈ l → (∀ p, o ≠ .normal p) → o ∈ others l
  | [], h, _ => by simp at h
  | x :: r, h, hn => by
    rcases List.mem_cons.1 h with rfl | h'
    · cases o with
      | normal p => exact (hn p rfl).elim
      | _ => simp [others]
    · clear h
      have ih := others_mem h' hn
      cases x with
      | normal p => exact ih
      | _ => simp only [others]; exact List.mem_cons_of_mem _ ih
theorem norms_mem {p : Pt} : ∀ {l : List Out}, Out.normal p ∈ l → p ∈ norms l
  | [], h => by simp at h
  | x :: r, h => by
    rcases List.mem_cons.1 h with rfl | h'
    · simp [norms]
    · clear h
      have ih := norms_mem h'
      cases x with
      | normal p => simp only [norms]; exact List.mem_cons_of_mem _ ih
      | _ => exact ih

theorem Tr.get_ren (g : Nat → Option Nat) : ∀ (t : Tr) (i : Nat), (t.ren g).get i = renK g (t.get i)
  | .lf, _ => by simp [Tr.ren, Tr.get, renK]
  | .nd v l r, i => by
    cases i with
    | zero => rfl
    | succ j =>
      simp only [Tr.ren, Tr.get]
      split
      · exact Tr.get_ren g l _
      · exact Tr.get_ren g r _

mutual
theorem renK_rep {w : World} {ρ1 ρ2 : Nat → Loc} {g : Nat → Option Nat} (hS : ∀ b, Sta ρ1 X w b → Sta ρ2 X w b) (hL : ∀ b, Len ρ1 w b → Len ρ2 w b) (hg : ∀ k j, g k = some j → (ρ1 k).real = true → ρ2 j = ρ1 k) :
    ∀ (x : V) (val : Value), RepV ρ1 X w x val → RepV ρ2 X w (renK g x) val
  | .any, _, _ => trivial
  | .v _, _, hx => hx
  | .ro sz els, val, hx => RepD_mono (fun b hb => ⟨hS b hb, rfl⟩) (.ro sz els) val hx
  | .bro sz els, val, hx => by
    obtain ⟨a, len, cap, h1, h2, h3, h4, h5⟩ := hx
    refine ⟨a, len, cap, h1, h2, h3, h4, h5.imp id ?_⟩
    rintro ⟨b, off, h6, h7, h8⟩
    exact ⟨b, off, h6, hL b h7, RepEls_mono (fun b hb => ⟨hS b hb, rfl⟩) sz b rfl off els h8⟩
  | .full sz els, val, hx => by
    obtain ⟨a, len, h1, h2, h4, h5⟩ := hx
    refine ⟨a, len, h1, h2, h4, h5.imp id ?_⟩
    rintro ⟨b, off, h6, h7, h8⟩
    exact ⟨b, off, h6, hL b h7, RepEls_mono (fun b hb => ⟨hS b hb, rfl⟩) sz b rfl off els h8⟩
  | .rp sz els i f, val, hx => by
    obtain ⟨b, off, h6, h7, h8⟩ := hx
    exact ⟨b, off, h6, hL b h7, RepEls_mono (fun b hb => ⟨hS b hb, rfl⟩) sz b rfl off els h8⟩
  | .itr k, val, hx => by
    simp only [renK]
    split
    · rename_i j hj
      obtain ⟨h4, h5⟩ := hx
      simp only [RepV]
      rw [hg k j hj h4]
      exact ⟨h4, h5⟩
    · trivial
  | .sl k i n, val, hx => by
    simp only [renK]
    split
    · rename_i j hj
      obtain ⟨cap, h1, h2, h3⟩ := hx
      refine ⟨cap, h1, h2, h3.imp id ?_⟩
      rintro ⟨h4, h5⟩
      rw [hg k j hj h4]
      exact ⟨h4, h5⟩
    · trivial
  | .ptr k i f, val, hx => by
    simp only [renK]
    split
    · rename_i j hj
      obtain ⟨h4, h5⟩ := hx
      simp only [RepV]
      rw [hg k j hj h4]
      exact ⟨h4, h5⟩
    · trivial
  | .mp k, val, hx => by
    simp only [renK]
    split
    · rename_i j hj
      obtain ⟨h4, h5⟩ := hx
      simp only [RepV]
      rw [hg k j hj h4]
      exact ⟨h4, h5⟩
    · trivial
  | .agg cs, val, hx => by
    obtain ⟨arr, h1, h2⟩ := hx
    exact ⟨arr, h1, rensK_rep hS hL hg cs _ h2⟩
  | .tup cs, val, hx => by
    obtain ⟨arr, h1, h2⟩ := hx
    exact ⟨arr, h1, rensK_rep hS hL hg cs _ h2⟩
  | .clo f cs, val, hx => by
    obtain ⟨arr, h1, h2⟩ := hx
    exact ⟨arr, h1, rensK_rep hS hL hg cs _ h2⟩
theorem rensK_rep {w : World} {ρ1 ρ2 : Nat → Loc} {g : Nat → Option Nat} (hS : ∀ b, Sta ρ1 X w b → Sta ρ2 X w b) (hL : ∀ b, Len ρ1 w b → Len ρ2 w b) (hg : ∀ k j, g k = some j → (ρ1 k).real = true → ρ2 j = ρ1 k) :
    ∀ (xs : List V) (vs : List Value), RepL ρ1 X w xs vs → RepL ρ2 X w (rensK g xs) vs
  | [], [], _ => trivial
  | x :: r, u :: us, hx => ⟨renK_rep hS hL hg x u hx.1, rensK_rep hS hL hg r us hx.2⟩
  | [], _ :: _, hx => hx.elim
  | _ :: _, [], hx => hx.elim
end
theorem rensK_map (g : Nat → Option Nat) : ∀ xs : List V, rensK g xs = xs.map (renK g)
  | [] => rfl
  | x :: r => by simp [rensK, rensK_map g r]

theorem get_renEK (g : Nat → Option Nat) : ∀ (e : Env) (i : Nat), get (renEK g e) i = renK g (get e i)
  | [], _ => by simp [renEK, get, renK]
  | (j, x) :: r, i => by
    simp only [renEK, get]
    split
    · rfl
    · exact get_renEK g r i
theorem renBK_rep {w : World} {ρ1 ρ2 : Nat → Loc} {g : Nat → Option Nat} (hS : ∀ b, Sta ρ1 X w b → Sta ρ2 X w b) (hL : ∀ b, Len ρ1 w b → Len ρ2 w b) (hg : ∀ k j, g k = some j → (ρ1 k).real = true → ρ2 j = ρ1 k)
    {k j : Nat} (hkj : ρ2 j = ρ1 k) {B : Blk} (hB : RepB ρ1 X w k B) : RepB ρ2 X w j (renBK g B) := by
  cases B with
  | dead => simp only [renBK, RepB] at hB ⊢; rw [hkj]; exact hB
  | arr sz els =>
    simp only [renBK, RepB] at hB ⊢
    rw [hkj]
    refine ⟨hB.1, hB.2.imp id ?_⟩
    rintro ⟨h1, c, T, h2, h3, h4, h5⟩
    exact ⟨h1, c, T, h2, h3, h4, RepEls_mono (fun b hb => ⟨hS b hb, rfl⟩) sz _ rfl _ _ h5⟩
  | var cs =>
    simp only [renBK, RepB] at hB ⊢
    rw [hkj]
    obtain ⟨h1, c, T, h2, h3⟩ := hB
    exact ⟨h1, c, T, h2, rensK_rep hS hL hg _ _ h3⟩
  | arv sz els =>
    simp only [renBK, RepB] at hB ⊢
    rw [hkj]
    obtain ⟨h0, h1, c, T, h2, h3, h4, h5⟩ := hB
    refine ⟨h0, h1, c, T, h2, h3, by simpa using h4, fun i e he => ?_⟩
    simp only [List.getElem?_map, Option.map_eq_some_iff] at he
    obtain ⟨e0, he0, rfl⟩ := he
    refine ⟨by rw [rensK_map, List.length_map]; exact (h5 i e0 he0).1, fun f x hx => ?_⟩
    simp only [rensK_map, List.getElem?_map, Option.map_eq_some_iff] at hx
    obtain ⟨x0, hx0, rfl⟩ := hx
    obtain ⟨u, h6, h7⟩ := (h5 i e0 he0).2 f x0 hx0
    exact ⟨u, h6, renK_rep hS hL hg _ _ h7⟩
  | map es cl =>
    simp only [renBK, RepB] at hB ⊢
    rw [hkj]
    obtain ⟨h1, arr, h2, h3, h4⟩ := hB
    refine ⟨h1, arr, h2, by rw [h3]; simp, ?_⟩
    rw [show (List.map (fun e : Value × V × Nat => (e.1, renK g e.2.1, e.2.2)) es).map (·.2.1) = rensK g (es.map (·.2.1)) by rw [rensK_map]; simp]
    exact rensK_rep hS hL hg _ _ h4
  | it m s sn l =>
    simp only [renBK, RepB] at hB ⊢
    rw [hkj]
    obtain ⟨h1, x, h2, h3⟩ := hB
    exact ⟨h1, x, h2, renK_rep hS hL hg _ _ h3⟩
  | rcd t e =>
    simp only [renBK, RepB] at hB ⊢
    rw [hkj]
    exact ⟨hB.1, fun i => by rw [get_renEK]; exact renK_rep hS hL hg _ _ (hB.2 i)⟩

/-- .. the others are forgotten. -/
theorem gc_rep {ρ : Nat → Loc} {w : World} {h : List Blk} (hr : Rep ρ X w h) {ι : List Nat} (hn : ι.Nodup) (hlt : ∀ k ∈ ι, k < h.length) :
    Rep (calleeLoc ρ ι) X w (ι.map fun k => renBK (pos ι) (blk h k)) := by
  refine ⟨?_, ?_, ?_, fun b ho => hr.disj b (callee_own ho), ?_, hr.xlt⟩
  · intro i j hij hi hj
    obtain ⟨a, ha, ea⟩ := callee_real hi
    obtain ⟨c, hc, ec⟩ := callee_real hj
    rw [ea] at hi ⊢
    rw [ec] at hj ⊢
    refine hr.inj a c (fun e => hij ?_) hi hj
    subst e
    have h1 := pos_of_get hn ha
    have h2 := pos_of_get hn hc
    rw [h1] at h2
    simpa using h2
  · intro k hk
    have : ι[k]? = none := by simpa using hk
    simp [calleeLoc, this]
  · intro j B hB
    simp only [List.getElem?_map, Option.map_eq_some_iff] at hB
    obtain ⟨k, hk, rfl⟩ := hB
    have hkl := hlt k (List.mem_of_getElem? hk)
    have hb : h[k]? = some (blk h k) := by simp [blk, List.getD_eq_getElem?_getD, List.getElem?_eq_getElem hkl]
    exact renBK_rep (fun b hb => ⟨hb.1, fun ho => hb.2.1 (callee_own ho), hb.2.2⟩) (fun b hb => callee_len hb) (fun k' j' hp _ => callee_at (pos_some hp)) (callee_at hk) (hr.blk k _ hb)
  · intro j hj
    unfold calleeLoc at hj ⊢
    split at hj
    · exact hr.lt _ hj
    · cases hj

theorem gc_fr {ρ : Nat → Loc} {w : World} {ι : List Nat} : Fr ρ w (calleeLoc ρ ι) w := ⟨rfl, rfl, rfl, Nat.le_refl _, fun _ _ ho => ⟨rfl, fun h => ho (callee_own h)⟩⟩
theorem gc_val {ρ : Nat → Loc} {w : World} {ι : List Nat} {x : V} {val : Value} (h : RepV ρ X w x val) : RepV (calleeLoc ρ ι) X w (renK (pos ι) x) val :=
  renK_rep (fun b hb => ⟨hb.1, fun ho => hb.2.1 (callee_own ho), hb.2.2⟩) (fun b hb => callee_len hb) (fun k' j' hp _ => callee_at (pos_some hp)) x val h

theorem keepN_get {n : Nat} {h : List Blk} {names : List Nat} {k : Nat} (hk : k < n) : (keepN n h names)[k]? = some k := by
  unfold keepN
  rw [List.getElem?_append_left (by simpa using hk)]
  simp [hk]

theorem numB_ok {L : List Nat} {h : List Blk} {n : Nat} (hb : numB L h n = true) : L.Nodup ∧ (∀ k ∈ L, k < h.length) ∧ n ≤ h.length := by
  unfold numB at hb
  simp only [Bool.and_eq_true, List.all_eq_true, Nat.blt_eq, Nat.ble_eq] at hb
  exact ⟨nodup_of hb.1.1, hb.1.2, hb.2⟩

theorem gcD_ok {n0 : Nat} (hfn : ∀ k ∈ fx, k < n0) {p q : Pt} (h : gcD fx n0 p = some q) {a : Act} {w : World} (hg : GoodT ρ0 X w0 fx N p a w) : GoodT ρ0 X w0 fx N q a w := by
  unfold gcD at h
  split at h
  · simp only [Option.some.injEq] at h
    subst h
    exact hg
  generalize hL : keepN n0 p.2 p.1.namesT = L at h
  unfold gcK at h
  simp only at h
  split at h
  · rename_i hc
    simp only [Bool.and_eq_true] at hc
    simp only [Option.some.injEq] at h
    subst h
    obtain ⟨hn, hlt, _⟩ := numB_ok hc.1
    obtain ⟨e, b, he, ρ, ⟨⟨hf, h1⟩, hk⟩, ⟨hr, hre⟩, h5, h6⟩ := hg
    refine ⟨(p.1.ren (pos L)).toEnv, 0, toEnv_get _, calleeLoc ρ L, ⟨⟨hf.trans gc_fr, fun k hk' => ?_⟩, keep_of hc.2⟩, ⟨gc_rep hr hn hlt, fun i => ?_⟩, h5, h6.fr gc_fr⟩
    · rw [callee_at (by rw [← hL]; exact keepN_get (hfn k hk'))]
      exact h1 k hk'
    · rw [toEnv_get, Tr.get_ren, ← he]
      exact gc_val (hre i)
  · cases h

theorem ofEnv_get : ∀ (e : Env) (i : Nat), (ofEnv e).get i = get e i
  | [], _ => rfl
  | (j, x) :: r, i => by
    simp only [ofEnv, forceNat_eq, putT, forceV_eq]
    rw [Tr.get_put _ _ _ _ _ (Nat.lt_succ_self j), ofEnv_get r i]
    rfl
theorem setPsT_get : ∀ (ps : List Nat) (xs : List V) (e : Env) (E : Tr), (∀ i, get e i = E.get i) → ∀ i, get (setPs ps xs e) i = (setPsT ps xs E).get i
  | [], [], _, _, he, i => he i
  | [], _ :: _, _, _, he, i => he i
  | _ :: _, [], _, _, he, i => he i
  | p :: ps, x :: xs, e, E, he, i => by
    simp only [setPs, setPsT]
    refine setPsT_get ps xs _ _ (fun j => ?_) i
    simp only [putT, forceV_eq]
    rw [Tr.get_put _ _ _ _ _ (Nat.lt_succ_self p), ← he j]
    rfl

/-- What is to hold of an outcome. -/
def Out.K (Nn : St → Prop) (Xx : Nat → St → Prop) (Rr : St → Prop) : Out → Prop
  | .normal q => ∀ b, AT b q Nn
  | .exit j q => ∀ b, AT b q (Xx j)
  | .ret q => ∀ b, AT b q Rr

/-- The run, zas an executor. -/
def CwA (call : CallD) (mvf : FuncId → Option Nat) (iter : ItD) (C : Ctr) (it : Itr) (l : LCode) : Cx → (St → Prop) → (Nat → St → Prop) → (St → Prop) → St → Prop := fun cx Nn Xx Rr s =>
  ∃ (n0 : Nat) (yd : Nat → YtD) (E : Tr) (outs : List Out), (cx.C = C ∧ cx.it = it ∧ cx.bn = []) ∧ (∀ k ∈ cx.fx, k < n0) ∧ YdOk yd cx.y ∧ (∀ i, get s.e i = E.get i) ∧ cw call mvf iter l cx.fx n0 yd cx.rk (E, s.h) = some outs ∧ ∀ o ∈ outs, o.K Nn Xx Rr

/-- What the run's iterators know. -/
def ItOk (P : Program) (iter : ItD) : Prop := ∀ f zas fx k yd h hs, iter f zas fx k yd h = some hs → Callable P f ∧ ∀ (Y : Yt) (K : List Blk → Prop),
  (∀ xs E h b rs Z, yd xs (E, h) = some rs → (∀ r ∈ rs, AT b r.2 (Z r.1)) → Y xs ⟨E.toEnv, h, b⟩ Z) → (∀ h' ∈ hs, K h') → Iter P f zas fx k Y h K

section
variable {call : CallD} {mvf : FuncId → Option Nat} {iter : ItD}

/-- The run of one piece of text is sound. -/
def CW (P : Program) (X : Nat → Prop) (N : Nat) (call : CallD) (mvf : FuncId → Option Nat) (iter : ItD) (c : Code) : Prop :=
  ∀ (l0 l : LCode), rlC P N c l0 = some l → ∀ (r : Option Nat) (fx : List Nat) (yy : Nat → Yt) (rk : Option Nat) (ρ0 : Nat → Loc) (w0 : World), (r = none ∨ (codeRd c = true ∧ inRd l = true)) →
    ROk r ⟨fun f zas h0 mv R => Callable P f ∧ Fn P f zas h0 mv R, fx, [], fun f zas fx k Y h K => Callable P f ∧ Iter P f zas fx k Y h K, yy, rk⟩ ρ0 → (∀ k, YOk P ρ0 X w0 fx k (yy k)) →
    ∀ (n0 : Nat) (yd : Nat → YtD), (∀ k ∈ fx, k < n0) → YdOk yd yy → ∀ (Q : Exit → Act → World → Prop), ¬ LetsOut Q → ∀ (p : Pt) (outs : List Out), cw call mvf iter l fx n0 yd rk p = some outs →
      (∀ o ∈ outs, ∀ a w, GoodT ρ0 X w0 fx N o.pt a w → Q o.ex a w) → ∀ a w, GoodT ρ0 X w0 fx N p a w → c.wpIn (FR r) 0 P Q a w

theorem CW.snd {c : Code} (h : CW P X N call mvf iter c) {l0 l : LCode} (hm : rlC P N c l0 = some l) :
    SndA P X N c (codeRd c = true ∧ inRd l = true) (CwA call mvf iter (fun f zas h0 mv R => Callable P f ∧ Fn P f zas h0 mv R) (fun f zas fx k Y h K => Callable P f ∧ Iter P f zas fx k Y h K) l) := by
  intro r cx ρ0 w0 hcx hrd hro hy Q Nn Xx Rr hQo hN hX hR s a w ⟨n0, yd, E, outs, ⟨h1, h2, h3⟩, h4, h5, h6, h7, h8⟩ hg
  obtain ⟨C, fx, bn, it, y, rk⟩ := cx
  simp only at h1 h2 h3 h4 h5 h7 hy hg
  subst h1 h2 h3
  refine h l0 l hm r fx y rk ρ0 w0 hrd hro hy n0 yd h4 h5 Q hQo (E, s.h) outs h7 (fun o ho a w hgd => ?_) a w ⟨s.e, s.b, h6, hg⟩
  obtain ⟨e, b, he, hgd⟩ := hgd
  have := h8 o ho
  cases o with
  | normal q => exact hN _ _ _ (this b e he) hgd
  | exit j q => exact hX j _ _ _ (this b e he) hgd
  | ret q => exact hR _ _ _ (this b e he) hgd

/-- The statement. -/
theorem cw_rfn (hP : P.follows .mixedOrders = true) (hcall : ∀ f zas h0 mv r h', call f zas h0 mv = some (r, h') → Callable P f ∧ Fn P f zas h0 mv (fun r1 h1 => r1 = r ∧ h1 = h')) (hiter : ItOk P iter)
    {g : Operand} {ps : Array Tmp} {asg body : Code} (ha : CW P X N call mvf iter asg) (hb : CW P X N call mvf iter body) : CW P X N call mvf iter (.rangeFunc g ps asg body) := by
  intro l0 l hm r fx yy rk ρ0 w0 hrd hro hy n0 yd hfn hyd Q hQo p outs hd hQ a w hg
  cases l0 with
  | rfn g' ps' la0 lb0 =>
    simp only [rlC] at hm
    split at hm
    · rename_i la lb hma hmb
      split at hm
      · rename_i hc
        simp only [Bool.and_eq_true] at hc
        simp only [Option.some.injEq] at hm
        subst hm
        obtain ⟨⟨hps, hcd⟩, hin⟩ := hc
        have hps' : ∀ p ∈ ps.toList, p < N := fun p hp => by simpa using List.all_eq_true.1 hps p hp
        obtain ⟨e0, b0, he0, hg⟩ := hg
        have hg1 : Good ρ0 X w0 fx N ⟨p.1.toEnv, p.2, b0⟩ a w := by
          obtain ⟨ρ, g1, ⟨g2, g3⟩, g4⟩ := hg
          exact ⟨ρ, g1, ⟨g2, fun i => by rw [toEnv_get, ← he0]; exact g3 i⟩, g4⟩
        have hfx1 : ∀ n, p.2.length < n → ∀ j ∈ n :: p.2.length :: fx, j < n + 1 := by
          intro n hn j hj
          obtain ⟨ρ, ⟨_, hkp⟩, _⟩ := hg
          rcases List.mem_cons.1 hj with rfl | hj
          · omega
          · rcases List.mem_cons.1 hj with rfl | hj
            · omega
            · have := keepP_get hkp j hj
              unfold liveP at this
              rcases Nat.lt_or_ge j p.2.length with h | h
              · omega
              · rw [List.getElem?_eq_none h] at this
                exact this.elim
        have hS := rfn_okA (g := g) (ha.snd hma) (hb.snd hmb) ⟨(by simpa using hcd : _ ∧ _).1, (by simpa using hin : _ ∧ _).1⟩ ⟨(by simpa using hcd : _ ∧ _).2, (by simpa using hin : _ ∧ _).2⟩ hps'
        refine hS r ⟨_, fx, [], _, yy, rk⟩ ρ0 w0 ⟨fun f zas h0 mv R h => h, fun f zas fx k Y h K h => h⟩ (hrd.imp id fun _ => trivial) hro hy Q
          (fun s => ∃ q, Out.normal q ∈ outs ∧ (∀ i, get s.e i = q.1.get i) ∧ s.h = q.2) (fun j s => ∃ q, Out.exit j q ∈ outs ∧ (∀ i, get s.e i = q.1.get i) ∧ s.h = q.2) (fun s => ∃ q, Out.ret q ∈ outs ∧ (∀ i, get s.e i = q.1.get i) ∧ s.h = q.2) hQo ?_ ?_ ?_ _ a w ?_ hg1
        · rintro ⟨e, h, b⟩ a w ⟨q, h1, h2, rfl⟩ hgd
          exact hQ _ h1 a w ⟨e, b, h2, hgd⟩
        · rintro j ⟨e, h, b⟩ a w ⟨q, h1, h2, rfl⟩ hgd
          exact hQ _ h1 a w ⟨e, b, h2, hgd⟩
        · rintro ⟨e, h, b⟩ a w ⟨q, h1, h2, rfl⟩ hgd
          exact hQ _ h1 a w ⟨e, b, h2, hgd⟩
        · simp only [cw] at hd
          simp only [ev_ok (toEnv_get p.1)]
          split at hd
          · rename_i gf caps hcl
            try rw [hcl]
            try simp only
            split at hd
            · rename_i hir
              simp only [forceNat_eq] at hd
              obtain ⟨hs, h1, h2⟩ := bindL_ok hd
              obtain ⟨hcb, h3⟩ := hiter _ _ _ _ _ _ _ h1
              refine ⟨?_, hcb, h3 _ _ ?_ ?_⟩
              · unfold inRdB at hir
                unfold inRdP
                split at hir
                · trivial
                · split at hir
                  · rename_i hk
                    simp only [rcdK, hk]
                  · cases hir
              · intro xs E h b rs Z hrs hZ
                simp only [rndD] at hrs
                split at hrs
                · rename_i e hk
                  split at hrs
                  · rename_i hlen
                    obtain ⟨os, h4, h5⟩ := bindL_ok hrs
                    obtain ⟨oa, h6, h7⟩ := bindL_ok h4
                    simp only [rcdK, hk]
                    refine ⟨trivial, hlen, h.length + 1, _, _, oa, ⟨rfl, rfl, rfl⟩, ?_, (fun _ _ _ _ _ _ _ h _ => by simp at h), setPsT_get _ _ _ _ (fun i => (ofEnv_get e i).symm), h6, fun o ho => ?_⟩
                    · exact hfx1 h.length (List.getElem?_eq_some_iff.1 hk).1
                    · obtain ⟨zs, h8, h9⟩ := h7 o ho
                      cases o with
                      | normal q =>
                        simp only [begRdD] at h8
                        split at h8
                        · rename_i e' hk'
                          intro b' ea hea
                          simp only [begRd, rcdK, hk']
                          refine ⟨trivial, h.length + 1, _, _, zs, ⟨rfl, rfl, rfl⟩, ?_, (fun _ _ _ _ _ _ _ h _ => by simp at h), hea, h8, fun o2 ho2 => ?_⟩
                          · exact hfx1 h.length (List.getElem?_eq_some_iff.1 hk).1
                          · obtain ⟨zs2, h10, h11⟩ := h5 o2 (h9 o2 ho2)
                            have key : ∀ (bb : Bool) (t : RS) (q2 : Pt), endRdD p.2.length h.length bb t q2 = some zs2 → ∀ b2, AT b2 q2 (endRd p.2.length h.length b Z bb t) := by
                              intro bb t q2 hq2 b2 e2 he2
                              simp only [endRdD] at hq2
                              split at hq2
                              · rename_i er hkr
                                split at hq2
                                · rename_i eg hkg
                                  simp only [Option.some.injEq] at hq2
                                  subst hq2
                                  simp only [endRd, rcdK, hkr, hkg]
                                  exact ⟨trivial, trivial, hZ _ (h11 _ (List.mem_singleton_self _)) _ fun i => (ofEnv_get eg i).symm⟩
                                · cases hq2
                              · cases hq2
                            cases o2 with
                            | normal q2 => exact fun b2 => key _ _ _ h10 b2
                            | exit j q2 => exact fun b2 => key _ _ _ h10 b2
                            | ret q2 => exact fun b2 => key _ _ _ h10 b2
                        · cases h8
                      | exit j q => simp [begRdD] at h8
                      | ret q => simp [begRdD] at h8
                  · cases hrs
                · cases hrs
              · intro h' hh'
                obtain ⟨zs, h4, h5⟩ := h2 h' hh'
                simp only [endLpD] at h4
                split at h4
                · rename_i t e hk
                  split at h4
                  · rename_i hw
                    simp only [Bool.and_eq_true] at hw
                    simp only [endLp, rcdK, hk]
                    refine ⟨⟨wfEB_ok _ hw.1, wfBB_ok _ hw.2⟩, ?_⟩
                    split at h4
                    · simp only [Option.some.injEq] at h4
                      subst h4
                      exact ⟨_, h5 _ (List.mem_singleton_self _), fun i => (ofEnv_get e i).symm, rfl⟩
                    · simp only [Option.some.injEq] at h4
                      subst h4
                      exact ⟨_, h5 _ (List.mem_singleton_self _), fun i => (ofEnv_get e i).symm, rfl⟩
                    · simp only [Option.some.injEq] at h4
                      subst h4
                      exact ⟨_, h5 _ (List.mem_singleton_self _), fun i => (ofEnv_get e i).symm, rfl⟩
                    · cases h4
                  · cases h4
                · cases h4
            · cases hd
          · cases hd
      · cases hm
    · cases hm
  | _ => simp [rlC] at hm

/-- THE RUN IS SOUND. -/
theorem cw_sound (hP : P.follows .mixedOrders = true) (hcall : ∀ f zas h0 mv r h', call f zas h0 mv = some (r, h') → Callable P f ∧ Fn P f zas h0 mv (fun r1 h1 => r1 = r ∧ h1 = h')) (hiter : ItOk P iter) : ∀ c : Code, CW P X N call mvf iter c := by
  have hcl : ∀ f zas h0 mv r h', call f zas h0 mv = some (r, h') → (fun f zas h0 mv R => Callable P f ∧ Fn P f zas h0 mv R) f zas h0 mv (fun r1 h1 => r1 = r ∧ h1 = h') := hcall
  have hcx : ∀ (fx : List Nat) (yy : Nat → Yt) (rk : Option Nat), Cx.ok ⟨fun f zas h0 mv R => Callable P f ∧ Fn P f zas h0 mv R, fx, [], fun f zas fx k Y h K => Callable P f ∧ Iter P f zas fx k Y h K, yy, rk⟩ P := fun _ _ _ => ⟨fun f zas h0 mv R h => h, fun f zas fx k Y h K h => h⟩
  intro c
  induction c with
  | skip =>
    intro l0 l hm r fx yy rk ρ0 w0 hrd hro hy n0 yd hfn hyd Q hQo p outs hd hQ a w hg
    simp only [rlC, Option.some.injEq] at hm
    subst hm
    simp only [cw, Option.some.injEq] at hd
    subst hd
    exact wpIn_skip (hQ (.normal p) (by simp) a w hg)
  | label i =>
    intro l0 l hm r fx yy rk ρ0 w0 hrd hro hy n0 yd hfn hyd Q hQo p outs hd hQ a w hg
    simp only [rlC, Option.some.injEq] at hm
    subst hm
    simp only [cw, Option.some.injEq] at hd
    subst hd
    exact wpIn_label (hQ (.normal p) (by simp) a w hg)
  | scope c ih =>
    intro l0 l hm r fx yy rk ρ0 w0 hrd hro hy n0 yd hfn hyd Q hQo p outs hd hQ a w hg
    simp only [rlC] at hm
    rcases hrd with rfl | hrd
    · refine (wpIn_wide (n := 0)).2 (wp_scope_straight ((wpIn_wide (n := 0)).1 (ih l0 l hm none fx yy rk ρ0 w0 (.inl rfl) hro hy n0 yd hfn hyd (Exit.noGoto Q) (fun ⟨a, w, hq⟩ => hQo ⟨a, w, hq⟩) p outs hd (fun o ho a w h => ?_) a w hg)))
      have := hQ o ho a w h
      cases o <;> exact this
    · exact absurd hrd.1 (by simp [codeRd])
  | ret =>
    intro l0 l hm r fx yy rk ρ0 w0 hrd hro hy n0 yd hfn hyd Q hQo p outs hd hQ a w hg
    simp only [rlC, Option.some.injEq] at hm
    subst hm
    simp only [cw, Option.some.injEq] at hd
    subst hd
    exact wpIn_ret (hQ (.ret p) (by simp) a w hg)
  | exit i =>
    intro l0 l hm r fx yy rk ρ0 w0 hrd hro hy n0 yd hfn hyd Q hQo p outs hd hQ a w hg
    simp only [rlC, Option.some.injEq] at hm
    subst hm
    simp only [cw, Option.some.injEq] at hd
    subst hd
    exact wpIn_exit (hQ (.exit i p) (by simp) a w hg)
  | region id ops draw =>
    intro l0 l hm r fx yy rk ρ0 w0 hrd hro hy n0 yd hfn hyd Q hQo p outs hd hQ a w hg
    have hdf : r = none ∨ ops.toList.all notDefer = true := hrd.imp (fun h => h) fun h => h.1
    have hN : ∀ {ps : List Pt}, outs = ps.map .normal → ∀ (s : St) a w, (∃ q ∈ ps, (∀ i, get s.e i = q.1.get i) ∧ s.h = q.2) → Good ρ0 X w0 fx N s a w → Q .normal a w := by
      rintro ps rfl s a w ⟨q, hq, h1, h2⟩ hg
      exact hQ (.normal q) (by rw [List.mem_map]; exact ⟨q, hq, rfl⟩) a w ⟨s.e, s.b, h1, by show Good ρ0 X w0 fx N ⟨s.e, q.2, s.b⟩ a w; rw [← h2]; exact hg⟩
    simp only [rlC] at hm
    split at hm
    · split at hm
      · rename_i x hr
        simp only [Option.some.injEq] at hm
        subst hm
        simp only [cw, Option.map_eq_some_iff] at hd
        obtain ⟨ps, h1, h2⟩ := hd
        obtain ⟨e, he, hgr⟩ := hg.reserve _
        exact wpIn_region_list (listIn hQo _ (hdf.imp (fun h => h) fun h => List.all_eq_true.1 h) _ _ (aOps_sound (hcx fx yy rk) rfl (hN h2.symm) _ _ _ _ a w hr hgr (opsD_ok hcl h1 he fun q hq e' he' => ⟨q, hq, he', rfl⟩)))
      · cases hm
    · split at hm
      · rename_i x hr
        split at hm
        · rename_i hc
          simp only [Bool.and_eq_true] at hc
          simp only [Option.some.injEq] at hm
          subst hm
          rcases hrd with rfl | hrd
          · simp only [cw, Option.map_eq_some_iff] at hd
            obtain ⟨ps, h1, h2⟩ := hd
            obtain ⟨e, he, hgr⟩ := hg.reserve _
            exact (wpIn_wide (n := 0)).2 (qui_sound (cx := ⟨fun f zas h0 mv R => Callable P f ∧ Fn P f zas h0 mv R, fx, [], fun f zas fx k Y h K => Callable P f ∧ Iter P f zas fx k Y h K, yy, rk⟩) hP (hN h2.symm) hr hc.1 hc.2 hgr (opsD_ok hcl h1 he fun q hq e' he' => ⟨q, hq, he', rfl⟩))
          · exact absurd hrd.2 (by simp [inRd])
        · cases hm
      · cases hm
    · split at hm
      · rename_i x hr
        split at hm
        · rename_i hc
          simp only [Bool.and_eq_true] at hc
          simp only [Option.some.injEq] at hm
          subst hm
          rcases hrd with rfl | hrd
          · simp only [cw, Option.map_eq_some_iff] at hd
            obtain ⟨ps, h1, h2⟩ := hd
            obtain ⟨e, he, hgr⟩ := hg.reserve _
            exact (wpIn_wide (n := 0)).2 (tail_sound hP (hcx fx yy rk) rfl (hN h2.symm) hr hc.1 hc.2 hgr (opsD_ok hcl h1 he fun q hq e' he' => ⟨q, hq, he', rfl⟩))
          · exact absurd hrd.2 (by simp [inRd])
        · cases hm
      · cases hm
    · split at hm
      · rename_i x hr
        simp only [Option.some.injEq] at hm
        subst hm
        simp only [cw] at hd
        split at hd
        · cases hd
        · rename_i ps h1
          simp only [Option.map_eq_some_iff] at hd
          obtain ⟨js, h2, h3⟩ := hd
          obtain ⟨e, he, hgr⟩ := hg.reserve _
          refine tree_in hP (hcx fx yy rk) hQo (K := fun s => ∃ q ∈ ps, (∀ i, get s.e i = q.1.get i) ∧ s.h = q.2) ?_ hdf hr hgr (planD_ok hcl h1 he fun q hq e' he' => ⟨q, hq, he', rfl⟩)
          rintro s a w ⟨q, hq, h4, h5⟩ hg
          obtain ⟨j, hj, hgj⟩ := joinD_ok h2 hq (⟨s.e, s.b, h4, by rw [← h5]; exact hg⟩ : GoodT ρ0 X w0 fx N q a w)
          subst h3
          exact hQ (.normal j) (by rw [List.mem_map]; exact ⟨j, hj, rfl⟩) a w hgj
      · cases hm
    · split at hm
      · rename_i x hr
        split at hm
        · rename_i hc
          simp only [Option.some.injEq] at hm
          subst hm
          rcases hrd with rfl | hrd
          · simp only [cw, Option.map_eq_some_iff] at hd
            obtain ⟨ps, h1, h2⟩ := hd
            obtain ⟨e, he, hgr⟩ := hg.reserve _
            have hops := opsYD_ok (C := fun f zas h0 mv R => Callable P f ∧ Fn P f zas h0 mv R) (it := fun f zas fx k Y h K => Callable P f ∧ Iter P f zas fx k Y h K) (rk := rk) (K := fun s => ∃ q ∈ ps, (∀ i, get s.e i = q.1.get i) ∧ s.h = q.2) hcl hyd h1 he fun q hq e' he' => ⟨q, hq, he', rfl⟩
            cases draw with
            | false => exact wpIn_region_list (aOpsY_sound (hcx fx yy rk) hy (hN h2.symm) _ _ _ _ a w hr hgr hops)
            | true =>
              simp only [Bool.not_true, Bool.false_or, Bool.and_eq_true] at hc
              exact yreg_in hP (hcx fx yy rk) hy hQo (hN h2.symm) hr hc.1 hc.2 hgr hops
          · exact absurd hrd.2 (by simp [inRd])
        · cases hm
      · cases hm
    · simp only [Option.some.injEq] at hm
      subst hm
      simp [cw] at hd
    · cases hm
  | seq x y iha ihb =>
    intro l0 l hm r fx yy rk ρ0 w0 hrd hro hy n0 yd hfn hyd Q hQo p outs hd hQ a w hg
    have key : ∀ {x' y' lx ly : LCode} {p : Pt}, rlC P N x lx = some x' → rlC P N y ly = some y' → (r = none ∨ (codeRd x = true ∧ inRd x' = true)) → (r = none ∨ (codeRd y = true ∧ inRd y' = true)) →
        andD (cw call mvf iter x' fx n0 yd rk p) (cw call mvf iter y' fx n0 yd rk) = some outs → GoodT ρ0 X w0 fx N p a w → (Code.seq x y).wpIn (FR r) 0 P Q a w := by
      intro x' y' lx ly p h1 h2 hra hrb hd hg
      unfold andD at hd
      obtain ⟨os, h3, h4⟩ := bindL_ok hd
      refine wpIn_seq (iha _ _ h1 r fx yy rk ρ0 w0 hra hro hy n0 yd hfn hyd _ (LetsOut_then hQo) p os h3 (fun o ho a w h => ?_) a w hg)
      obtain ⟨zs, h5, h6⟩ := h4 o ho
      cases o with
      | normal q => exact ihb _ _ h2 r fx yy rk ρ0 w0 hrb hro hy n0 yd hfn hyd Q hQo q zs h5 (fun o ho => hQ o (h6 o ho)) a w h
      | exit j q =>
        simp only [Option.some.injEq] at h5
        subst h5
        exact hQ _ (h6 _ (by simp)) a w h
      | ret q =>
        simp only [Option.some.injEq] at h5
        subst h5
        exact hQ _ (h6 _ (by simp)) a w h
    simp only [rlC] at hm
    split at hm
    · split at hm
      · rename_i x' y' h1 h2
        simp only [Option.some.injEq] at hm
        subst hm
        exact key h1 h2 (hrd.imp (fun h => h) fun h => by simp only [codeRd, inRd, Bool.and_eq_true] at h; exact ⟨h.1.1, h.2.1⟩) (hrd.imp (fun h => h) fun h => by simp only [codeRd, inRd, Bool.and_eq_true] at h; exact ⟨h.1.2, h.2.2⟩) hd hg
      · cases hm
    · split at hm
      · rename_i x' y' h1 h2
        simp only [Option.some.injEq] at hm
        subst hm
        simp only [cw] at hd
        split at hd
        · rename_i q hf
          obtain ⟨e, b, he, hgd⟩ := hg
          obtain ⟨s', ⟨g1, g2⟩, hgd'⟩ := frzP_good (K := fun s => (∀ i, get s.e i = q.1.get i) ∧ s.h = q.2) _ _ (frzD_ok (b := b) _ p.1 p.2 e he hf fun e' he' => ⟨he', rfl⟩) hgd
          exact key h1 h2 (hrd.imp (fun h => h) fun h => by simp only [codeRd, inRd, Bool.and_eq_true] at h; exact ⟨h.1.1, h.2.1⟩) (hrd.imp (fun h => h) fun h => by simp only [codeRd, inRd, Bool.and_eq_true] at h; exact ⟨h.1.2, h.2.2⟩) hd ⟨s'.e, s'.b, g1, by rw [← g2]; exact hgd'⟩
        · cases hd
      · cases hm
    · simp only [Option.some.injEq] at hm
      subst hm
      simp [cw] at hd
    · cases hm
  | cond c x y iha ihb =>
    intro l0 l hm r fx yy rk ρ0 w0 hrd hro hy n0 yd hfn hyd Q hQo p outs hd hQ a w hg
    simp only [rlC] at hm
    split at hm
    · split at hm
      · rename_i x' y' h1 h2
        simp only [Option.some.injEq] at hm
        subst hm
        have hra : r = none ∨ (codeRd x = true ∧ inRd x' = true) := hrd.imp (fun h => h) fun h => by simp only [codeRd, inRd, Bool.and_eq_true] at h; exact ⟨h.1.1, h.2.1⟩
        have hrb : r = none ∨ (codeRd y = true ∧ inRd y' = true) := hrd.imp (fun h => h) fun h => by simp only [codeRd, inRd, Bool.and_eq_true] at h; exact ⟨h.1.2, h.2.2⟩
        simp only [cw] at hd
        have hev : ∀ t, evT p.1 c = .v (.bool t) → a.eval c = .bool t := by
          intro t ht
          obtain ⟨e, b, he, ρ, _, ⟨_, hre⟩, _⟩ := hg
          have := ev_rep hre c
          rw [ev_ok he, ht] at this
          exact this
        split at hd
        · rename_i ht
          refine wpIn_cond (hev _ ht) ?_
          exact iha _ _ h1 r fx yy rk ρ0 w0 hra hro hy n0 yd hfn hyd Q hQo p outs hd hQ a w hg
        · rename_i ht
          refine wpIn_cond (hev _ ht) ?_
          exact ihb _ _ h2 r fx yy rk ρ0 w0 hrb hro hy n0 yd hfn hyd Q hQo p outs hd hQ a w hg
        · cases hd
      · cases hm
    · cases hm
  | block i x iha =>
    intro l0 l hm r fx yy rk ρ0 w0 hrd hro hy n0 yd hfn hyd Q hQo p outs hd hQ a w hg
    simp only [rlC] at hm
    split at hm
    · split at hm
      · rename_i x' h1
        simp only [Option.some.injEq] at hm
        subst hm
        simp only [cw, blockD] at hd
        split at hd
        · cases hd
        · rename_i os h2
          split at hd
          · cases hd
          · rename_i ps h3
            simp only [Option.some.injEq] at hd
            subst hd
            have hnorm : ∀ q a w, Out.normal q ∈ os.map (leave i) → GoodT ρ0 X w0 fx N q a w → Q .normal a w := by
              intro q a w hq hgq
              obtain ⟨j, hj, hgj⟩ := joinD_ok h3 (norms_mem hq) hgq
              exact hQ (.normal j) (by simp only [List.mem_append, List.mem_map]; exact .inl ⟨j, hj, rfl⟩) a w hgj
            refine wpIn_block (iha _ _ h1 r fx yy rk ρ0 w0 hrd hro hy n0 yd hfn hyd (Exit.inBlock i Q) (fun ⟨a, w, hq⟩ => hQo ⟨a, w, hq⟩) p os h2 (fun o ho a w h => ?_) a w hg)
            cases o with
            | normal q => exact hnorm q a w (by rw [List.mem_map]; exact ⟨_, ho, rfl⟩) h
            | exit j q =>
              show if j = i then _ else _
              split
              · rename_i hj
                exact hnorm q a w (by rw [List.mem_map]; exact ⟨_, ho, by simp [leave, hj]⟩) h
              · rename_i hj
                exact hQ (.exit j q) (List.mem_append_right _ (others_mem (by rw [List.mem_map]; exact ⟨_, ho, by simp [leave, hj]⟩) (by simp))) a w h
            | ret q => exact hQ (.ret q) (List.mem_append_right _ (others_mem (by rw [List.mem_map]; exact ⟨_, ho, rfl⟩) (by simp))) a w h
      · cases hm
    · cases hm
  | loop x iha =>
    intro l0 l hm r fx yy rk ρ0 w0 hrd hro hy n0 yd hfn hyd Q hQo p outs hd hQ a w hg
    simp only [rlC] at hm
    split at hm
    · split at hm
      · rename_i x' h1
        simp only [Option.some.injEq] at hm
        subst hm
        simp only [cw] at hd
        refine wpIn_loop_ghost (fun n a w => ∃ q zs, loopD fx n0 (cw call mvf iter x' fx n0 yd rk) n q = some zs ∧ (∀ z ∈ zs, z ∈ outs) ∧ GoodT ρ0 X w0 fx N q a w) 3000 ⟨p, outs, hd, fun _ h => h, hg⟩ ?_
        rintro n a' w' ⟨q, zs, h2, h3, hgq⟩
        cases n with
        | zero => simp [loopD] at h2
        | succ n =>
          simp only [loopD, andD] at h2
          split at h2
          rotate_left
          · cases h2
          rename_i qg hqg
          have hgq' := gcD_ok hfn hqg hgq
          obtain ⟨os, h4, h5⟩ := bindL_ok h2
          refine iha _ _ h1 r fx yy rk ρ0 w0 hrd hro hy n0 yd hfn hyd _ (LetsOut_then hQo) qg os h4 (fun o ho a w h => ?_) a' w' hgq'
          obtain ⟨ys, h6, h7⟩ := h5 o ho
          cases o with
          | normal q' => exact ⟨n, Nat.lt_succ_self n, q', ys, h6, fun z hz => h3 z (h7 z hz), h⟩
          | exit j q' =>
            simp only [Option.some.injEq] at h6
            subst h6
            exact hQ _ (h3 _ (h7 _ (by simp))) a w h
          | ret q' =>
            simp only [Option.some.injEq] at h6
            subst h6
            exact hQ _ (h3 _ (h7 _ (by simp))) a w h
      · cases hm
    · cases hm
  | rangeFunc g ps asg body iha ihb => exact cw_rfn hP hcall hiter iha ihb
  | _ => intro l0 l hm; simp [rlC] at hm
end

theorem resD_ok {p : Pt} {e : Env} (he : ∀ i, get e i = p.1.get i) {K : List V → Prop} : ∀ (ls : List LRes) (acc xs : List V), resD p ls = some xs → K (acc.reverse ++ xs) → resP p.2 e ls acc K
  | [], acc, xs, h, hK => by
    simp only [resD, Option.some.injEq] at h
    subst h
    simpa [resP] using hK
  | .tmp t :: r, acc, xs, h, hK => by
    simp only [resD] at h
    split at h
    · rename_i ys hy
      simp only [Option.some.injEq] at h
      subst h
      simp only [resP, he]
      exact resD_ok he r _ ys hy (by simpa using hK)
    · cases h
  | .cell a n :: r, acc, xs, h, hK => by
    simp only [resD] at h
    split at h
    · rename_i x ys hx hy
      simp only [Option.some.injEq] at h
      subst h
      simp only [resP, he]
      exact load_ok (K := fun x => resP p.2 e r (x :: acc) K) hx (resD_ok he r _ ys hy (by simpa using hK))
    · cases h

theorem argsT_get : ∀ (i : Nat) (xs : List V) (E : Tr) (j : Nat), (argsT i xs E).get j = if i ≤ j ∧ j < i + xs.length then (xs[j - i]?).getD .any else E.get j
  | i, [], E, j => by
    simp only [argsT, List.length_nil, Nat.add_zero]
    rw [if_neg (by omega)]
  | i, x :: r, E, j => by
    simp only [argsT]
    rw [argsT_get (i + 1) r]
    simp only [putT, forceV_eq, List.length_cons]
    rw [Tr.get_put _ _ _ _ _ (Nat.lt_succ_self i)]
    by_cases h : j = i
    · subst h
      rw [if_neg (by omega), if_pos rfl, if_pos (by omega)]
      simp
    · by_cases h2 : i + 1 ≤ j ∧ j < i + 1 + r.length
      · rw [if_pos h2, if_pos (by omega), show j - i = (j - (i + 1)) + 1 by omega]
        simp
      · rw [if_neg h2, if_neg h, if_neg (by omega)]

theorem args_get (xs : List V) (j : Nat) : get (args0 0 xs) j = (argsT 0 xs .lf).get j := by
  rw [args0_get, argsT_get]
  simp only [Nat.zero_le, if_true, Nat.sub_zero, Nat.zero_add, true_and]
  split
  · rfl
  · rename_i h
    have : xs[j]? = none := by simpa using h
    rw [this]
    rfl

/-- FROM A RUN TO A CONTRACT. -/
theorem body_ok (hP : P.follows .mixedOrders = true) {call : CallD} {mvf : FuncId → Option Nat} {iter : ItD} (hcall : ∀ f zas h0 mv r h', call f zas h0 mv = some (r, h') → Callable P f ∧ Fn P f zas h0 mv (fun r1 h1 => r1 = r ∧ h1 = h')) (hiter : ItOk P iter)
    {f : FuncId} {en : Ent} (hl : rlF P f en.code = some (en.code, en.rs, en.nt)) {args : List V} {h0 : List Blk} {mv : List Nat} {r : V} {h' : List Blk}
    (hd : bodyD call mvf iter en args h0 mv ((List.range h0.length).filter fun k => !(hasN mv k)) = some (r, h')) : Fn P f args h0 mv (fun r1 h1 => r1 = r ∧ h1 = h') := by
  generalize hfxd : ((List.range h0.length).filter fun k => !(hasN mv k)) = fx at hd
  unfold bodyD at hd
  split at hd
  · rename_i hc
    simp only [Bool.and_eq_true, decide_eq_true_eq] at hc
    split at hd
    · rename_i outs hcw
      unfold rlF at hl
      split at hl
      · rename_i fn hf
        split at hl
        · rename_i c rs' hb hres ht
          simp only [Bool.and_eq_true, Bool.not_eq_true', decide_eq_true_eq] at ht
          cases hm : rlC P fn.ntmps c en.code with
          | none => simp [hm] at hl
          | some l1 =>
            simp only [hm, Option.map_some, Option.some.injEq, Prod.mk.injEq] at hl
            obtain ⟨rfl, hrs, hnt⟩ := hl
            have hfx : keepP fx h0 := keep_of hc.2
            have hmv : ∀ k, k < h0.length → k ∉ mv → k ∈ fx := by
              intro k hk hkm
              rw [← hfxd, List.mem_filter]
              refine ⟨by simpa using hk, ?_⟩
              cases hh : hasN mv k with
              | true => exact absurd (hasN_iff.1 hh) hkm
              | false => rfl
            intro ρ X w vals hr ha
            have hvl := RepL_len ha
            refine (callsIn_wide (n := 0)).1 (callsIn_of_wp_marks hf hb trivial ?_)
            have hg : GoodT ρ X w fx fn.ntmps (argsT 0 args .lf, h0) { tmps := vals.toArray ++ Array.replicate (fn.ntmps - vals.toArray.size) undef, defers := [] } w :=
              ⟨args0 0 args, 0, args_get args, ρ, ⟨⟨Fr.refl _ _, fun _ _ => rfl⟩, hfx⟩, ⟨hr, args0_rep ha _⟩, by simp; omega, Marks.nil⟩
            have hend : ∀ p, finD fx h0.length en.rs p = some (r, h') → ∀ s, (∀ i, get s.e i = p.1.get i) → s.h = p.2 → ∀ a w', Good ρ X w fx fn.ntmps s a w' → ∃ v, (results fn a.tmps).run P w' = .ok v w' ∧ ∃ val r1 h1 ρ', Ending.returned v = .returned val ∧ ((r1 = r ∧ h1 = h') ∧ h0.length ≤ h1.length) ∧ Fr ρ w ρ' w' ∧ Rep ρ' X w' h1 ∧ RepV ρ' X w' r1 val ∧
                ∀ k, k < h0.length → k ∉ mv → ρ' k = ρ k := by
              rintro p hfin ⟨e, h, b⟩ he rfl a w' ⟨ρ', ⟨⟨hf1, hfx1⟩, hk1⟩, ⟨hr1, he1⟩, hN1, hd1⟩
              unfold finD at hfin
              split at hfin
              · cases hfin
              · rename_i xs hxs
                generalize hL : keepN h0.length p.2 (namesL xs) = L at hfin
                simp only at hfin
                split at hfin
                · rename_i hcc
                  simp only [Bool.and_eq_true] at hcc
                  simp only [Option.some.injEq, Prod.mk.injEq] at hfin
                  obtain ⟨rfl, rfl⟩ := hfin
                  obtain ⟨hn, hlt, hle⟩ := numB_ok hcc.1
                  obtain ⟨ys, vs, h5, h6, h7⟩ := resP_run hr1 he1 (K := fun ys => ys = xs) fn.results.toList rs' [] [] hres trivial (by rw [hrs]; exact resD_ok he _ [] xs hxs rfl)
                  simp only [List.reverse_nil, List.nil_append] at h5
                  subst h5
                  refine ⟨tupU vs, results_run ht.1 h7, _, _, _, calleeLoc ρ' L, rfl, ⟨⟨rfl, rfl⟩, ?_⟩, hf1.trans gc_fr, gc_rep hr1 hn hlt, gc_val (tup_rep h6), fun k hk hkm => ?_⟩
                  · rw [List.length_map, ← hL]
                    simp [keepN]
                  · rw [callee_at (by rw [← hL]; exact keepN_get hk)]
                    exact hfx1 k (hmv k hk hkm)
                · cases hfin
            have hone : ∀ o ∈ outs, (∃ p, o = .normal p ∨ o = .ret p) ∧ finD fx h0.length en.rs o.pt = some (r, h') := by
              intro o ho
              unfold endD at hd
              split at hd
              · simp only [List.mem_singleton] at ho; subst ho; exact ⟨⟨_, .inl rfl⟩, hd⟩
              · simp only [List.mem_singleton] at ho; subst ho; exact ⟨⟨_, .inr rfl⟩, hd⟩
              · cases hd
            refine cw_sound (P := P) (X := X) (N := fn.ntmps) hP hcall hiter c _ _ hm none fx (fun _ _ _ _ => False) none ρ w (.inl rfl) trivial (fun _ => YOk_none) h0.length _ (fun k hk => by rw [← hfxd, List.mem_filter] at hk; simpa using hk.1)
              (fun _ _ _ _ _ _ _ h _ => by simp at h) _ ?_ _ outs hcw (fun o ho a w' hgd => ?_) _ _ hg
            · rintro ⟨a, w', val, _, _, _, hq, _⟩
              cases hq
            · obtain ⟨⟨p, hp⟩, hfin⟩ := hone o ho
              obtain ⟨e, b, he, hgd⟩ := hgd
              rcases hp with rfl | rfl
              · exact leaves_of (hend p hfin ⟨e, p.2, b⟩ he rfl) a.defers a w' rfl hgd
              · exact leaves_of (hend p hfin ⟨e, p.2, b⟩ he rfl) a.defers a w' rfl hgd
        · cases hl
      · cases hl
    · cases hd
  · cases hd

theorem heapsD_ok : ∀ {outs : List Out} {hs : List (List Blk)}, heapsD outs = some hs → ∀ o ∈ outs, (∃ p, (o = .normal p ∨ o = .ret p) ∧ p.2 ∈ hs)
  | [], _, _, o, ho => by simp at ho
  | x :: r, hs, h, o, ho => by
    simp only [heapsD] at h
    split at h
    · rename_i p l hl
      simp only [Option.some.injEq] at h
      subst h
      rcases List.mem_cons.1 ho with rfl | ho
      · exact ⟨p, .inl rfl, by simp⟩
      · obtain ⟨q, h1, h2⟩ := heapsD_ok hl o ho
        exact ⟨q, h1, by simp [h2]⟩
    · rename_i p l hl
      simp only [Option.some.injEq] at h
      subst h
      rcases List.mem_cons.1 ho with rfl | ho
      · exact ⟨p, .inr rfl, by simp⟩
      · obtain ⟨q, h1, h2⟩ := heapsD_ok hl o ho
        exact ⟨q, h1, by simp [h2]⟩
    · cases h

/-- FROM A RUN TO AN ITERATOR's CONTRACT. -/
theorem ibody_ok (hP : P.follows .mixedOrders = true) {call : CallD} {mvf : FuncId → Option Nat} {iter : ItD} (hcall : ∀ f zas h0 mv r h', call f zas h0 mv = some (r, h') → Callable P f ∧ Fn P f zas h0 mv (fun r1 h1 => r1 = r ∧ h1 = h')) (hiter : ItOk P iter)
    {f : FuncId} {en : Ent} (hl : rlF P f en.code = some (en.code, en.rs, en.nt)) {args : List V} {fx : List Nat} {k : Nat} {yd : YtD} {h : List Blk} {hs : List (List Blk)}
    (hd : ibodyD call mvf iter en args fx k yd h = some hs) {Y : Yt} {K : List Blk → Prop}
    (hY : ∀ xs E h b rs Z, yd xs (E, h) = some rs → (∀ r ∈ rs, AT b r.2 (Z r.1)) → Y xs ⟨E.toEnv, h, b⟩ Z) (hK : ∀ h' ∈ hs, K h') : Iter P f args fx k Y h K := by
  unfold ibodyD at hd
  split at hd
  · rename_i hc
    simp only [Bool.and_eq_true, decide_eq_true_eq, List.isEmpty_iff, List.all_eq_true, Nat.blt_eq] at hc
    split at hd
    · rename_i outs hcw
      unfold rlF at hl
      split at hl
      · rename_i fn hf
        split at hl
        · rename_i c rs' hb hres ht
          simp only [Bool.and_eq_true, Bool.not_eq_true', decide_eq_true_eq] at ht
          cases hm : rlC P fn.ntmps c en.code with
          | none => simp [hm] at hl
          | some l1 =>
            simp only [hm, Option.map_some, Option.some.injEq, Prod.mk.injEq] at hl
            obtain ⟨rfl, hrs, hnt⟩ := hl
            have hnil : fn.results.toList = [] := by
              cases hl : fn.results.toList with
              | nil => rfl
              | cons r rs =>
                rw [hrs, hc.1.2] at hres
                rw [hl] at hres
                simp only [rlRes] at hres
                split at hres <;> simp at hres
            intro ρ X w vals hr ha hfx hYk
            have hvl := RepL_len ha
            refine (callsIn_wide (n := 0)).1 (callsIn_of_wp_marks hf hb trivial ?_)
            have hg : GoodT ρ X w fx fn.ntmps (argsT 0 args .lf, h) { tmps := vals.toArray ++ Array.replicate (fn.ntmps - vals.toArray.size) undef, defers := [] } w :=
              ⟨args0 0 args, 0, args_get args, ρ, ⟨⟨Fr.refl _ _, fun _ _ => rfl⟩, hfx⟩, ⟨hr, args0_rep ha _⟩, by simp; omega, Marks.nil⟩
            have hend : ∀ s, K s.h → ∀ a w', Good ρ X w fx fn.ntmps s a w' → ∃ v, (results fn a.tmps).run P w' = .ok v w' ∧ ∃ val h' ρ', Ending.returned v = .returned val ∧ K h' ∧ (Fr ρ w ρ' w' ∧ Rep ρ' X w' h') ∧ (∀ j ∈ fx, ρ' j = ρ j) ∧ keepP fx h' := by
              intro s hK a w' hgood
              obtain ⟨ρ', ⟨⟨hf1, hfx1⟩, hk1⟩, ⟨hr1, he1⟩, hN1, hd1⟩ := hgood
              exact ⟨tupU [], results_run (us := []) (by rw [hnil]; simp) (by rw [hnil]; trivial), _, s.h, ρ', rfl, hK, ⟨hf1, hr1⟩, hfx1, hk1⟩
            refine cw_sound (P := P) (X := X) (N := fn.ntmps) hP hcall hiter c _ _ hm none fx (fun k' xs s Z => k' = k ∧ ∃ E : Tr, (∀ i, get s.e i = E.get i) ∧ Y xs ⟨E.toEnv, s.h, s.b⟩ Z) none ρ w (.inl rfl) trivial (fun k' => ?_) h.length _ hc.2.2 ?_ _ ?_ _ outs hcw (fun o ho a w' hgd => ?_) _ _ hg
            · intro ρ1 w1 s tmps xs vs Z h1 h2 h3 h5 h6 h7
              obtain ⟨rfl, E, hE, h7⟩ := h7
              exact hYk ρ1 w1 ⟨E.toEnv, s.h, s.b⟩ tmps xs vs Z h1 h2 h3 (fun i => by rw [toEnv_get, ← hE]; exact h5 i) h6 h7
            · intro k' xs s E rs Z hs hrs hZ
              simp only at hrs
              split at hrs
              · rename_i hk
                rw [Nat.beq_eq] at hk
                exact ⟨hk, E, hs, hY xs E s.h s.b rs Z hrs hZ⟩
              · cases hrs
            · rintro ⟨a, w', val, _, _, hq, _⟩
              cases hq
            · obtain ⟨p, hp, hin⟩ := heapsD_ok hd o ho
              obtain ⟨e, b, he, hgd⟩ := hgd
              rcases hp with rfl | rfl
              · exact leaves_of (hend ⟨e, p.2, b⟩ (hK _ hin)) a.defers a w' rfl hgd
              · exact leaves_of (hend ⟨e, p.2, b⟩ (hK _ hin)) a.defers a w' rfl hgd
        · cases hl
      · cases hl
    · cases hd
  · cases hd

theorem findM_ok {f : FuncId} {zas : List V} {h0 : List Blk} {r : V} {h : List Blk} : ∀ {M : List Memo}, findM f zas h0 M = some (r, h) → ∃ m ∈ M, m.f = f ∧ m.zas = zas ∧ m.h0 = h0 ∧ m.r = r ∧ m.h = h
  | [], hf => by simp [findM] at hf
  | m :: l, hf => by
    simp only [findM] at hf
    split at hf
    · rename_i hc
      simp only [Bool.and_eq_true, Nat.beq_eq] at hc
      simp only [Option.some.injEq, Prod.mk.injEq] at hf
      exact ⟨m, by simp, hc.1, eqL_ok hc.2.1, eqBs_ok hc.2.2, hf.1, hf.2⟩
    · obtain ⟨m', h1, h2⟩ := findM_ok hf
      exact ⟨m', by simp [h1], h2⟩

/-- The table is the program's. -/
def okL (P : Program) : Nat → List (Option Ent) → Prop
  | _, [] => True
  | i, none :: r => okL P (i + 1) r
  | i, some en :: r => rlF P i en.code = some (en.code, en.rs, en.nt) ∧ okL P (i + 1) r
theorem okL_get : ∀ {T : List (Option Ent)} {i : Nat}, okL P i T → ∀ (f : Nat) (en : Ent), T[f]? = some (some en) → rlF P (i + f) en.code = some (en.code, en.rs, en.nt)
  | none :: r, i, h, 0, en, he => by simp at he
  | some e :: r, i, h, 0, en, he => by
    simp only [List.getElem?_cons_zero, Option.some.injEq] at he
    subst he
    exact h.1
  | none :: r, i, h, f + 1, en, he => by
    have := okL_get (i := i + 1) h f en (by simpa using he)
    rwa [show i + (f + 1) = i + 1 + f by omega]
  | some e :: r, i, h, f + 1, en, he => by
    have := okL_get (i := i + 1) h.2 f en (by simpa using he)
    rwa [show i + (f + 1) = i + 1 + f by omega]
  | [], _, _, _, _, he => by simp at he

/-- A memo is true. -/
def Memo.ok (P : Program) (m : Memo) : Prop := Callable P m.f ∧ Fn P m.f m.zas m.h0 [] (fun r h => r = m.r ∧ h = m.h)

theorem fiD_ok (hP : P.follows .mixedOrders = true) {T : List (Option Ent)} (hT : okL P 0 T) {M : List Memo} (hM : ∀ m ∈ M, m.ok P) : ∀ d : Nat,
    (∀ (f : FuncId) (zas : List V) (h0 : List Blk) (mv : List Nat) (r : V) (h' : List Blk), (fiD T M d).1 f zas h0 mv = some (r, h') → Callable P f ∧ Fn P f zas h0 mv (fun r1 h1 => r1 = r ∧ h1 = h')) ∧ ItOk P (fiD T M d).2
  | 0 => ⟨fun _ _ _ _ _ _ h => by simp [fiD] at h, fun _ _ _ _ _ _ _ h => by simp [fiD] at h⟩
  | d + 1 => by
    obtain ⟨ih1, ih2⟩ := fiD_ok hP hT hM d
    refine ⟨fun f zas h0 mv r h' h => ?_, fun f zas fx k yd h hs hd => ?_⟩
    · simp only [fiD] at h
      split at h
      · rename_i x hx
        simp only [Option.some.injEq] at h
        subst h
        split at hx
        · rename_i hmv
          have hmv' : mv = [] := by simpa using hmv
          subst hmv'
          obtain ⟨m, h1, rfl, rfl, rfl, rfl, rfl⟩ := findM_ok hx
          exact hM m h1
        · cases hx
      · split at h
        · rename_i en hen
          have hl := okL_get hT f en hen
          rw [Nat.zero_add] at hl
          exact ⟨rlF_callable hl, body_ok hP ih1 ih2 hl h⟩
        · cases h
    · simp only [fiD] at hd
      split at hd
      · rename_i en hen
        have hl := okL_get hT f en hen
        rw [Nat.zero_add] at hl
        exact ⟨rlF_callable hl, fun Y K hY hK => ibody_ok hP ih1 ih2 hl hd hY hK⟩
      · cases hd
theorem fnD_ok (hP : P.follows .mixedOrders = true) {T : List (Option Ent)} (hT : okL P 0 T) {M : List Memo} (hM : ∀ m ∈ M, m.ok P) (d : Nat) (f : FuncId) (zas : List V) (h0 : List Blk) (mv : List Nat) (r : V) (h' : List Blk)
    (h : fnD T M d f zas h0 mv = some (r, h')) : Callable P f ∧ Fn P f zas h0 mv (fun r1 h1 => r1 = r ∧ h1 = h') := (fiD_ok hP hT hM d).1 f zas h0 mv r h' h
end
end Go.Fx
