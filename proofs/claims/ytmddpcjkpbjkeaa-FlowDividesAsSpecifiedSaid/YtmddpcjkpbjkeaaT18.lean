import Derived.Test.YtmddpcjkpbjkeaaFxFrz
import Derived.Test.YtmddpcjkpbjkeaaFLow
import Derived.Test.YtmddpcjkpbjkeaaFxLaw
set_option linter.unusedVariables false
set_option linter.unusedSimpArgs false
set_option linter.unusedSectionVars false
namespace Go.Fx
def rdK (x : V) (bn : List Nat) : List Nat :=
  match x with
  | .ptr k _ _ => k :: bn
  | _ => bn
def tupK (x : V) (K : List V → Prop) : Prop :=
  match x with
  | .tup vs => K vs
  | _ => False
def nilK (x : V) (K : V → Prop) : Prop :=
  match x with
  | .ptr k i f => K (.ptr k i f)
  | .clo f cs => K (.clo f cs)
  | _ => False
def cloK (x : V) (K : FuncId → List V → Prop) : Prop :=
  match x with
  | .clo g cs => K g cs
  | _ => False

def lookM (h : List Blk) (kd : TypeDesc) (key : Value) (z : Value) (ok : Bool) (m : V) (K : V → Prop) : Prop :=
  match m with
  | .v (.map none) => lookK (some none) z ok K
  | m => mapK h m fun _ es _ => lookK (mfind kd key es 0) z ok K

mutual
theorem kill_nil : ∀ x : V, kill [] x = x
  | .any => rfl
  | .v _ => rfl
  | .ro _ _ => rfl
  | .bro _ _ => rfl
  | .full _ _ => rfl
  | .rp _ _ _ _ => rfl
  | .sl _ _ _ => by simp [kill]
  | .ptr _ _ _ => by simp [kill]
  | .mp _ => by simp [kill]
  | .itr _ => by simp [kill]
  | .agg cs => by simp [kill, kills_nil cs]
  | .tup cs => by simp [kill, kills_nil cs]
  | .clo _ cs => by simp [kill, kills_nil cs]
theorem kills_nil : ∀ xs : List V, kills [] xs = xs
  | [] => rfl
  | x :: r => by simp [kills, kill_nil x, kills_nil r]
end
theorem killE_nil : ∀ e : Env, killE [] e = e
  | [] => rfl
  | (_, x) :: r => by simp [killE, kill_nil x, killE_nil r]
theorem killB_nil (l : List Blk) : l.map (killB []) = l := by
  have : killB [] = id := by
    funext b
    cases b <;> simp [killB, kills_nil, kill_nil, funext kills_nil]
  simp [this]

/-! The executor's rules, each at a state that is written out. -/
section
variable {cx : Cx} {e : Env} {h : List Blk} {b : Nat} {K : V → St → Prop} {Ks : St → Prop} {N R : St → Prop} {X : Nat → St → Prop} {d : Option Nat} {op : LOp}
theorem zJ {d : Nat} {x : V} : St.put ⟨e, h, b⟩ (some d) x = ⟨(d, x) :: e, h, b⟩ := rfl
theorem zK {x : V} : St.put ⟨e, h, b⟩ none x = ⟨e, h, b⟩ := rfl
theorem qO : aOps cx [] ⟨e, h, b⟩ Ks = Ks ⟨e, h, b⟩ := rfl
theorem qP {r : List LOper} : aOps cx (⟨d, op, none⟩ :: r) ⟨e, h, b⟩ Ks = aOp cx op ⟨e, h, b⟩ fun x s' => aOps cx r (s'.put d x) Ks := rfl
theorem qQ {g : Nat} {w : Bool} {r : List LOper} : aOps cx (⟨d, op, some (g, w)⟩ :: r) ⟨e, h, b⟩ Ks = guardP (get e g) w
      (aOp cx op ⟨(g, .b w) :: e, h, b⟩ fun x s' => aOps cx r (s'.put d x) Ks)
      (aOps cx r (St.put ⟨(g, .b !w) :: e, h, b⟩ d (.v (.tuple #[]))) Ks)
      (aOps cx r (St.put ⟨e, h, b⟩ d (.v (.tuple #[]))) Ks) := rfl
theorem qa {x : Operand} {bn : List Nat} : rdB (.mov x) e bn = bn := rfl
theorem qR {x : Operand} : aOp cx (.mov x) ⟨e, h, b⟩ K = K (ev e x) ⟨e, h, b⟩ := rfl
theorem qb {c x y : Operand} {bn : List Nat} : rdB (.pick c x y) e bn = bn := rfl
theorem qS {c x y : Operand} : aOp cx (.pick c x y) ⟨e, h, b⟩ K = brV (ev e c) (K (ev e x) ⟨e, h, b⟩) (K (ev e y) ⟨e, h, b⟩) := rfl
theorem qT {j : Nat} {x : Operand} : aOp cx (.box j x) ⟨e, h, b⟩ K = optK (cells? (ev e x)) fun cs => freshP h (b + j) ∧ K (.ptr (b + j) 0 0) ⟨e, h.set (b + j) (.var cs), b⟩ := rfl
theorem qU {j : Nat} {z : Value} : aOp cx (.alloc j z) ⟨e, h, b⟩ K = optK (cells? (ofConst z)) fun cs => freshP h (b + j) ∧ K (.ptr (b + j) 0 0) ⟨e, h.set (b + j) (.var cs), b⟩ := rfl
theorem qV {n : Option Nat} {x : Operand} : aOp cx (.load n x) ⟨e, h, b⟩ K = loadP h n (ev e x) fun y => K y ⟨e, h, b⟩ := rfl
theorem qW {n : Nat} {x y : Operand} : aOp cx (.store n x y) ⟨e, h, b⟩ K = optK (cells? (ev e y)) fun cs => storeP cx.bn h n (ev e x) cs fun h => K (.v (.tuple #[])) ⟨e, h, b⟩ := rfl
theorem qc {n : Nat} {x : Operand} {bn : List Nat} : rdB (.fld n x) e bn = bn := rfl
theorem qX {n : Nat} {x : Operand} : aOp cx (.fld n x) ⟨e, h, b⟩ K = fldP n (ev e x) fun y => K y ⟨e, h, b⟩ := rfl
theorem qd {n : Nat} {x i : Operand} {bn : List Nat} : rdB (.idx n x i) e bn = bn := rfl
theorem qY {n : Nat} {x i : Operand} : aOp cx (.idx n x i) ⟨e, h, b⟩ K = intK (ev e i) fun _ m => idxP h n m (ev e x) fun y => K y ⟨e, h, b⟩ := rfl
theorem qe {o : BinOp} {ex : Bool} {x y : Operand} {bn : List Nat} : rdB (.bin o ex x y) e bn = bn := rfl
theorem qZ {o : BinOp} {ex : Bool} {x y : Operand} : aOp cx (.bin o ex x y) ⟨e, h, b⟩ K = intK (ev e x) fun k a => intK (ev e y) fun k' c => k' = k ∧ binInt o ex k a c fun z => K z ⟨e, h, b⟩ := rfl
theorem qf {x : Operand} {bn : List Nat} : rdB (.len x) e bn = bn := rfl
theorem zb {x : Operand} : aOp cx (.len x) ⟨e, h, b⟩ K = lenP (ev e x) fun y => K y ⟨e, h, b⟩ := rfl
theorem qh {x : Operand} {bn : List Nat} : rdB (.lens x) e bn = bn := rfl
theorem zc {x : Operand} : aOp cx (.lens x) ⟨e, h, b⟩ K = lensP (ev e x) fun y => K y ⟨e, h, b⟩ := rfl
theorem qi {x : Operand} {bn : List Nat} : rdB (.not x) e bn = bn := rfl
theorem zd {x : Operand} : aOp cx (.not x) ⟨e, h, b⟩ K = boolK (ev e x) fun t => K (.b (!t)) ⟨e, h, b⟩ := rfl
theorem qj {x : Operand} {bn : List Nat} : rdB (.neg x) e bn = bn := rfl
theorem ze {x : Operand} : aOp cx (.neg x) ⟨e, h, b⟩ K = intK (ev e x) fun k a => K (.v (.int k (k.wrap (-a)))) ⟨e, h, b⟩ := rfl
theorem qk {ex : Bool} {k : IntKind} {x : Operand} {bn : List Nat} : rdB (.conv ex k x) e bn = bn := rfl
theorem zf {ex : Bool} {k : IntKind} {x : Operand} : aOp cx (.conv ex k x) ⟨e, h, b⟩ K = intK (ev e x) fun _ a => if ex then (lo k ≤ a ∧ a ≤ hi k) ∧ K (.v (.int k a)) ⟨e, h, b⟩ else K (.v (.int k (k.wrap a))) ⟨e, h, b⟩ := rfl
theorem ql {mx : Bool} {x y : Operand} {bn : List Nat} : rdB (.minmax mx x y) e bn = bn := rfl
theorem zg {mx : Bool} {x y : Operand} : aOp cx (.minmax mx x y) ⟨e, h, b⟩ K = intK (ev e x) fun k a => intK (ev e y) fun k' c => k' = k ∧ K (.v (.int k (if mx then max a c else min a c))) ⟨e, h, b⟩ := rfl
theorem qm {f : FuncId} {cs : List Operand} {bn : List Nat} : rdB (.fn f cs) e bn = bn := rfl
theorem zh {f : FuncId} {cs : List Operand} : aOp cx (.fn f cs) ⟨e, h, b⟩ K = K (.clo f (cs.map (ev e))) ⟨e, h, b⟩ := rfl
theorem qn {off : Nat} {n : Option Nat} {x : Operand} {bn : List Nat} : rdB (.field off n x) e bn = bn := rfl
theorem zi {off : Nat} {n : Option Nat} {x : Operand} : aOp cx (.field off n x) ⟨e, h, b⟩ K = aggK (ev e x) fun cs => loadCs n off cs fun y => K y ⟨e, h, b⟩ := rfl
theorem qo {z : Nat} {x : Operand} {l u m : Option Operand} {bn : List Nat} : rdB (.slice z x l u m) e bn = bn := rfl
theorem zj {z : Nat} {x : Operand} {l u m : Option Operand} : aOp cx (.slice z x l u m) ⟨e, h, b⟩ K = optI (l.map (ev e)) fun l => optI (u.map (ev e)) fun u => optI (m.map (ev e)) fun m => slcP h z (ev e x) l u m fun y => K y ⟨e, h, b⟩ := rfl
theorem qp {z : List Value} {ps : List (Nat × Nat × Operand)} {bn : List Nat} : rdB (.build z ps) e bn = bn := rfl
theorem zk {z : List Value} {ps : List (Nat × Nat × Operand)} : aOp cx (.build z ps) ⟨e, h, b⟩ K = buildP e (z.map .v) ps fun y => K y ⟨e, h, b⟩ := rfl
theorem qq {neg : Bool} {x y : Operand} {bn : List Nat} : rdB (.eqb neg x y) e bn = bn := rfl
theorem zl {neg : Bool} {x y : Operand} : aOp cx (.eqb neg x y) ⟨e, h, b⟩ K = boolK (ev e x) fun a => boolK (ev e y) fun c => K (.b (if neg then a != c else a == c)) ⟨e, h, b⟩ := rfl
theorem qr {neg : Bool} {ks : List (Nat × TypeDesc)} {x y : Operand} {bn : List Nat} : rdB (.eqf neg ks x y) e bn = bn := rfl
theorem zm {neg : Bool} {ks : List (Nat × TypeDesc)} {x y : Operand} : aOp cx (.eqf neg ks x y) ⟨e, h, b⟩ K = optK (aggC (ev e x)) fun xs => optK (aggC (ev e y)) fun ys => eqFs xs ys ks fun t => K (.b (if neg then !t else t)) ⟨e, h, b⟩ := rfl
theorem qs {o : BinOp} {x y : Operand} {bn : List Nat} : rdB (.shift o x y) e bn = bn := rfl
theorem zn {o : BinOp} {x y : Operand} : aOp cx (.shift o x y) ⟨e, h, b⟩ K = intK (ev e x) fun k a => intK (ev e y) fun _ c => shiftInt o k a c fun z => K z ⟨e, h, b⟩ := rfl
theorem zo {neg : Bool} {x : Operand} {v : Value} : aOp cx (.eqn neg x (.const v)) ⟨e, h, b⟩ K = match ofConst v with | .v _ => eqnP (ev e x) fun t => K (.b (if neg then !t else t)) ⟨e, h, b⟩ | _ => False := rfl
theorem zp {j sz n : Nat} {z : List Value} {ps : List (Nat × Operand)} : aOp cx (.lits j sz n z ps) ⟨e, h, b⟩ K = litsP e sz (List.replicate n (z.map .v)) ps fun els => freshP h (b + j) ∧ K (.sl (b + j) 0 n) ⟨e, h.set (b + j) (.arr sz els), b⟩ := rfl
theorem zq {j sz bytes : Nat} {z : List Value} {l c : Operand} : aOp cx (.mk j sz bytes z l c) ⟨e, h, b⟩ K = intK (ev e l) fun _ a => intK (ev e c) fun _ d => ((0 ≤ a ∧ a ≤ d) ∧ (bytes : Int) * d ≤ 281474976710656 ∧ d ≤ 9223372036854775807) ∧ freshP h (b + j) ∧ K (.sl (b + j) 0 a.toNat) ⟨e, h.set (b + j) (.arr sz (List.replicate a.toNat (z.map .v))), b⟩ := rfl
theorem zr {j sz bytes : Nat} {x y : Operand} : aOp cx (.append j sz bytes x y) ⟨e, h, b⟩ K = viewK h (ev e y) fun sz' new => (new = [] ∨ sz' = sz) ∧ appP cx.fx cx.bn (b + j) sz bytes ⟨e, h, b⟩ (ev e x) new K := rfl
theorem zt {sz : Nat} {x y : Operand} : aOp cx (.copy sz x y) ⟨e, h, b⟩ K = viewK h (ev e y) fun sz' new => (new = [] ∨ sz' = sz) ∧ copyP cx.bn sz ⟨e, h, b⟩ (ev e x) new K := rfl
theorem zu {j sz bytes : Nat} {z : List Value} {l c : Operand} : aOp cx (.mkv j sz bytes z l c) ⟨e, h, b⟩ K = intK (ev e l) fun _ a => intK (ev e c) fun _ c => ((0 ≤ a ∧ a ≤ c) ∧ (bytes : Int) * c ≤ 281474976710656 ∧ c ≤ 9223372036854775807) ∧ freshP h (b + j) ∧ K (.sl (b + j) 0 a.toNat) ⟨e, h.set (b + j) (.arv sz (List.replicate a.toNat (z.map .v))), b⟩ := rfl
theorem zv {kd : TypeDesc} {m k x : Operand} : aOp cx (.mset kd m k x) ⟨e, h, b⟩ K = keyK kd (ev e k) fun key => mapK h (ev e m) fun c es t => c ∉ cx.bn ∧ msetK (mfind kd key es 0) key (ev e x) es t fun B => K (.v (.tuple #[])) ⟨e, h.set c B, b⟩ := rfl
theorem zw {j : Nat} : aOp cx (.mkmap j none) ⟨e, h, b⟩ K = (True ∧ freshP h (b + j) ∧ K (.mp (b + j)) ⟨e, h.set (b + j) (.map [] 0), b⟩) := rfl
theorem zx {kd : TypeDesc} {z : Value} {ok : Bool} {m k : Operand} : aOp cx (.lookup kd z ok m k) ⟨e, h, b⟩ K = keyK kd (ev e k) fun key => lookM h kd key z ok (ev e m) fun x => K x ⟨e, h, b⟩ := rfl
theorem zy {m : Operand} : aOp cx (.mlen m) ⟨e, h, b⟩ K = mapK h (ev e m) fun _ es _ => K (.i es.length) ⟨e, h, b⟩ := rfl
theorem zA {j : Nat} {m : Operand} : aOp cx (.range j m) ⟨e, h, b⟩ K = mapK h (ev e m) fun _ _ c => freshP h (b + j) ∧ K (.ptr (b + j) 0 0) ⟨e, h.set (b + j) (.it (ev e m) c [] c), b⟩ := rfl
theorem zB {i : Operand} : aOp cx (.next i) ⟨e, h, b⟩ K = itK h (ev e i) fun c m since seen last => mapK h m fun _ es t => c ∉ cx.bn ∧ nextK es since seen last (K (.tup [.b false]) ⟨e, h, b⟩) fun key x born => K (.tup [.b true, .v key, x]) ⟨e, h.set c (.it m since (seen ++ [born]) t), b⟩ := rfl
theorem zC {i : Operand} : aOp cx (.entry i) ⟨e, h, b⟩ K = itK h (ev e i) fun _ m _ seen last => mapK h m fun _ es c => last = c ∧ optK seen.getLast? fun st => entK (es.find? fun q => q.2.2 == st) fun x => K x ⟨e, h, b⟩ := rfl
theorem zD {f : FuncId} {xs : List Operand} : aOp cx (.call f xs) ⟨e, h, b⟩ K = callP cx f (xs.map (ev e)) ⟨e, h, b⟩ K := rfl
theorem qt {x : Operand} {i : Nat} {bn : List Nat} : rdB (.ext x i) e bn = bn := rfl
theorem qu {x : Operand} {bn : List Nat} : rdB (.nilc x) e bn = bn := rfl
theorem qv {t : Bool} {x y : Operand} {bn : List Nat} : rdB (.eqn t x y) e bn = bn := rfl
theorem qw {n : Option Nat} {x : Operand} {bn : List Nat} : rdB (.load n x) e bn = rdK (ev e x) bn := by
  show (match ev e x with | .ptr k _ _ => k :: bn | _ => bn) = _
  unfold rdK
  cases ev e x <;> rfl
theorem zE {x : Operand} {i : Nat} : aOp cx (.ext x i) ⟨e, h, b⟩ K = tupK (ev e x) fun vs => optK vs[i]? fun y => K y ⟨e, h, b⟩ := by
  simp only [aOp, tupK]; split <;> simp_all
theorem zF {x : Operand} : aOp cx (.nilc x) ⟨e, h, b⟩ K = nilK (ev e x) fun y => K y ⟨e, h, b⟩ := by
  simp only [aOp, nilK]; split <;> simp_all
theorem zG {f : Operand} {xs : List Operand} : aOp cx (.callv f xs) ⟨e, h, b⟩ K = cloK (ev e f) fun g cs => callP cx g (xs.map (ev e) ++ cs) ⟨e, h, b⟩ K := by
  simp only [aOp, cloK]; split <;> simp_all
theorem qE : aw cx .skip N X R ⟨e, h, b⟩ = N ⟨e, h, b⟩ := rfl
theorem qF {n : Nat} {l : List LOper} : aw cx (.reg n l) N X R ⟨e, h, b⟩ = aOps cx l ⟨e, h ++ List.replicate n .dead, h.length⟩ N := rfl
theorem qG {m n : Nat} {l : List LOper} : aw cx (.tail m n l) N X R ⟨e, h, b⟩ = aOps cx l ⟨e, h ++ List.replicate n .dead, h.length⟩ N := rfl
theorem qH {n : Nat} {l : List LOper} : aw cx (.qui n l) N X R ⟨e, h, b⟩ = aOps cx l ⟨e, h ++ List.replicate n .dead, h.length⟩ N := rfl
theorem qx {n : Nat} {p : LPlan} : aw cx (.tree n p) N X R ⟨e, h, b⟩ = awP cx p [] N ⟨e, h ++ List.replicate n .dead, h.length⟩ := rfl
theorem qy {bn : List Nat} : awP cx .done bn Ks ⟨e, h, b⟩ = Ks ⟨e, h, b⟩ := rfl
theorem qz {bn : List Nat} : awP cx .none bn Ks ⟨e, h, b⟩ = True := rfl
theorem qA {i : Nat} {D bn : List Nat} {p : LPlan} : awP cx (.take i D ⟨d, op, none⟩ p) bn Ks ⟨e, h, b⟩ = aOp cx op ⟨e, h, b⟩ fun x s' => awP cx p (rdB op e bn) Ks (s'.put d x) := rfl
theorem qB {i g : Nat} {w : Bool} {D bn : List Nat} {p : LPlan} : awP cx (.take i D ⟨d, op, some (g, w)⟩ p) bn Ks ⟨e, h, b⟩ = guardP (get e g) w
      (aOp cx op ⟨(g, .b w) :: e, h, b⟩ fun x s' => awP cx p (rdB op e bn) Ks (s'.put d x))
      (awP cx p (rdB op e bn) Ks (St.put ⟨(g, .b !w) :: e, h, b⟩ d (.v (.tuple #[]))))
      (awP cx p (rdB op e bn) Ks (St.put ⟨e, h, b⟩ d (.v (.tuple #[])))) := rfl
theorem qC {i : Nat} {r : Bool} {bn : List Nat} {p q : LPlan} : awP cx (.alt i ⟨d, op, none⟩ r p q) bn Ks ⟨e, h, b⟩ =
      ((aOp ⟨cx.C, cx.fx, if r then bn else []⟩ op ⟨e, h, b⟩ fun x s' => awP cx p (if r then bn else []) Ks (s'.put d x)) ∧ awP cx q bn Ks ⟨e, h, b⟩) := rfl
theorem qD {i g : Nat} {w r : Bool} {bn : List Nat} {p q : LPlan} : awP cx (.alt i ⟨d, op, some (g, w)⟩ r p q) bn Ks ⟨e, h, b⟩ =
      ((guardP (get e g) w
        (aOp ⟨cx.C, cx.fx, if r then bn else []⟩ op ⟨(g, .b w) :: e, h, b⟩ fun x s' => awP cx p (if r then bn else []) Ks (s'.put d x))
        (awP cx p (if r then bn else []) Ks (St.put ⟨(g, .b !w) :: e, h, b⟩ d (.v (.tuple #[]))))
        (awP cx p (if r then bn else []) Ks (St.put ⟨e, h, b⟩ d (.v (.tuple #[]))))) ∧ awP cx q bn Ks ⟨e, h, b⟩) := rfl
theorem qI {x y : LCode} : aw cx (.seq x y) N X R ⟨e, h, b⟩ = aw cx x (fun s' => aw cx y N X R s') X R ⟨e, h, b⟩ := rfl
theorem qJ {c : Operand} {x y : LCode} : aw cx (.cond c x y) N X R ⟨e, h, b⟩ = brV (ev e c) (aw cx x N X R ⟨e, h, b⟩) (aw cx y N X R ⟨e, h, b⟩) := rfl
theorem qK {i : Nat} {x : LCode} : aw cx (.block i x) N X R ⟨e, h, b⟩ = aw cx x N (fun j s' => if j = i then N s' else X j s') R ⟨e, h, b⟩ := rfl
theorem qL {x : LCode} : aw cx (.loop x) N X R ⟨e, h, b⟩ = loopP cx.fx (fun N => aw cx x N X R) ⟨e, h, b⟩ := rfl
theorem qM {i : Nat} : aw cx (.exit i) N X R ⟨e, h, b⟩ = X i ⟨e, h, b⟩ := rfl
theorem qN : aw cx .ret N X R ⟨e, h, b⟩ = R ⟨e, h, b⟩ := rfl
theorem zU {A B : Prop} : br true A B = A := by simp [br]
theorem zV {A B : Prop} : br false A B = B := by simp [br]
theorem zT {t : Bool} {A B : Prop} : brV (.v (.bool t)) A B = br t A B := rfl
theorem zW {t : Bool} {w : Bool} {A B C : Prop} : guardP (.v (.bool t)) w A B C = if w then br t A B else br t B A := rfl
theorem zX {w : Bool} {A B C : Prop} : guardP (.v (.tuple #[])) w A B C = C := rfl
theorem zR {k : IntKind} {a : Int} {K : IntKind → Int → Prop} : intK (.v (.int k a)) K = K k a := rfl
theorem zS {a : Bool} {K : Bool → Prop} : boolK (.v (.bool a)) K = K a := rfl
theorem retP_eq {fx : List Nat} {n : Nat} {rs : List LRes} {R : V → List Blk → Prop} : retP fx n rs R ⟨e, h, b⟩ = resP h e rs [] fun xs => ∃ p, (leH h p ∧ keepP fx p ∧ n ≤ p.length ∧ wfV p (tupV xs) ∧ wfB p p) ∧ R (tupV xs) p := rfl
theorem zZ {fx : List Nat} {p : Env} {q : List Blk} {b' : Nat} : leS fx ⟨e, h, b⟩ ⟨p, q, b'⟩ = (leE e p ∧ leH h q ∧ keepP fx q ∧ wfE q p ∧ wfB q q) := rfl
end

/-! What comes behind an operation is looked at when the operation is done, not before. -/
section
variable {cx : Cx} {h : List Blk} {e : Env} {s : St} {fx bn : List Nat}
/-- A plain result's contract. -/
def Is (x : V) : V → List Blk → Prop := fun r h => r = x ∧ h = []
theorem zY {e : Env} {h : List Blk} {b : Nat} {rs : List LRes} {x : V} : retP [] 0 rs (Is x) ⟨e, h, b⟩ = resP h e rs [] fun xs => wfV [] (tupV xs) ∧ tupV xs = x := by
  unfold retP Is
  simp only
  congr 1
  funext xs
  apply propext
  constructor
  · rintro ⟨p, ⟨_, _, _, h4, _⟩, h5, rfl⟩
    exact ⟨h4, h5⟩
  · rintro ⟨h4, h5⟩
    exact ⟨[], ⟨by unfold leH; trivial, trivial, Nat.le_refl _, h4, trivial⟩, h5, rfl⟩
theorem zL {t : Nat} : ev e (.tmp t) = get e t := rfl
theorem zM {c : Value} : ev e (.const c) = ofConst c := rfl
theorem zN {f : FuncId} : ev e (.func f) = .clo f [] := rfl
theorem zO {i : Nat} : get [] i = .any := rfl
theorem zP {j i : Nat} {x : V} {r : Env} : get ((j, x) :: r) i = if i = j then x else get r i := rfl
theorem zQ {k : Nat} : blk h k = h.getD k .dead := rfl
@[congr] theorem c_optK {α : Type} {o o' : Option α} {K : α → Prop} (q : o = o') : optK o K = optK o' K := by rw [q]
@[congr] theorem c_intK {x x' : V} {K : IntKind → Int → Prop} (q : x = x') : intK x K = intK x' K := by rw [q]
@[congr] theorem c_boolK {x x' : V} {K : Bool → Prop} (q : x = x') : boolK x K = boolK x' K := by rw [q]
@[congr] theorem c_brV {x x' : V} {A B : Prop} (q : x = x') : brV x A B = brV x' A B := by rw [q]
@[congr] theorem c_guardP {x x' : V} {w : Bool} {A B C : Prop} (q : x = x') : guardP x w A B C = guardP x' w A B C := by rw [q]
@[congr] theorem c_loadP {n : Option Nat} {p p' : V} {K : V → Prop} (q : p = p') : loadP h n p K = loadP h n p' K := by rw [q]
@[congr] theorem c_loadB {n : Option Nat} {i f : Nat} {b b' : Blk} {K : V → Prop} (q : b = b') : loadB n i f b K = loadB n i f b' K := by rw [q]
@[congr] theorem c_loadCs {n : Option Nat} {f : Nat} {cs cs' : List V} {K : V → Prop} (q : cs = cs') : loadCs n f cs K = loadCs n f cs' K := by rw [q]
@[congr] theorem c_storeP {n : Nat} {p p' : V} {cs cs' : List V} {K : List Blk → Prop} (q : p = p') (q2 : cs = cs') : storeP bn h n p cs K = storeP bn h n p' cs' K := by rw [q, q2]
@[congr] theorem c_storeB {n i f : Nat} {cs : List V} {b b' : Blk} {K : Blk → Prop} (q : b = b') : storeB n i f cs b K = storeB n i f cs b' K := by rw [q]
@[congr] theorem c_fldP {n : Nat} {x x' : V} {K : V → Prop} (q : x = x') : fldP n x K = fldP n x' K := by rw [q]
@[congr] theorem c_idxP {z : Nat} {n n' : Int} {x x' : V} {K : V → Prop} (q : x = x') (q2 : n = n') : idxP h z n x K = idxP h z n' x' K := by rw [q, q2]
@[congr] theorem c_lenP {x x' : V} {K : V → Prop} (q : x = x') : lenP x K = lenP x' K := by rw [q]
@[congr] theorem c_lensP {x x' : V} {K : V → Prop} (q : x = x') : lensP x K = lensP x' K := by rw [q]
@[congr] theorem c_viewK {x x' : V} {K : Nat → List (List V) → Prop} (q : x = x') : viewK h x K = viewK h x' K := by rw [q]
@[congr] theorem c_optI {x x' : Option V} {K : Option Int → Prop} (q : x = x') : optI x K = optI x' K := by rw [q]
@[congr] theorem c_slcP {z : Nat} {x x' : V} {l u m : Option Int} {K : V → Prop} (q : x = x') : slcP h z x l u m K = slcP h z x' l u m K := by rw [q]
@[congr] theorem c_buildP {acc acc' : List V} {ps : List (Nat × Nat × Operand)} {K : V → Prop} (q : acc = acc') : buildP e acc ps K = buildP e acc' ps K := by rw [q]
@[congr] theorem c_litsP {sz : Nat} {acc acc' : List (List V)} {ps : List (Nat × Operand)} {K : List (List V) → Prop} (q : acc = acc') : litsP e sz acc ps K = litsP e sz acc' ps K := by rw [q]
@[congr] theorem c_eqnP {x x' : V} {K : Bool → Prop} (q : x = x') : eqnP x K = eqnP x' K := by rw [q]
@[congr] theorem c_appP {id sz bytes : Nat} {x x' : V} {new new' : List (List V)} {K : V → St → Prop} (q : x = x') (q2 : new = new') : appP fx bn id sz bytes s x new K = appP fx bn id sz bytes s x' new' K := by rw [q, q2]
@[congr] theorem c_appB {k i n sz bytes : Nat} {new : List (List V)} {b b' : Blk} {K : V → St → Prop} (q : b = b') : appB fx bn k i n sz bytes s new b K = appB fx bn k i n sz bytes s new b' K := by rw [q]
@[congr] theorem c_appNew {id sz bytes : Nat} {old old' new : List (List V)} {K : V → St → Prop} (q : old = old') : appNew id sz bytes s old new K = appNew id sz bytes s old' new K := by rw [q]
@[congr] theorem c_copyP {sz : Nat} {x x' : V} {new : List (List V)} {K : V → St → Prop} (q : x = x') : copyP bn sz s x new K = copyP bn sz s x' new K := by rw [q]
@[congr] theorem c_tupK {x x' : V} {K : List V → Prop} (q : x = x') : tupK x K = tupK x' K := by rw [q]
@[congr] theorem c_nilK {x x' : V} {K : V → Prop} (q : x = x') : nilK x K = nilK x' K := by rw [q]
@[congr] theorem c_cloK {x x' : V} {K : FuncId → List V → Prop} (q : x = x') : cloK x K = cloK x' K := by rw [q]
@[congr] theorem c_aggK {x x' : V} {K : List V → Prop} (q : x = x') : aggK x K = aggK x' K := by rw [q]
@[congr] theorem c_callP {f : FuncId} {xs xs' : List V} {s s' : St} {K : V → St → Prop} (q : xs = xs') (q2 : s = s') : callP cx f xs s K = callP cx f xs' s' K := by rw [q, q2]
@[congr] theorem c_binInt {op : BinOp} {ex : Bool} {k : IntKind} {a a' b b' : Int} {K : V → Prop} (q : a = a') (q2 : b = b') : binInt op ex k a b K = binInt op ex k a' b' K := by rw [q, q2]
@[congr] theorem c_eqFs {xs xs' ys ys' : List V} {ks : List (Nat × TypeDesc)} {K : Bool → Prop} (q : xs = xs') (q2 : ys = ys') : eqFs xs ys ks K = eqFs xs' ys' ks K := by rw [q, q2]
@[congr] theorem c_eqC {kd : TypeDesc} {x x' y y' : Option V} {K : Bool → Prop} (q : x = x') (q2 : y = y') : eqC kd x y K = eqC kd x' y' K := by rw [q, q2]
@[congr] theorem c_resP {ls : List LRes} {acc acc' : List V} {K : List V → Prop} (q : acc = acc') : resP h e ls acc K = resP h e ls acc' K := by rw [q]
@[congr] theorem c_awP {p : LPlan} {s s' : St} {Ks : St → Prop} (q : s = s') : awP cx p bn Ks s = awP cx p bn Ks s' := by rw [q]
@[congr] theorem c_aOps {l : List LOper} {s s' : St} {Ks : St → Prop} (q : s = s') : aOps cx l s Ks = aOps cx l s' Ks := by rw [q]
@[congr] theorem c_aw {c : LCode} {s s' : St} {N R : St → Prop} {X : Nat → St → Prop} (q : s = s') : aw cx c N X R s = aw cx c N X R s' := by rw [q]
@[congr] theorem c_aOp {o : LOp} {s s' : St} {K : V → St → Prop} (q : s = s') : aOp cx o s K = aOp cx o s' K := by rw [q]
end

theorem loopP_intro {fx : List Nat} {f : (St → Prop) → St → Prop} {s : St} {G : Type} (pat : G → St) (I : G → Prop) (μ : G → Nat) (g : G) (h0 : I g) (h1 : leS fx s (pat g))
    (h : ∀ g, I g → f (fun s' => ∃ g', (I g' ∧ μ g' < μ g) ∧ leS fx s' (pat g')) (pat g)) : loopP fx f s :=
  ⟨G, pat, I, μ, leS fx, fun a _ h => ⟨a, .refl a, h⟩, ⟨g, h0, _, .refl s, h1⟩, h⟩
/-- As loopP_intro, after steps that change what is said alone. -/
theorem loopP_ghost {fx : List Nat} {f : (St → Prop) → St → Prop} {s s0 : St} {G : Type} (hg : Ghost fx s s0) (pat : G → St) (I : G → Prop) (μ : G → Nat) (g : G) (h0 : I g) (h1 : leS fx s0 (pat g))
    (h : ∀ g, I g → f (fun s' => ∃ g', (I g' ∧ μ g' < μ g) ∧ leS fx s' (pat g')) (pat g)) : loopP fx f s :=
  ⟨G, pat, I, μ, leS fx, fun a _ h => ⟨a, .refl a, h⟩, ⟨g, h0, s0, hg, h1⟩, h⟩
/-- As loopP_ghost; such steps may be taken at the end of each round, too. -/
theorem loopP_back {fx : List Nat} {f : (St → Prop) → St → Prop} {s : St} {G : Type} (pat : G → St) (I : G → Prop) (μ : G → Nat) (g : G) (h0 : I g) (h1 : leG fx s (pat g))
    (h : ∀ g, I g → f (fun s' => ∃ g', (I g' ∧ μ g' < μ g) ∧ leG fx s' (pat g')) (pat g)) : loopP fx f s :=
  ⟨G, pat, I, μ, leG fx, fun _ _ h => h, ⟨g, h0, h1⟩, h⟩
/-- As loopP_intro; the blocks of M are given up first. -/
theorem loopP_give {fx : List Nat} {f : (St → Prop) → St → Prop} {s : St} {G : Type} (M : Nat → Bool) (pat : G → St) (I : G → Prop) (μ : G → Nat) (g : G) (hM : ∀ k ∈ fx, M k = false) (h0 : I g) (h1 : leS fx (s.give M) (pat g))
    (h : ∀ g, I g → f (fun s' => ∃ g', (I g' ∧ μ g' < μ g) ∧ leS fx s' (pat g')) (pat g)) : loopP fx f s :=
  loopP_ghost (.give M hM (.refl _)) pat I μ g h0 h1 h

/-- A call of a function that gets data alone, and hands back what is new. -/
theorem callP_pure {cx : Cx} {f : FuncId} {args : List V} {e : Env} {h : List Blk} {b : Nat} {K : V → St → Prop} (zas : List V) (R : V → List Blk → Prop) (h1 : lendsOk h (fun _ => none) args ∧ wkL zas (lends h (fun _ => none) args)) (h2 : cx.C f zas [] [] R)
    (h3 : ∀ r h', R r h' → keepP cx.fx (h ++ h'.map (renB (fun j => some (h.length + j)))) ∧ K (ren (fun j => some (h.length + j)) r) ⟨e, h ++ h'.map (renB (fun j => some (h.length + j))), b⟩) : callP cx f args ⟨e, h, b⟩ K := by
  have hp : pos [] = fun _ => none := rfl
  have hb : back [] h.length = fun j => some (h.length + j) := by funext j; simp [back]
  have hk : ∀ l : List Blk, l.map (killB []) = l := killB_nil
  refine ⟨[], zas, [], R, ⟨⟨List.nodup_nil, by simp⟩, by simp⟩, ?_, ?_, by simpa using h2, ?_⟩
  · rw [hp]; exact h1.1
  · rw [hp]; exact h1.2
  · intro r h' hR _
    have := h3 r h' hR
    simp only [hb, setAll, List.filterMap_nil, hk, killE_nil]
    exact this
section
variable {h : List Blk} {e : Env} {s : St} {fx bn : List Nat} {b : Nat}
def viewB (b : Blk) (i n : Nat) (K : Nat → List (List V) → Prop) : Prop :=
  match b with
  | .arr sz els => i + n ≤ els.length ∧ K sz ((els.drop i).take n)
  | _ => False
theorem jp {α : Type} {x : α} {K : α → Prop} : optK (some x) K = K x := rfl
theorem jq {α : Type} {K : α → Prop} : optK none K = False := rfl
theorem jr {n : Option Nat} {k i f : Nat} {K : V → Prop} : loadP h n (.ptr k i f) K = loadB n i f (blk h k) K := rfl
theorem jt {n : Option Nat} {z i f : Nat} {els : List (List V)} {K : V → Prop} : loadP h n (.rp z els i f) K = ∃ hi : i < els.length, loadCs n f (els[i]'hi) K := rfl
theorem ju {n : Option Nat} {i f : Nat} {cs : List V} {K : V → Prop} : loadB n i f (.var cs) K = loadCs n f cs K := rfl
theorem jv {n : Option Nat} {i f z : Nat} {els : List (List V)} {K : V → Prop} : loadB n i f (.arr z els) K = ∃ hi : i < els.length, loadCs n f (els[i]'hi) K := rfl
theorem jx {n : Option Nat} {i f z : Nat} {els : List (List V)} {K : V → Prop} : loadB n i f (.arv z els) K = ∃ hi : i < els.length, loadCs n f (els[i]'hi) K := rfl
theorem jy {f : Nat} {cs : List V} {K : V → Prop} : loadCs none f cs K = optK cs[f]? K := rfl
theorem jz {m f : Nat} {cs : List V} {K : V → Prop} : loadCs (some m) f cs K = (f + m ≤ cs.length ∧ K (.agg ((cs.drop f).take m))) := rfl
theorem jA {n k i f : Nat} {cs : List V} {K : List Blk → Prop} : storeP bn h n (.ptr k i f) cs K = ((cs.length = n ∧ k ∉ bn) ∧ cs.all isC = true ∧ storeB n i f cs (blk h k) fun b => K (h.set k b)) := rfl
theorem jB {n i f : Nat} {cs old : List V} {K : Blk → Prop} : storeB n i f cs (.var old) K = ((f + n ≤ old.length) ∧ K (.var (splice old f cs))) := rfl
theorem jC {n i f z : Nat} {cs : List V} {els : List (List V)} {K : Blk → Prop} : storeB n i f cs (.arr z els) K = ((f + n ≤ z ∧ cs.all isD = true) ∧ ∃ hi : i < els.length, K (.arr z (els.set i (splice (els[i]'hi) f cs)))) := rfl
theorem jD {n i f z : Nat} {cs : List V} {els : List (List V)} {K : Blk → Prop} : storeB n i f cs (.arv z els) K = ((f + n ≤ z) ∧ ∃ hi : i < els.length, K (.arv z (els.set i (splice (els[i]'hi) f cs)))) := rfl
theorem jE {o k i f : Nat} {K : V → Prop} : fldP o (.ptr k i f) K = K (.ptr k i (f + o)) := rfl
theorem jF {o z i f : Nat} {els : List (List V)} {K : V → Prop} : fldP o (.rp z els i f) K = K (.rp z els i (f + o)) := rfl
theorem jG {z k i m : Nat} {n : Int} {K : V → Prop} : idxP h z n (.sl k i m) K = (arrSz z (blk h k) ∧ (0 ≤ n ∧ n < m) ∧ K (.ptr k (i + n.toNat) 0)) := rfl
theorem jH {z y : Nat} {els : List (List V)} {n : Int} {K : V → Prop} : idxP h z n (.ro y els) K = (y = z ∧ (0 ≤ n ∧ n < els.length) ∧ K (.rp y els n.toNat 0)) := rfl
theorem jI {z y : Nat} {els : List (List V)} {n : Int} {K : V → Prop} : idxP h z n (.bro y els) K = (y = z ∧ (0 ≤ n ∧ n < els.length) ∧ K (.rp y els n.toNat 0)) := rfl
theorem jJ {z y : Nat} {els : List (List V)} {n : Int} {K : V → Prop} : idxP h z n (.full y els) K = (y = z ∧ (0 ≤ n ∧ n < els.length) ∧ K (.rp y els n.toNat 0)) := rfl
theorem jK {z : Nat} {n : Int} {K : V → Prop} : idxP h z n (.v (.slice none 0 0)) K = False := rfl
theorem jL {k i n : Nat} {K : V → Prop} : lenP (.sl k i n) K = (n ≤ maxLen → K (.i n)) := rfl
theorem jM {y : Nat} {els : List (List V)} {K : V → Prop} : lenP (.ro y els) K = (els.length ≤ maxLen → K (.i els.length)) := rfl
theorem jN {y : Nat} {els : List (List V)} {K : V → Prop} : lenP (.bro y els) K = (els.length ≤ maxLen → K (.i els.length)) := rfl
theorem jO {y : Nat} {els : List (List V)} {K : V → Prop} : lenP (.full y els) K = (els.length ≤ maxLen → K (.i els.length)) := rfl
theorem jP {K : V → Prop} : lenP (.v (.slice none 0 0)) K = K (.i 0) := rfl
theorem jQ {t : ByteArray} {K : V → Prop} : lensP (.v (.string t)) K = K (.i t.size) := rfl
theorem jR {vs : List V} {K : List V → Prop} : tupK (.tup vs) K = K vs := rfl
theorem jS {k i f : Nat} {K : V → Prop} : nilK (.ptr k i f) K = K (.ptr k i f) := rfl
theorem jT {f : FuncId} {cs : List V} {K : V → Prop} : nilK (.clo f cs) K = K (.clo f cs) := rfl
theorem jU {f : FuncId} {cs : List V} {K : FuncId → List V → Prop} : cloK (.clo f cs) K = K f cs := rfl
theorem jV {cs : List V} {K : List V → Prop} : aggK (.agg cs) K = K cs := rfl
theorem jW {k i n : Nat} {K : Nat → List (List V) → Prop} : viewK h (.sl k i n) K = viewB (blk h k) i n K := rfl
theorem jX {i n z : Nat} {els : List (List V)} {K : Nat → List (List V) → Prop} : viewB (.arr z els) i n K = (i + n ≤ els.length ∧ K z ((els.drop i).take n)) := rfl
theorem jY {z : Nat} {els : List (List V)} {K : Nat → List (List V) → Prop} : viewK h (.ro z els) K = K z els := rfl
theorem jZ {z : Nat} {els : List (List V)} {K : Nat → List (List V) → Prop} : viewK h (.bro z els) K = K z els := rfl
theorem qaa {z : Nat} {els : List (List V)} {K : Nat → List (List V) → Prop} : viewK h (.full z els) K = K z els := rfl
theorem qab {K : Nat → List (List V) → Prop} : viewK h (.v (.slice none 0 0)) K = K 0 [] := rfl
theorem qac {K : Option Int → Prop} : optI none K = K none := rfl
theorem qad {k : IntKind} {n : Int} {K : Option Int → Prop} : optI (some (.v (.int k n))) K = K (some n) := rfl
theorem qae {z k i n : Nat} {l u m : Option Int} {K : V → Prop} : slcP h z (.sl k i n) l u m K = (arrSz z (blk h k) ∧ slcOk n l u m ∧ K (.sl k (i + (l.getD 0).toNat) ((u.getD n).toNat - (l.getD 0).toNat))) := rfl
theorem qaf {z y : Nat} {els : List (List V)} {l u m : Option Int} {K : V → Prop} : slcP h z (.ro y els) l u m K = (y = z ∧ slcOk els.length l u m ∧ K (.ro y ((els.drop (l.getD 0).toNat).take ((u.getD els.length).toNat - (l.getD 0).toNat)))) := rfl
theorem qag {z y : Nat} {els : List (List V)} {l u m : Option Int} {K : V → Prop} : slcP h z (.bro y els) l u m K = (y = z ∧ slcOk els.length l u m ∧ K (.bro y ((els.drop (l.getD 0).toNat).take ((u.getD els.length).toNat - (l.getD 0).toNat)))) := rfl
theorem qah {z : Nat} {l u m : Option Int} {K : V → Prop} : slcP h z (.v (.slice none 0 0)) l u m K = (slcOk 0 l u m ∧ K (.v (.slice none 0 0))) := rfl
theorem qai {k i n : Nat} {K : Bool → Prop} : eqnP (.sl k i n) K = ((0 < n → K false) ∧ (n = 0 → K true ∧ K false)) := rfl
theorem qaj {z : Nat} {els : List (List V)} {K : Bool → Prop} : eqnP (.ro z els) K = ((els ≠ [] → K false) ∧ (els = [] → K true ∧ K false)) := rfl
theorem qak {z : Nat} {els : List (List V)} {K : Bool → Prop} : eqnP (.bro z els) K = ((els ≠ [] → K false) ∧ (els = [] → K true ∧ K false)) := rfl
theorem qal {K : Bool → Prop} : eqnP (.v (.slice none 0 0)) K = K true := rfl
theorem qam {id sz bytes : Nat} {old new : List (List V)} {K : V → St → Prop} : appNew id sz bytes ⟨e, h, b⟩ old new K = ((old.length + new.length) * bytes ≤ 140737488355328 ∧ freshP h id ∧ K (.sl id 0 (old.length + new.length)) ⟨e, h.set id (.arr sz (old ++ new)), b⟩) := rfl
theorem qan {k i n sz bytes z : Nat} {new els : List (List V)} {K : V → St → Prop} : appB fx bn k i n sz bytes ⟨e, h, b⟩ new (.arr z els) K = ((z = sz ∧ i + n ≤ els.length ∧ (n + new.length) * bytes ≤ 140737488355328) ∧ (k ∉ fx ∧ k ∉ bn) ∧ K (.sl k 0 (n + new.length)) ⟨killE [k] e, (h.map (killB [k])).set k (.arr sz ((els.drop i).take n ++ new)), b⟩) := rfl
theorem qao {k i n id sz bytes : Nat} {new : List (List V)} {K : V → St → Prop} : appP fx bn id sz bytes ⟨e, h, b⟩ (.sl k i n) new K = appB fx bn k i n sz bytes ⟨e, h, b⟩ new (blk h k) K := rfl
theorem qap {id sz bytes : Nat} {new : List (List V)} {K : V → St → Prop} : appP fx bn id sz bytes s (.v (.slice none 0 0)) new K = appNew id sz bytes s [] new K := rfl
theorem qaq {id sz bytes z : Nat} {els new : List (List V)} {K : V → St → Prop} : appP fx bn id sz bytes s (.full z els) new K = ((z = sz ∧ new ≠ []) ∧ appNew id sz bytes s els new K) := rfl
theorem qar {k i n sz z : Nat} {new els : List (List V)} {K : V → St → Prop} : copyB bn k i n sz ⟨e, h, b⟩ new (.arr z els) K = ((z = sz ∧ i + n ≤ els.length ∧ k ∉ bn) ∧ K (.i (min new.length n : Nat)) ⟨e, h.set k (.arr sz (els.take i ++ new.take n ++ els.drop (i + min new.length n))), b⟩) := rfl
theorem qas {k i n sz : Nat} {new : List (List V)} {K : V → St → Prop} : copyP bn sz ⟨e, h, b⟩ (.sl k i n) new K = copyB bn k i n sz ⟨e, h, b⟩ new (blk h k) K := rfl
theorem qat {kd : TypeDesc} {y : Value} {K : Value → Prop} : keyK kd (.v y) K = (isKey kd y = true ∧ K y) := rfl
theorem qau {k : Nat} {K : Nat → List (Value × V × Nat) → Nat → Prop} : mapK h (.mp k) K = mapB (blk h k) (K k) := rfl
theorem qav {es : List (Value × V × Nat)} {c : Nat} {K : List (Value × V × Nat) → Nat → Prop} : mapB (.map es c) K = K es c := rfl
theorem qaw {kd : TypeDesc} {key z : Value} {ok : Bool} {k : Nat} {K : V → Prop} : lookM h kd key z ok (.mp k) K = mapB (blk h k) fun es _ => lookK (mfind kd key es 0) z ok K := rfl
theorem qax {kd : TypeDesc} {key z : Value} {ok : Bool} {K : V → Prop} : lookM h kd key z ok (.v (.map none)) K = lookK (some none) z ok K := rfl
theorem qay {i : Nat} {x : V} {z : Value} {K : V → Prop} : lookK (some (some (i, x))) z true K = K (.tup [x, .b true]) := rfl
theorem qaz {i : Nat} {x : V} {z : Value} {K : V → Prop} : lookK (some (some (i, x))) z false K = K x := rfl
theorem qaA {z : Value} {K : V → Prop} : lookK (some none) z true K = K (.tup [ofConst z, .b false]) := rfl
theorem qaB {z : Value} {K : V → Prop} : lookK (some none) z false K = K (ofConst z) := rfl
theorem qaC {i c : Nat} {y x : V} {key : Value} {es : List (Value × V × Nat)} {K : Blk → Prop} : msetK (some (some (i, y))) key x es c K = K (.map (es.modify i fun e => (key, x, e.2.2)) c) := rfl
theorem qaD {c : Nat} {x : V} {key : Value} {es : List (Value × V × Nat)} {K : Blk → Prop} : msetK (some none) key x es c K = K (.map (es ++ [(key, x, c)]) (c + 1)) := rfl
theorem qaE {q : Value × V × Nat} {K : V → Prop} : entK (some q) K = K (.tup [.v q.1, q.2.1]) := rfl
theorem qaF {kd : TypeDesc} {key : Value} {i : Nat} : mfind kd key [] i = some none := rfl
theorem qaG {k : IntKind} {a : Int} : isKey (.int k) (.int k a) = true := by simp [isKey]
theorem qaH {k : Nat} {K : Nat → V → Nat → List Nat → Nat → Prop} : itK h (.ptr k 0 0) K = itB (blk h k) (K k) := rfl
theorem qaI {m : V} {si la : Nat} {se : List Nat} {K : V → Nat → List Nat → Nat → Prop} : itB (.it m si se la) K = K m si se la := rfl
section
variable {k : IntKind} {a c : Int} {K : V → Prop}
theorem qaJ : binInt .add true k a c K = ((lo k ≤ a + c ∧ a + c ≤ hi k) ∧ K (.v (.int k (a + c)))) := rfl
theorem qaK : binInt .add false k a c K = K (.v (.int k (k.wrap (a + c)))) := rfl
theorem qaL : binInt .sub true k a c K = ((lo k ≤ a - c ∧ a - c ≤ hi k) ∧ K (.v (.int k (a - c)))) := rfl
theorem qaM : binInt .sub false k a c K = K (.v (.int k (k.wrap (a - c)))) := rfl
theorem qaN : binInt .mul true k a c K = ((lo k ≤ a * c ∧ a * c ≤ hi k) ∧ K (.v (.int k (a * c)))) := rfl
theorem qaO : binInt .mul false k a c K = K (.v (.int k (k.wrap (a * c)))) := rfl
theorem qaP {x : Bool} : binInt .eql x k a c K = K (.b (a == c)) := rfl
theorem qaQ {x : Bool} : binInt .neq x k a c K = K (.b (a != c)) := rfl
theorem qaR {x : Bool} : binInt .lss x k a c K = K (.b (decide (a < c))) := rfl
theorem qaS {x : Bool} : binInt .leq x k a c K = K (.b (decide (a ≤ c))) := rfl
theorem qaT {x : Bool} : binInt .gtr x k a c K = K (.b (decide (c < a))) := rfl
theorem qaU {x : Bool} : binInt .geq x k a c K = K (.b (decide (c ≤ a))) := rfl
theorem qaV : binInt .quo true k a c K = (c ≠ 0 ∧ (lo k ≤ a.tdiv c ∧ a.tdiv c ≤ hi k) ∧ K (.v (.int k (a.tdiv c)))) := rfl
theorem qaW : binInt .quo false k a c K = (c ≠ 0 ∧ K (.v (.int k (k.wrap (a.tdiv c))))) := rfl
theorem qaX {x : Bool} : binInt .rem x k a c K = (c ≠ 0 ∧ K (.v (.int k (a.tmod c)))) := rfl
end
@[congr] theorem c_keyK {kd : TypeDesc} {x x' : V} {K : Value → Prop} (q : x = x') : keyK kd x K = keyK kd x' K := by rw [q]
@[congr] theorem c_mapK {x x' : V} {K : Nat → List (Value × V × Nat) → Nat → Prop} (q : x = x') : mapK h x K = mapK h x' K := by rw [q]
@[congr] theorem c_mapB {x x' : Blk} {K : List (Value × V × Nat) → Nat → Prop} (q : x = x') : mapB x K = mapB x' K := by rw [q]
@[congr] theorem c_lookM {kd : TypeDesc} {key key' z : Value} {ok : Bool} {m m' : V} {K : V → Prop} (q : m = m') (q2 : key = key') : lookM h kd key z ok m K = lookM h kd key' z ok m' K := by rw [q, q2]
@[congr] theorem c_lookK {r r' : Option (Option (Nat × V))} {z : Value} {ok : Bool} {K : V → Prop} (q : r = r') : lookK r z ok K = lookK r' z ok K := by rw [q]
@[congr] theorem c_msetK {r r' : Option (Option (Nat × V))} {key key' : Value} {x x' : V} {es es' : List (Value × V × Nat)} {c c' : Nat} {K : Blk → Prop} (q : r = r') (q1 : key = key') (q2 : x = x') (q3 : es = es') (q4 : c = c') : msetK r key x es c K = msetK r' key' x' es' c' K := by rw [q, q1, q2, q3, q4]
@[congr] theorem c_nextK {es es' : List (Value × V × Nat)} {si si' la la' : Nat} {se se' : List Nat} {D : Prop} {K : Value → V → Nat → Prop} (q : es = es') (q1 : si = si') (q2 : se = se') (q3 : la = la') : nextK es si se la D K = nextK es' si' se' la' D K := by rw [q, q1, q2, q3]
@[congr] theorem c_entK {r r' : Option (Value × V × Nat)} {K : V → Prop} (q : r = r') : entK r K = entK r' K := by rw [q]
@[congr] theorem c_itK {x x' : V} {K : Nat → V → Nat → List Nat → Nat → Prop} (q : x = x') : itK h x K = itK h x' K := by rw [q]
@[congr] theorem c_itB {x x' : Blk} {K : V → Nat → List Nat → Nat → Prop} (q : x = x') : itB x K = itB x' K := by rw [q]
@[congr] theorem c_viewB {i n : Nat} {x x' : Blk} {K : Nat → List (List V) → Prop} (q : x = x') : viewB x i n K = viewB x' i n K := by rw [q]
end
section
variable {α : Type} {a : α} {l : List α} {x : α} {y : Nat}
theorem lg0 : (a :: l)[1]? = l[0]? := rfl
theorem ka : (a :: l).set 1 x = a :: l.set 0 x := rfl
theorem kc : (a :: l).drop 1 = l.drop 0 := rfl
theorem ke : (a :: l).take 1 = a :: l.take 0 := rfl
theorem kf : List.replicate 1 x = x :: List.replicate 0 x := rfl
theorem lg1 : (a :: l)[2]? = l[1]? := rfl
theorem kg : (a :: l).set 2 x = a :: l.set 1 x := rfl
theorem kh : (a :: l).drop 2 = l.drop 1 := rfl
theorem ki : (a :: l).take 2 = a :: l.take 1 := rfl
theorem kj : List.replicate 2 x = x :: List.replicate 1 x := rfl
theorem lg2 : (a :: l)[3]? = l[2]? := rfl
theorem kk : (a :: l).set 3 x = a :: l.set 2 x := rfl
theorem kn : (a :: l).drop 3 = l.drop 2 := rfl
theorem ko : (a :: l).take 3 = a :: l.take 2 := rfl
theorem kp : List.replicate 3 x = x :: List.replicate 2 x := rfl
theorem lg3 : (a :: l)[4]? = l[3]? := rfl
theorem kq : (a :: l).set 4 x = a :: l.set 3 x := rfl
theorem kr : (a :: l).drop 4 = l.drop 3 := rfl
theorem kw : (a :: l).take 4 = a :: l.take 3 := rfl
theorem kx : List.replicate 4 x = x :: List.replicate 3 x := rfl
theorem lg4 : (a :: l)[5]? = l[4]? := rfl
theorem ky : (a :: l).set 5 x = a :: l.set 4 x := rfl
theorem kz : (a :: l).drop 5 = l.drop 4 := rfl
theorem kA : (a :: l).take 5 = a :: l.take 4 := rfl
theorem kB : List.replicate 5 x = x :: List.replicate 4 x := rfl
theorem lg5 : (a :: l)[6]? = l[5]? := rfl
theorem kC : (a :: l).set 6 x = a :: l.set 5 x := rfl
theorem kD : (a :: l).drop 6 = l.drop 5 := rfl
theorem kE : (a :: l).take 6 = a :: l.take 5 := rfl
theorem kF : List.replicate 6 x = x :: List.replicate 5 x := rfl
theorem lg6 : (a :: l)[7]? = l[6]? := rfl
theorem kG : (a :: l).set 7 x = a :: l.set 6 x := rfl
theorem kH : (a :: l).drop 7 = l.drop 6 := rfl
theorem kI : (a :: l).take 7 = a :: l.take 6 := rfl
theorem kJ : List.replicate 7 x = x :: List.replicate 6 x := rfl
theorem lg7 : (a :: l)[8]? = l[7]? := rfl
theorem kK : (a :: l).set 8 x = a :: l.set 7 x := rfl
theorem kL : (a :: l).drop 8 = l.drop 7 := rfl
theorem kM : (a :: l).take 8 = a :: l.take 7 := rfl
theorem kN : List.replicate 8 x = x :: List.replicate 7 x := rfl
theorem lg8 : (a :: l)[9]? = l[8]? := rfl
theorem kO : (a :: l).set 9 x = a :: l.set 8 x := rfl
theorem kP : (a :: l).drop 9 = l.drop 8 := rfl
theorem kQ : (a :: l).take 9 = a :: l.take 8 := rfl
theorem kR : List.replicate 9 x = x :: List.replicate 8 x := rfl
theorem lg9 : (a :: l)[10]? = l[9]? := rfl
theorem kS : (a :: l).set 10 x = a :: l.set 9 x := rfl
theorem kT : (a :: l).drop 10 = l.drop 9 := rfl
theorem kU : (a :: l).take 10 = a :: l.take 9 := rfl
theorem kV : List.replicate 10 x = x :: List.replicate 9 x := rfl
theorem kW : (a :: l)[11]? = l[10]? := rfl
theorem kX : (a :: l).set 11 x = a :: l.set 10 x := rfl
theorem kY : (a :: l).drop 11 = l.drop 10 := rfl
theorem kZ : (a :: l).take 11 = a :: l.take 10 := rfl
theorem wa : List.replicate 11 x = x :: List.replicate 10 x := rfl
theorem wb : (a :: l)[12]? = l[11]? := rfl
theorem wc : (a :: l).set 12 x = a :: l.set 11 x := rfl
theorem wd : (a :: l).drop 12 = l.drop 11 := rfl
theorem we : (a :: l).take 12 = a :: l.take 11 := rfl
theorem wg : List.replicate 12 x = x :: List.replicate 11 x := rfl
theorem wh : (a :: l)[13]? = l[12]? := rfl
theorem wj : (a :: l).set 13 x = a :: l.set 12 x := rfl
theorem wl : (a :: l).drop 13 = l.drop 12 := rfl
theorem wm : (a :: l).take 13 = a :: l.take 12 := rfl
theorem wo : List.replicate 13 x = x :: List.replicate 12 x := rfl
theorem wq : (a :: l)[14]? = l[13]? := rfl
theorem wr : (a :: l).set 14 x = a :: l.set 13 x := rfl
theorem wt : (a :: l).drop 14 = l.drop 13 := rfl
theorem wu : (a :: l).take 14 = a :: l.take 13 := rfl
theorem ww : List.replicate 14 x = x :: List.replicate 13 x := rfl
theorem wx : (a :: l)[15]? = l[14]? := rfl
theorem wy : (a :: l).set 15 x = a :: l.set 14 x := rfl
theorem wz : (a :: l).drop 15 = l.drop 14 := rfl
theorem wA : (a :: l).take 15 = a :: l.take 14 := rfl
theorem wB : List.replicate 15 x = x :: List.replicate 14 x := rfl
theorem wC : (a :: l)[16]? = l[15]? := rfl
theorem wD : (a :: l).set 16 x = a :: l.set 15 x := rfl
theorem wE : (a :: l).drop 16 = l.drop 15 := rfl
theorem wF : (a :: l).take 16 = a :: l.take 15 := rfl
theorem wG : List.replicate 16 x = x :: List.replicate 15 x := rfl
theorem wH : (a :: l)[17]? = l[16]? := rfl
theorem wI : (a :: l).set 17 x = a :: l.set 16 x := rfl
theorem wJ : (a :: l)[18]? = l[17]? := rfl
theorem wK : (a :: l).set 18 x = a :: l.set 17 x := rfl
theorem wL : (a :: l)[19]? = l[18]? := rfl
theorem wM : (a :: l).set 19 x = a :: l.set 18 x := rfl
theorem wN : (a :: l)[20]? = l[19]? := rfl
theorem wO : (a :: l).set 20 x = a :: l.set 19 x := rfl
theorem wP : (a :: l)[21]? = l[20]? := rfl
theorem wQ : (a :: l).set 21 x = a :: l.set 20 x := rfl
theorem wR : (a :: l)[22]? = l[21]? := rfl
theorem wS : (a :: l).set 22 x = a :: l.set 21 x := rfl
theorem wU : (a :: l)[23]? = l[22]? := rfl
theorem wV : (a :: l).set 23 x = a :: l.set 22 x := rfl
theorem wW : (a :: l)[24]? = l[23]? := rfl
theorem wX : (a :: l).set 24 x = a :: l.set 23 x := rfl
theorem wY : (a :: l)[25]? = l[24]? := rfl
theorem wZ : (a :: l)[26]? = l[25]? := rfl
theorem ja : (a :: l)[27]? = l[26]? := rfl
theorem jb : (a :: l)[28]? = l[27]? := rfl
theorem jc : (a :: l)[29]? = l[28]? := rfl
theorem jd : (a :: l)[30]? = l[29]? := rfl
theorem je : (a :: l)[31]? = l[30]? := rfl
theorem jf : (a :: l)[32]? = l[31]? := rfl
theorem jg : (a :: l)[33]? = l[32]? := rfl
theorem jh : (a :: l)[34]? = l[33]? := rfl
theorem ji : (a :: l)[35]? = l[34]? := rfl
theorem jj : (a :: l)[36]? = l[35]? := rfl
theorem jk : (a :: l)[37]? = l[36]? := rfl
theorem jl : (a :: l)[38]? = l[37]? := rfl
theorem jm : (a :: l)[39]? = l[38]? := rfl
theorem jn : (a :: l)[40]? = l[39]? := rfl
theorem jo : List.replicate 0 x = [] := rfl
end
end Go.Fx
namespace Go.Fx.F
open Go Go.Fx Go.Proofs
structure Arc where
  from_ : Int
  to : Int
  cap : Int
  cost : Int
  deriving Inhabited
def Arc.enc (a : Arc) : List V := [.i a.from_, .i a.to, .i a.cap, .i a.cost]
def encI (x : Int) : List V := [.i x]
def encB (x : Bool) : List V := [.b x]
def net (n : Int) (arcs : List Arc) : V := .agg [.i n, .bro 4 (arcs.map Arc.enc)]
def li (l : List Int) : V := .bro 1 (l.map encI)
def lb (l : List Bool) : V := .bro 1 (l.map encB)
def cx0 : Cx := ⟨fun f xs h0 mv R => Callable Try.prog f ∧ Fn Try.prog f xs h0 mv R, [], []⟩
theorem cx0_ok : cx0.ok Try.prog := fun _ _ _ _ _ h => h
def Ok (f : FuncId) (xs : List V) (R : V → List Blk → Prop) : Prop := Callable Try.prog f ∧ Fn Try.prog f xs [] [] R

/-- A call of a function that hands back a number. -/
theorem call_is {bn : List Nat} {f : FuncId} {args : List V} {e : Env} {h : List Blk} {b : Nat} {K : V → St → Prop} {xs : List V} {x : V} (hC : Ok f xs (Is x)) (h1 : lendsOk h (fun _ => none) args ∧ wkL xs (lends h (fun _ => none) args))
    (hx : ren (fun j => some (h.length + j)) x = x) (h3 : K x ⟨e, h, b⟩) : callP ⟨cx0.C, [], bn⟩ f args ⟨e, h, b⟩ K := by
  refine callP_pure xs (Is x) h1 hC ?_
  rintro r h' ⟨rfl, rfl⟩
  simp only [List.map_nil, List.append_nil]
  exact ⟨trivial, by rw [hx]; exact h3⟩

theorem ok_of {f : FuncId} {l0 l : LCode} {rs : List LRes} {nt : Nat} (hl : rlF Try.prog f l0 = some (l, rs, nt)) {args : List V} {R : V → List Blk → Prop} (hlen : args.length ≤ nt)
    (h : aw cx0 l (retP [] 0 rs R) (fun _ _ => False) (retP [] 0 rs R) ⟨args0 0 args, [], 0⟩) : Ok f args R :=
  ⟨rlF_callable hl, Fn_rl pol cx0_ok hl hlen trivial (fun k hk => by simp at hk) h⟩

theorem enc_len (a : Arc) : a.enc.length = 4 := rfl
theorem enc_take (a : Arc) : List.take 4 a.enc = a.enc := rfl
theorem enc_0 (a : Arc) : a.enc[0]? = some (.i a.from_) := rfl
theorem enc_1 (a : Arc) : a.enc[1]? = some (.i a.to) := rfl
theorem enc_2 (a : Arc) : a.enc[2]? = some (.i a.cap) := rfl
theorem enc_3 (a : Arc) : a.enc[3]? = some (.i a.cost) := rfl
theorem enc_isC (a : Arc) : a.enc.all isC = true := rfl
theorem enc_isD (a : Arc) : a.enc.all isD = true := rfl
theorem encI_len (x : Int) : (encI x).length = 1 := rfl
theorem encI_0 (x : Int) : (encI x)[0]? = some (.i x) := rfl
theorem encI_drop (x : Int) : List.drop 1 (encI x) = [] := rfl
theorem keep0 (h : List Blk) : keepP cx0.fx h = True := by simp [cx0, keepP]
theorem cx0_bn : cx0.bn = [] := rfl
theorem cx0_fx : cx0.fx = [] := rfl
theorem encB_len (x : Bool) : (encB x).length = 1 := rfl
theorem encB_0 (x : Bool) : (encB x)[0]? = some (.b x) := rfl
/-- A result, and one block handed on zas it was. -/
def IsH (x : V) (b0 : Blk) : V → List Blk → Prop := fun r h => r = x ∧ h = [b0]
theorem retP_isH {fx : List Nat} {n : Nat} {e : Env} {h : List Blk} {b : Nat} {rs : List LRes} {x : V} {b0 : Blk} : retP fx n rs (IsH x b0) ⟨e, h, b⟩ = resP h e rs [] fun xs => (leH h [b0] ∧ keepP fx [b0] ∧ n ≤ 1 ∧ wfV [b0] (tupV xs) ∧ wfB [b0] [b0]) ∧ tupV xs = x := by
  rw [retP_eq]
  congr 1
  funext xs
  apply propext
  constructor
  · rintro ⟨p, h1, h2, rfl⟩
    exact ⟨h1, h2⟩
  · rintro ⟨h1, h2⟩
    exact ⟨[b0], h1, h2, rfl⟩

/-- A result, and new blocks. -/
def IsA (x : V) (h0 : List Blk) : V → List Blk → Prop := fun r h => r = x ∧ h = h0
theorem retP_isA {fx : List Nat} {n : Nat} {e : Env} {h : List Blk} {b : Nat} {rs : List LRes} {x : V} {h0 : List Blk} : retP fx n rs (IsA x h0) ⟨e, h, b⟩ = resP h e rs [] fun xs => (leH h h0 ∧ keepP fx h0 ∧ n ≤ h0.length ∧ wfV h0 (tupV xs) ∧ wfB h0 h0) ∧ tupV xs = x := by
  rw [retP_eq]
  congr 1
  funext xs
  apply propext
  constructor
  · rintro ⟨p, h1, h2, rfl⟩
    exact ⟨h1, h2⟩
  · rintro ⟨h1, h2⟩
    exact ⟨h0, h1, h2, rfl⟩
theorem call_isA {bn : List Nat} {f : FuncId} {args : List V} {e : Env} {h : List Blk} {b : Nat} {K : V → St → Prop} (xs : List V) (x x' : V) (h0 h0' : List Blk) (hC : Ok f xs (IsA x h0)) (h1 : lendsOk h (fun _ => none) args ∧ wkL xs (lends h (fun _ => none) args))
    (hx : ren (fun j => some (h.length + j)) x = x') (hh : h0.map (renB (fun j => some (h.length + j))) = h0') (h3 : K x' ⟨e, h ++ h0', b⟩) : callP ⟨cx0.C, [], bn⟩ f args ⟨e, h, b⟩ K := by
  refine callP_pure xs (IsA x h0) h1 hC ?_
  rintro r h' ⟨rfl, rfl⟩
  rw [hx, hh]
  exact ⟨trivial, h3⟩

/-- A call that lends one block. -/
theorem call_isH {cx : Cx} {f : FuncId} {args : List V} {e : Env} {h : List Blk} {b : Nat} {K : V → St → Prop} (xs : List V) (x : V) (k : Nat) (b1 b0 : Blk) (hC : cx.C f xs [b0] [] (IsH x b0)) (hk : h[k]? = some b1 ∧ k ∉ cx.bn)
    (r1 : renB (pos [k]) b1 = b0) (r2 : renB (back [k] h.length) b0 = b0) (h1 : lendsOk h (pos [k]) args ∧ wkL xs (lends h (pos [k]) args))
    (hx : ren (back [k] h.length) x = x) (keep : keepP cx.fx (h.set k b0)) (h3 : K x ⟨e, h.set k b0, b⟩) : callP cx f args ⟨e, h, b⟩ K := by
  have hlt : k < h.length := by
    have := hk.1
    rw [List.getElem?_eq_some_iff] at this
    exact this.1
  have hbk : blk h k = b1 := by simp [blk, List.getD_eq_getElem?_getD, hk.1]
  have hkb : ∀ l : List Blk, l.map (killB []) = l := killB_nil
  refine ⟨[k], xs, [], IsH x b0, ⟨⟨by simp, by simpa using ⟨hlt, hk.2⟩⟩, by simp⟩, h1.1, h1.2, ?_, ?_⟩
  · simp only [List.map_cons, List.map_nil, hbk, r1]; exact hC
  · rintro r h' ⟨rfl, rfl⟩ _
    simp only [List.filterMap_nil, hkb, killE_nil, List.map_cons, List.map_nil, r2, setAll, List.append_nil, hx]
    exact ⟨keep, h3⟩
end Go.Fx.F
namespace Go.Fx.F
open Go Go.Fx Go.Proofs
set_option maxRecDepth 20000

def validA (n : Int) (a : Arc) : Bool := decide ((0 ≤ a.from_ ∧ a.from_ < n) ∧ (0 ≤ a.to ∧ a.to < n) ∧ a.from_ ≠ a.to ∧ 0 ≤ a.cap ∧ a.cap ≤ 1073741824)
def validB (n : Int) (arcs : List Arc) : Bool := decide (1 ≤ n ∧ n ≤ 256 ∧ arcs.length ≤ 2048) && arcs.all (validA n)
def nb (n : Int) : Blk := .var [.i n, .any]
def cx1 : Cx := ⟨fun f xs h0 mv R => Callable Try.prog f ∧ Fn Try.prog f xs h0 mv R, [0], []⟩
theorem cx1_ok : cx1.ok Try.prog := fun _ _ _ _ _ h => h
theorem okH_of {f : FuncId} {l0 l : LCode} {rs : List LRes} {nt : Nat} (hl : rlF Try.prog f l0 = some (l, rs, nt)) {args : List V} {b0 : Blk} {R : V → List Blk → Prop} (hlen : args.length ≤ nt) (hb : liveP [b0] 0)
    (h : aw cx1 l (retP [0] 1 rs R) (fun _ _ => False) (retP [0] 1 rs R) ⟨args0 0 args, [b0], 0⟩) : Callable Try.prog f ∧ Fn Try.prog f args [b0] [] R :=
  ⟨rlF_callable hl, Fn_rl pol cx1_ok hl hlen ⟨hb, trivial⟩ (fun k hk _ => by simp at hk; subst hk; exact List.mem_singleton.mpr rfl) h⟩

theorem ok53 (n : Int) (arcs : List Arc) (a : Arc) : Callable Try.prog 53 ∧ Fn Try.prog 53 [.agg a.enc, .ptr 0 0 0] [nb n] [] (IsH (.b (!validA n a)) (nb n)) := by
  refine okH_of lw53 (by simp) trivial ?_
  unfold c53 nb
  simp -implicitDefEqProofs only [qF, qI, qN, qO, qP, qQ, qR, qS, qT, qV, qX, qZ, zg, zJ, zL, zM, zP, ofConst, cells?, List.length_nil, List.length_cons, List.set_cons_zero, zQ, List.getD_eq_getElem?_getD, List.getElem?_cons_zero, ↓reduceIte, Nat.reduceEqDiff, Option.getD_some, zR, zT, Bool.not_false, ↓zU, ↓zV, zW, List.nil_append, List.cons_append, List.append_nil, Nat.zero_add, Nat.reduceAdd, Nat.add_zero, reduceCtorEq, freshP, resP, tupV, List.reverse_cons, List.reverse_nil, leH, leB, leV, leVs, keepP, liveP, wfB, wfV, wfL, Bool.and_self, true_and, and_self, V.v.injEq, Value.int.injEq, Value.bool.injEq, Bool.false_eq_true, Nat.le_refl, lg0, ka, kf, lg1, jo, ↓jp, ↓jr, ↓ju, ↓jy, ↓jE, ↓qaP, ↓qaR, ↓qaT, ↓qaU, args0, cx1, Arc.enc, retP_isH]
  simp only [br, decide_eq_true_eq, decide_eq_false_iff_not, validA]
  simp [leVs, leV]
  grind
def fbad (n : Int) (arcs : List Arc) : Int := if arcs.all (validA n) then -1 else (arcs.findIdx (fun a => !validA n a) : Nat)
theorem ok61 (n : Int) (arcs : List Arc) : Callable Try.prog 61 ∧ Fn Try.prog 61 [.bro 4 (arcs.map Arc.enc), .clo 53 [.ptr 0 0 0]] [nb n] [] (IsH (.i (fbad n arcs)) (nb n)) := by
  refine okH_of lw61 (by simp) trivial ?_
  unfold c61
  simp -implicitDefEqProofs only [qF, qI, qK, qL, qO, qP, qR, zb, zJ, zL, zM, zP, ofConst, List.length_nil, List.length_cons, ↓reduceIte, List.append_nil, Nat.zero_add, reduceCtorEq, List.length_map, jo, ↓jN, List.length_map, args0, cx1]
  intro hm
  refine loopP_intro (fun k : Nat => ⟨[(8, .i k), (7, .i arcs.length), (1, .clo 53 [.ptr 0 0 0]), (0, .bro 4 (arcs.map Arc.enc))], [nb n], 0⟩) (fun k => k ≤ arcs.length ∧ ∀ j (h : j < arcs.length), j < k → validA n arcs[j] = true) (fun k => arcs.length - k) 0 (by simp) ?_ ?_
  · simp -implicitDefEqProofs only [zP, List.getElem?_cons_zero, ↓reduceIte, Nat.reduceEqDiff, reduceCtorEq, zZ, leE, leH, leB, leV, leVs, keepP, liveP, wfE, wfB, wfV, wfL, Bool.and_self, and_self, nb, Int.natCast_zero]
  rintro k ⟨hk, hv⟩
  simp -implicitDefEqProofs only [qE, qF, qI, qJ, qK, qM, qN, qO, qP, qR, qV, qY, qZ, zG, zJ, zL, zM, zP, ofConst, List.length_nil, List.length_cons, ↓reduceIte, Nat.reduceEqDiff, zR, zT, List.nil_append, List.cons_append, List.append_nil, Nat.zero_add, reduceCtorEq, List.map_cons, List.map_nil, List.drop_zero, true_and, List.length_map, Nat.le_refl, jo, ↓jt, ↓jz, ↓jI, ↓jU, ↓qaR, List.length_map, List.getElem_map, enc_len, enc_take, Int.toNat_natCast]
  simp only [br, Int.toNat_natCast, decide_eq_true_eq, decide_eq_false_iff_not]
  refine ⟨fun h => ⟨⟨by omega, h⟩, by omega, ?_⟩, fun h => ?_⟩
  · have hk : k < arcs.length := by omega
    refine call_isH [.agg arcs[k].enc, .ptr 0 0 0] (.b (!validA n arcs[k])) 0 (nb n) (nb n) (ok53 n arcs arcs[k]) ⟨rfl, by simp⟩ rfl rfl ?_ rfl ⟨trivial, trivial⟩ ?_
    · simp [lendsOk, lendOk, lends, lend, wkL, wk, pos, Arc.enc]
    simp -implicitDefEqProofs only [qE, qF, qI, qJ, qN, qO, qP, qR, qZ, zJ, zL, zM, zP, ofConst, List.length_nil, List.length_cons, List.set_cons_zero, List.getElem?_cons_zero, ↓reduceIte, Nat.reduceEqDiff, zR, zT, List.nil_append, List.append_nil, Nat.zero_add, reduceCtorEq, resP, tupV, List.reverse_cons, List.reverse_nil, zZ, leE, leH, leB, leV, leVs, keepP, liveP, wfE, wfB, wfV, wfL, Bool.and_true, Bool.and_self, true_and, and_true, and_self, V.v.injEq, Value.int.injEq, Value.bool.injEq, Nat.le_refl, jo, ↓qaJ, retP_isH, nb, leVs, leV]
    simp only [br, Bool.not_eq_true', Bool.not_eq_false']
    refine ⟨fun hf => ?_, fun ht => ⟨by simp only [lo, hi, maxLen] at hm ⊢; omega, k + 1, ⟨⟨by omega, fun j hj h2 => ?_⟩, by omega⟩, by simp⟩⟩
    · have h1 : ¬ arcs.all (validA n) = true := by
        rw [List.all_eq_true]
        intro h
        have := h _ (List.getElem_mem hk)
        simp [hf] at this
      have h2 : arcs.findIdx (fun a => !validA n a) = k := by
        rw [List.findIdx_eq hk]
        exact ⟨by simp [hf], fun j hj => by simp [hv j (by omega) hj]⟩
      simp [fbad, h1, h2]
    · by_cases h3 : j = k
      · subst h3; exact ht
      · exact hv j hj (by omega)
  · simp -implicitDefEqProofs only [zP, List.getElem?_cons_zero, ↓reduceIte, List.nil_append, resP, tupV, List.reverse_cons, List.reverse_nil, leH, leB, leV, leVs, keepP, liveP, wfB, wfV, wfL, Bool.and_self, true_and, and_self, V.v.injEq, Value.int.injEq, Value.bool.injEq, Nat.le_refl, retP_isH, nb, leVs, leV]
    have : k = arcs.length := by omega
    have hall : arcs.all (validA n) = true := by
      rw [List.all_eq_true]
      intro a ha
      obtain ⟨j, hj, rfl⟩ := List.getElem_of_mem ha
      exact hv j hj (by omega)
    simp [fbad, hall]
theorem ok52 (n : Int) (arcs : List Arc) : Callable Try.prog 52 ∧ Fn Try.prog 52 [.bro 4 (arcs.map Arc.enc), .clo 53 [.ptr 0 0 0]] [nb n] [] (IsH (.b (!(arcs.all (validA n)))) (nb n)) := by
  refine okH_of lw52 (by simp) trivial ?_
  unfold c52
  simp -implicitDefEqProofs only [qF, qI, qO, qP, qR, zD, zJ, zL, zM, zP, ofConst, List.length_nil, List.length_cons, ↓reduceIte, Nat.reduceEqDiff, List.append_nil, Nat.zero_add, reduceCtorEq, List.map_cons, List.map_nil, jo, args0, cx1]
  refine call_isH [.bro 4 (arcs.map Arc.enc), .clo 53 [.ptr 0 0 0]] (.i (fbad n arcs)) 0 (nb n) (nb n) (ok61 n arcs) ⟨rfl, by simp⟩ rfl rfl ?_ rfl ⟨trivial, trivial⟩ ?_
  · simp [lendsOk, lendOk, lends, lend, wkL, wk, wkB, pos]
  simp -implicitDefEqProofs only [qN, qO, qP, qR, qZ, zJ, zL, zM, zP, ofConst, List.set_cons_zero, List.getElem?_cons_zero, ↓reduceIte, zR, List.nil_append, resP, tupV, List.reverse_cons, List.reverse_nil, leH, leB, leV, leVs, keepP, liveP, wfB, wfV, wfL, Bool.and_self, true_and, and_self, V.v.injEq, Value.int.injEq, Value.bool.injEq, Nat.le_refl, ↓qaU, retP_isH, nb, leVs, leV, fbad]
  by_cases h : arcs.all (validA n) = true
  · simp [h]
  · simp only [h, if_false]
    simp
theorem ok25 (n : Int) (arcs : List Arc) : Ok 25 [net n arcs] (Is (.b (validB n arcs))) := by
  refine ok_of lw25 (by simp) ?_
  unfold c25 net
  simp -implicitDefEqProofs only [qE, qF, qI, qJ, qN, qO, qP, qQ, qR, qS, qT, qV, qX, qZ, zb, zh, zD, zJ, zL, zM, zP, ofConst, cells?, List.length_nil, List.length_cons, List.set_cons_zero, zQ, List.getD_eq_getElem?_getD, List.getElem?_cons_zero, ↓reduceIte, Nat.reduceEqDiff, Option.getD_some, zR, zT, Bool.not_false, ↓zU, ↓zV, zW, List.nil_append, List.append_nil, Nat.zero_add, Nat.add_zero, freshP, zY, resP, tupV, List.reverse_cons, List.reverse_nil, wfV, List.map_cons, List.map_nil, true_and, V.v.injEq, Value.int.injEq, Value.bool.injEq, List.length_map, Bool.false_eq_true, lg0, kf, jo, ↓jp, ↓jr, ↓ju, ↓jy, ↓jE, ↓jN, ↓qaR, ↓qaT, List.length_map, args0, cx0]
  simp only [br, decide_eq_true_eq, decide_eq_false_iff_not]
  refine ⟨fun h => ?_, fun h1 => ⟨fun h => ?_, fun h2 hm => ⟨fun h => ?_, fun h3 => ?_⟩⟩⟩
  · simp [validB]; omega
  · simp [validB]; omega
  · simp [validB]; omega
  refine call_isH [.bro 4 (arcs.map Arc.enc), .clo 53 [.ptr 0 0 0]] (.b (!(arcs.all (validA n)))) 0 _ (nb n) (ok52 n arcs) ⟨rfl, by simp⟩ rfl rfl ?_ rfl trivial ?_
  · simp [lendsOk, lendOk, lends, lend, wkL, wk, wkB, pos]
  simp -implicitDefEqProofs only [qN, qO, qP, qR, zd, zJ, zL, zP, List.set_cons_zero, ↓reduceIte, zS, List.nil_append, zY, resP, tupV, List.reverse_cons, List.reverse_nil, wfV, true_and, V.v.injEq, Value.int.injEq, Value.bool.injEq]
  simp [validB]
  omega
theorem ok26 (n : Int) (arcs : List Arc) : Ok 26 [net n arcs] (Is (.b (validB n arcs))) := by
  refine ok_of lw26 (by simp) ?_
  unfold c26 net
  simp -implicitDefEqProofs only [qE, qF, qI, qJ, qK, qL, qN, qO, qP, qQ, qR, qS, qT, qV, qX, qZ, zb, zJ, zL, zM, zP, ofConst, cells?, List.length_nil, List.length_cons, List.set_cons_zero, zQ, List.getD_eq_getElem?_getD, List.getElem?_cons_zero, ↓reduceIte, Nat.reduceEqDiff, Option.getD_some, zR, zT, Bool.not_false, ↓zU, ↓zV, zW, List.nil_append, List.append_nil, Nat.zero_add, Nat.add_zero, freshP, zY, resP, tupV, List.reverse_cons, List.reverse_nil, wfV, true_and, V.v.injEq, Value.int.injEq, Value.bool.injEq, List.length_map, Bool.false_eq_true, lg0, kf, jo, ↓jp, ↓jr, ↓ju, ↓jy, ↓jE, ↓jN, ↓qaR, ↓qaT, List.length_map, args0, cx0]
  simp only [br, decide_eq_true_eq, decide_eq_false_iff_not]
  refine ⟨fun h => ?_, fun h1 => ⟨fun h => ?_, fun h2 hm => ⟨fun h => ?_, fun h3 => ?_⟩⟩⟩
  · simp [validB]; omega
  · simp [validB]; omega
  · simp [validB]; omega
  refine loopP_intro (fun k : Nat => ⟨[(3, .i k), (1, .ptr 0 0 0)], [.var [.i n, .bro 4 (arcs.map Arc.enc)]], 0⟩) (fun k => k ≤ arcs.length ∧ ∀ j (h : j < arcs.length), j < k → validA n arcs[j] = true) (fun k => arcs.length - k) 0 (by simp) ?_ ?_
  · simp -implicitDefEqProofs only [zP, List.getElem?_cons_zero, ↓reduceIte, Nat.reduceEqDiff, zZ, leE, leH, leB, leV, leVs, keepP, liveP, wfE, wfB, wfV, wfL, Bool.and_self, and_self, leVs, leV, Int.natCast_zero]
  rintro k ⟨hk, hv⟩
  simp -implicitDefEqProofs only [qE, qF, qI, qJ, qK, qM, qN, qO, qP, qQ, qR, qS, qU, qV, qW, qX, qY, qZ, zb, zJ, zK, zL, zM, zP, ofConst, cells?, List.length_nil, List.length_cons, List.set_cons_zero, splice, zQ, List.getD_eq_getElem?_getD, List.getElem?_cons_zero, ↓reduceIte, Nat.reduceEqDiff, Option.getD_some, zR, zT, Bool.not_false, ↓zU, ↓zV, zW, List.nil_append, List.cons_append, List.append_nil, Nat.zero_add, Nat.reduceAdd, Nat.add_zero, freshP, zY, resP, tupV, List.reverse_cons, List.reverse_nil, zZ, leE, leH, leB, leV, leVs, keepP, liveP, wfE, wfB, wfV, wfL, List.map_cons, List.map_nil, List.drop_zero, List.take_zero, List.drop_nil, Bool.and_true, Bool.and_self, true_and, and_true, and_self, V.v.injEq, Value.int.injEq, Value.bool.injEq, List.not_mem_nil, List.length_map, not_false_eq_true, Bool.false_eq_true, Nat.le_refl, lg0, ka, kc, kf, kh, kn, kr, jo, ↓jp, ↓jr, ↓jt, ↓ju, ↓jy, ↓jz, ↓jA, ↓jB, ↓jE, ↓jI, ↓jN, ↓qaJ, ↓qaP, ↓qaR, ↓qaT, ↓qaU, List.length_map, List.getElem_map, enc_len, enc_take, enc_0, enc_1, enc_2, enc_isC, Int.toNat_natCast]
  simp only [br, decide_eq_true_eq, decide_eq_false_iff_not]
  refine fun _ => ⟨fun h => ⟨⟨by omega, h⟩, by omega, ?_⟩, fun h => ?_⟩
  · have hk : k < arcs.length := by omega
    have vb : validA n arcs[k] = false → false = validB n arcs := by
      intro hf
      have h1 : arcs.all (validA n) = false := by
        rw [List.all_eq_false]
        exact ⟨_, List.getElem_mem hk, by simp [hf]⟩
      simp [validB, h1]
    have hx : ∀ (h : validA n arcs[k] = true) (j : Nat) (hj : j < arcs.length), j < k + 1 → validA n arcs[j] = true := by
      intro h j hj h2
      by_cases h3 : j = k
      · subst h3; exact h
      · exact hv j hj (by omega)
    refine ⟨fun q => vb ?_, fun q1 => ⟨fun q => vb ?_, fun q2 => ⟨fun q => vb ?_, fun q3 => ⟨fun q => vb ?_, fun q4 => ⟨fun q => vb ?_, fun q5 => ⟨fun q => vb ?_, fun q6 => ⟨fun q => vb ?_, fun q7 => ⟨?_, k + 1, ⟨⟨by omega, hx ?_⟩, by omega⟩, by simp⟩⟩⟩⟩⟩⟩⟩⟩
    case refine_8 => simp only [lo, hi, maxLen] at hm ⊢; omega
    all_goals
      simp only [validA, decide_eq_true_eq, decide_eq_false_iff_not, beq_iff_eq, beq_eq_false_iff_ne] at *
      omega
  · have hall : arcs.all (validA n) = true := by
      rw [List.all_eq_true]
      intro a ha
      obtain ⟨j, hj, rfl⟩ := List.getElem_of_mem ha
      exact hv j hj (by omega)
    simp [validB, hall]
    omega
end Go.Fx.F
namespace Go.Fx.F
open Go Go.Fx Go.Proofs
set_option maxRecDepth 20000
theorem ok9 (n : Int) (arcs : List Arc) (x y : Int) : Ok 9 [net n arcs, .i x, .i y] (Is (.b (decide (n ≤ x ∧ (arcs.length : Int) ≤ y) && validB n arcs))) := by
  refine ok_of lw9 (by simp) ?_
  unfold c9
  simp -implicitDefEqProofs only [qF, qI, qN, qO, qP, qQ, qR, qS, qT, qV, qX, qZ, zb, zD, zJ, zL, zM, zP, ofConst, cells?, List.length_nil, List.length_cons, List.set_cons_zero, zQ, List.getD_eq_getElem?_getD, List.getElem?_cons_zero, ↓reduceIte, Nat.reduceEqDiff, Option.getD_some, zR, zT, Bool.not_true, ↓zU, ↓zV, zW, List.nil_append, List.append_nil, Nat.zero_add, Nat.reduceAdd, Nat.add_zero, reduceCtorEq, freshP, zY, resP, tupV, List.reverse_cons, List.reverse_nil, wfV, List.map_cons, List.map_nil, List.drop_zero, List.take_nil, true_and, V.v.injEq, Value.int.injEq, Value.bool.injEq, List.length_map, Nat.le_refl, lg0, ke, kf, ki, jo, ↓jp, ↓jr, ↓ju, ↓jy, ↓jz, ↓jE, ↓jN, ↓qaS, List.length_map, args0, net]
  simp only [br, decide_eq_true_eq, decide_eq_false_iff_not]
  refine ⟨fun h1 hm => ⟨fun h2 => ?_, fun h2 => ?_⟩, fun h1 => ?_⟩
  · refine call_is (ok26 n arcs) ?_ rfl ?_
    · simp [net, lendsOk, lendOk, lends, lend, wkL, wk, wkB, pos]
    simp -implicitDefEqProofs only [qN, qO, qP, qR, qS, zJ, zL, zP, ↓reduceIte, Nat.reduceEqDiff, zT, ↓zU, List.nil_append, zY, resP, tupV, List.reverse_cons, List.reverse_nil, wfV, true_and, V.v.injEq, Value.int.injEq, Value.bool.injEq]
    simp [h1, h2]
  · simp [h2]
  · simp [h1]
theorem ok13 (a b : List Int) : Ok 13 [li a, li b] (Is (.b (decide (a = b)))) := by
  refine ok_of lw13 (by simp) ?_
  unfold c13
  simp -implicitDefEqProofs only [qE, qF, qI, qJ, qK, qL, qN, qO, qP, qR, qZ, zb, zJ, zL, zM, zP, ofConst, List.length_nil, ↓reduceIte, Nat.reduceEqDiff, zR, zT, List.nil_append, List.append_nil, Nat.zero_add, reduceCtorEq, zY, resP, tupV, List.reverse_cons, List.reverse_nil, wfV, true_and, V.v.injEq, Value.int.injEq, Value.bool.injEq, List.length_map, jo, ↓jN, ↓qaQ, List.length_map, cx0_fx, args0, li]
  simp only [br, decide_eq_true_eq, decide_eq_false_iff_not, bne_iff_ne, bne_eq_false_iff_eq]
  refine fun ha hb => ⟨fun h => ?_, fun h => ?_⟩
  · have : ¬ a = b := fun h2 => h (by rw [h2])
    simp [this]
  refine loopP_intro (fun k : Nat => ⟨[(5, .i k), (0, .bro 1 (a.map encI)), (1, .bro 1 (b.map encI))], [], 0⟩) (fun k => k ≤ a.length ∧ ∀ j (h1 : j < a.length) (h2 : j < b.length), j < k → a[j] = b[j]) (fun k => a.length - k) 0 (by simp) ?_ ?_
  · simp -implicitDefEqProofs only [zP, ↓reduceIte, Nat.reduceEqDiff, reduceCtorEq, zZ, leE, leH, keepP, wfE, wfB, wfV, Bool.and_self, and_self, Int.natCast_zero]
  rintro k ⟨hk, hv⟩
  simp -implicitDefEqProofs only [qE, qF, qH, qI, qJ, qK, qM, qN, qO, qP, qR, qV, qY, qZ, zb, zJ, zL, zM, zP, ofConst, List.length_nil, ↓reduceIte, Nat.reduceEqDiff, zR, zT, List.nil_append, List.append_nil, reduceCtorEq, zY, resP, tupV, List.reverse_cons, List.reverse_nil, zZ, leE, leH, keepP, wfE, wfB, wfV, Bool.and_true, Bool.and_self, true_and, and_true, and_self, V.v.injEq, Value.int.injEq, Value.bool.injEq, List.length_map, jo, ↓jp, ↓jt, ↓jy, ↓jI, ↓jN, ↓qaJ, ↓qaQ, ↓qaR, List.length_map, List.getElem_map, encI_0, Int.toNat_natCast]
  simp only [br, decide_eq_true_eq, decide_eq_false_iff_not, bne_iff_ne, bne_eq_false_iff_eq]
  refine fun hm => ⟨fun h1 => ⟨⟨by omega, by omega⟩, by omega, ⟨by omega, by omega⟩, by omega, fun h2 => ?_, fun h2 => ⟨?_, k + 1, ⟨⟨by omega, fun j q1 q2 q3 => ?_⟩, by omega⟩, by simp⟩⟩, fun h1 => ?_⟩
  · have : ¬ a = b := by
      intro he
      subst he
      exact h2 rfl
    simp [this]
  · simp only [lo, hi, maxLen] at *; omega
  · by_cases q4 : j = k
    · subst q4; exact h2
    · exact hv j q1 q2 (by omega)
  · have : a = b := by
      apply List.ext_getElem
      · omega
      · intro j q1 q2
        exact hv j q1 q2 (by omega)
    simp [this]
theorem ok14 (a b : List Bool) : Ok 14 [lb a, lb b] (Is (.b (decide (a = b)))) := by
  refine ok_of lw14 (by simp) ?_
  unfold c14
  simp -implicitDefEqProofs only [qE, qF, qI, qJ, qK, qL, qN, qO, qP, qR, qZ, zb, zJ, zL, zM, zP, ofConst, List.length_nil, ↓reduceIte, Nat.reduceEqDiff, zR, zT, List.nil_append, List.append_nil, Nat.zero_add, reduceCtorEq, zY, resP, tupV, List.reverse_cons, List.reverse_nil, wfV, true_and, V.v.injEq, Value.int.injEq, Value.bool.injEq, List.length_map, jo, ↓jN, ↓qaQ, List.length_map, cx0_fx, args0, lb]
  simp only [br, decide_eq_true_eq, decide_eq_false_iff_not, bne_iff_ne, bne_eq_false_iff_eq]
  refine fun ha hb => ⟨fun h => ?_, fun h => ?_⟩
  · have : ¬ a = b := fun h2 => h (by rw [h2])
    simp [this]
  refine loopP_intro (fun k : Nat => ⟨[(5, .i k), (0, .bro 1 (a.map encB)), (1, .bro 1 (b.map encB))], [], 0⟩) (fun k => k ≤ a.length ∧ ∀ j (h1 : j < a.length) (h2 : j < b.length), j < k → a[j] = b[j]) (fun k => a.length - k) 0 (by simp) ?_ ?_
  · simp -implicitDefEqProofs only [zP, ↓reduceIte, Nat.reduceEqDiff, reduceCtorEq, zZ, leE, leH, keepP, wfE, wfB, wfV, Bool.and_self, and_self, Int.natCast_zero]
  rintro k ⟨hk, hv⟩
  simp -implicitDefEqProofs only [qE, qF, qH, qI, qJ, qK, qM, qN, qO, qP, qR, qV, qY, qZ, zb, zl, zJ, zL, zM, zP, ofConst, List.length_nil, ↓reduceIte, Nat.reduceEqDiff, zR, zS, zT, List.nil_append, List.append_nil, reduceCtorEq, zY, resP, tupV, List.reverse_cons, List.reverse_nil, zZ, leE, leH, keepP, wfE, wfB, wfV, Bool.and_true, Bool.and_self, true_and, and_true, and_self, V.v.injEq, Value.int.injEq, Value.bool.injEq, List.length_map, jo, ↓jp, ↓jt, ↓jy, ↓jI, ↓jN, ↓qaJ, ↓qaR, List.length_map, List.getElem_map, encB_0, Int.toNat_natCast]
  simp only [br, decide_eq_true_eq, decide_eq_false_iff_not, bne_iff_ne, bne_eq_false_iff_eq]
  refine fun hm => ⟨fun h1 => ⟨⟨by omega, by omega⟩, by omega, ⟨by omega, by omega⟩, by omega, fun h2 => ?_, fun h2 => ⟨?_, k + 1, ⟨⟨by omega, fun j q1 q2 q3 => ?_⟩, by omega⟩, by simp⟩⟩, fun h1 => ?_⟩
  · have : ¬ a = b := by
      intro he
      subst he
      exact h2 rfl
    simp [this]
  · simp only [lo, hi, maxLen] at *; omega
  · by_cases q4 : j = k
    · subst q4; exact h2
    · exact hv j q1 q2 (by omega)
  · have : a = b := by
      apply List.ext_getElem
      · omega
      · intro j q1 q2
        exact hv j q1 q2 (by omega)
    simp [this]
end Go.Fx.F
namespace Go.Fx.F
open Go Go.Fx Go.Proofs

def endsB (n f t : Int) : Bool := decide ((0 ≤ f ∧ f < n) ∧ (0 ≤ t ∧ t < n) ∧ f ≠ t)
theorem ok35 (n : Int) (arcs : List Arc) (f t : Int) : Ok 35 [net n arcs, .i f, .i t] (Is (.b (endsB n f t))) := by
  refine ok_of lw35 (by simp) ?_
  unfold c35 net
  simp -implicitDefEqProofs only [qF, qI, qN, qO, qP, qQ, qR, qS, qT, qV, qX, qZ, zg, zJ, zL, zM, zP, ofConst, cells?, List.length_nil, List.length_cons, List.set_cons_zero, zQ, List.getD_eq_getElem?_getD, List.getElem?_cons_zero, ↓reduceIte, Nat.reduceEqDiff, Option.getD_some, zR, zT, Bool.not_true, ↓zU, ↓zV, zW, List.nil_append, List.append_nil, Nat.zero_add, Nat.reduceAdd, Nat.add_zero, reduceCtorEq, freshP, zY, resP, tupV, List.reverse_cons, List.reverse_nil, wfV, true_and, V.v.injEq, Value.int.injEq, Value.bool.injEq, Bool.false_eq_true, kf, jo, ↓jp, ↓jr, ↓ju, ↓jy, ↓jE, ↓qaQ, ↓qaR, ↓qaU, args0, cx0]
  simp only [br, decide_eq_true_eq, decide_eq_false_iff_not, endsB]
  grind
theorem ok37 (n : Int) (arcs : List Arc) (f t : Int) : Ok 37 [net n arcs, .i f, .i t] (Is (.b (endsB n f t))) := by
  refine ok_of lw37 (by simp) ?_
  unfold c37 net
  simp -implicitDefEqProofs only [qF, qI, qN, qO, qP, qQ, qR, qS, qT, qV, qX, qZ, zJ, zL, zM, zP, ofConst, cells?, List.length_nil, List.length_cons, List.set_cons_zero, zQ, List.getD_eq_getElem?_getD, List.getElem?_cons_zero, ↓reduceIte, Nat.reduceEqDiff, Option.getD_some, zR, zT, Bool.not_true, ↓zU, ↓zV, zW, List.nil_append, List.append_nil, Nat.zero_add, Nat.reduceAdd, Nat.add_zero, reduceCtorEq, freshP, zY, resP, tupV, List.reverse_cons, List.reverse_nil, wfV, true_and, V.v.injEq, Value.int.injEq, Value.bool.injEq, kf, jo, ↓jp, ↓jr, ↓ju, ↓jy, ↓jE, ↓qaQ, ↓qaR, ↓qaU, args0, cx0]
  simp only [br, decide_eq_true_eq, decide_eq_false_iff_not, endsB]
  grind
end Go.Fx.F
namespace Go.Fx.F
open Go Go.Fx Go.Proofs
set_option maxRecDepth 20000

def valTo (arcs : List Arc) (node : Int) (flow : List Int) : Nat → Int
  | 0 => 0
  | k + 1 => valTo arcs node flow k + (if (arcs.getD k ⟨0,0,0,0⟩).from_ = node then flow.getD k 0 else 0) - (if (arcs.getD k ⟨0,0,0,0⟩).to = node then flow.getD k 0 else 0)
theorem valTo_bound (arcs : List Arc) (node : Int) (flow : List Int) (hf : ∀ x ∈ flow, 0 ≤ x ∧ x ≤ 1073741824) : ∀ k : Nat, -((k : Int) * 1073741824) ≤ valTo arcs node flow k ∧ valTo arcs node flow k ≤ (k : Int) * 1073741824
  | 0 => by simp [valTo]
  | k + 1 => by
    have h1 := valTo_bound arcs node flow hf k
    have h2 : 0 ≤ flow.getD k 0 ∧ flow.getD k 0 ≤ 1073741824 := by
      rw [List.getD_eq_getElem?_getD]
      cases h : flow[k]? with
      | none => simp
      | some x => exact hf x (List.mem_of_getElem? h)
    simp only [valTo]
    split <;> split <;> omega
theorem valTo_step {arcs : List Arc} {node : Int} {flow : List Int} {k : Nat} (h1 : k < arcs.length) (h2 : k < flow.length) : valTo arcs node flow (k + 1) = valTo arcs node flow k + (if arcs[k].from_ = node then flow[k] else 0) - (if arcs[k].to = node then flow[k] else 0) := by
  simp only [valTo, List.getD_eq_getElem?_getD, List.getElem?_eq_getElem h1, List.getElem?_eq_getElem h2, Option.getD_some]

theorem ok30 (n node : Int) (arcs : List Arc) (flow : List Int) (hl : flow.length = arcs.length) (hb : arcs.length ≤ 4096) (hf : ∀ x ∈ flow, 0 ≤ x ∧ x ≤ 1073741824) : Ok 30 [net n arcs, .i node, li flow] (Is (.i (valTo arcs node flow arcs.length))) := by
  refine ok_of lw30 (by simp) ?_
  unfold c30 net li
  simp -implicitDefEqProofs only [qF, qI, qK, qL, qO, qP, qR, qT, zJ, zL, zM, zP, ofConst, cells?, List.length_nil, List.length_cons, List.set_cons_zero, List.getElem?_cons_zero, ↓reduceIte, List.nil_append, List.append_nil, Nat.zero_add, Nat.reduceAdd, Nat.add_zero, freshP, true_and, kf, jo, ↓jp, args0, cx0]
  refine loopP_intro (fun k : Nat => ⟨[(8, .i k), (7, .i (valTo arcs node flow k)), (3, .ptr 0 0 0), (1, .i node), (2, .bro 1 (flow.map encI))], [.var [.i n, .bro 4 (arcs.map Arc.enc)]], 0⟩) (fun k => k ≤ arcs.length) (fun k => arcs.length - k) 0 (by simp) ?_ ?_
  · simp -implicitDefEqProofs only [zP, List.getElem?_cons_zero, ↓reduceIte, Nat.reduceEqDiff, reduceCtorEq, zZ, leE, leH, leB, leV, leVs, keepP, liveP, wfE, wfB, wfV, wfL, Bool.and_self, and_self, leVs, leV, valTo, Int.natCast_zero]
  intro k hk
  simp -implicitDefEqProofs only [qE, qF, qI, qJ, qK, qM, qN, qO, qP, qR, qV, qX, qY, qZ, zb, zJ, zL, zM, zP, ofConst, List.length_nil, List.length_cons, zQ, List.getD_eq_getElem?_getD, List.getElem?_cons_zero, ↓reduceIte, Nat.reduceEqDiff, Option.getD_some, zR, zT, List.nil_append, List.append_nil, Nat.zero_add, Nat.add_zero, zY, resP, tupV, List.reverse_cons, List.reverse_nil, zZ, leE, leH, leB, leV, leVs, keepP, liveP, wfE, wfB, wfV, wfL, Bool.and_true, Bool.and_self, true_and, and_true, and_self, V.v.injEq, Value.int.injEq, Value.bool.injEq, List.length_map, lg0, jo, ↓jp, ↓jr, ↓jt, ↓ju, ↓jy, ↓jE, ↓jF, ↓jI, ↓jN, ↓qaJ, ↓qaL, ↓qaP, ↓qaR, List.length_map, List.getElem_map, enc_0, enc_1, encI_0, Int.toNat_natCast]
  simp only [br, decide_eq_true_eq, decide_eq_false_iff_not]
  refine fun hm => ⟨fun h => ⟨⟨by omega, h⟩, by omega, ?_⟩, fun h => ?_⟩
  · have hk1 : k < arcs.length := by omega
    have hk2 : k < flow.length := by omega
    have hfk := hf flow[k] (List.getElem_mem hk2)
    have hvb := valTo_bound arcs node flow hf k
    have hst := valTo_step (node := node) hk1 hk2
    simp only [lo, hi, beq_iff_eq, beq_eq_false_iff_ne]
    repeat' (first | (refine ⟨(k+1 : _), ?_⟩) | (refine ⟨by omega, ?_⟩) | (refine And.intro ?_ ?_) | (refine (fun _ => ?_)))
    all_goals first | omega | grind
  · have : k = arcs.length := by omega
    rw [this]
end Go.Fx.F
namespace Go.Fx.F
open Go Go.Fx Go.Proofs
set_option maxRecDepth 20000

def rowF (N : Nat) (f : Int → Int) : List (List V) := (List.range N).map fun j : Nat => encI (f j)
theorem rowF_len {N : Nat} {f : Int → Int} : (rowF N f).length = N := by simp [rowF]
theorem rowF_get {N : Nat} {f : Int → Int} {i : Nat} (h : i < (rowF N f).length) : (rowF N f)[i] = encI (f i) := by simp [rowF]
theorem rowF_set {N : Nat} {f : Int → Int} {i : Nat} {x : Int} : (rowF N f).set i [.v (.int .i64 x)] = rowF N (fun j => if j = i then x else f j) := by
  apply List.ext_getElem
  · simp [rowF]
  · intro j h1 h2
    simp only [List.getElem_set, rowF_get]
    by_cases h : i = j
    · subst h; simp [encI]
    · have : ¬ (j : Int) = i := by omega
      simp [h, this]
theorem rowF_congr {N : Nat} {f g : Int → Int} (h : ∀ i : Nat, i < N → f i = g i) : rowF N f = rowF N g := by
  simp only [rowF, List.map_inj_left, List.mem_range]
  intro i hi
  rw [h i hi]
theorem ok39 (N : Nat) (arcs : List Arc) (flow : List Int) (hl : flow.length = arcs.length) (hb : arcs.length ≤ 4096) (hn : N ≤ 256) (hf : ∀ x ∈ flow, 0 ≤ x ∧ x ≤ 1073741824) (hv : ∀ a ∈ arcs, (0 ≤ a.from_ ∧ a.from_ < N) ∧ (0 ≤ a.to ∧ a.to < N) ∧ a.from_ ≠ a.to) :
    Ok 39 [net N arcs, li flow] (IsA (.sl 1 0 N) [.dead, .arr 1 (rowF N (fun j => valTo arcs j flow arcs.length))]) := by
  refine ok_of lw39 (by simp) ?_
  unfold c39 net li
  simp -implicitDefEqProofs only [qF, qI, qK, qL, qO, qP, qR, qT, qV, qX, zb, zq, zJ, zL, zM, zP, ofConst, cells?, List.length_nil, List.length_cons, List.set_cons_zero, zQ, List.getD_eq_getElem?_getD, List.getElem?_cons_zero, ↓reduceIte, Nat.reduceEqDiff, Option.getD_some, zR, List.nil_append, List.cons_append, List.append_nil, Nat.zero_add, Nat.reduceAdd, Nat.add_zero, freshP, List.map_cons, List.map_nil, true_and, List.length_map, lg0, ka, kf, jo, ↓jp, ↓jr, ↓ju, ↓jy, ↓jE, ↓jN, List.length_map, Int.toNat_natCast, args0, cx0]
  refine ⟨by omega, fun hm => ?_⟩
  refine loopP_intro (fun k : Nat => ⟨[(14, .i k), (13, .i arcs.length), (12, .bro 4 (arcs.map Arc.enc)), (5, .sl 1 0 N), (1, .bro 1 (flow.map encI))], [.dead, .arr 1 (rowF N (fun j => valTo arcs j flow k))], 0⟩) (fun k => k ≤ arcs.length) (fun k => arcs.length - k) 0 (by simp) ?_ ?_
  · have h0 : rowF N (fun j => valTo arcs j flow 0) = List.replicate N [V.i 0] := by
      apply List.ext_getElem
      · simp [rowF]
      · intro i h1 h2
        simp [rowF, valTo, encI]
    simp -implicitDefEqProofs only [zP, List.getElem?_cons_zero, ↓reduceIte, Nat.reduceEqDiff, reduceCtorEq, zZ, leE, leH, leB, keepP, liveP, wfE, wfB, wfV, Bool.and_self, and_self, lg0, h0, Int.natCast_zero]
  intro k hk
  simp -implicitDefEqProofs only [qE, qF, qG, qI, qJ, qK, qM, qN, qO, qP, qR, qU, qV, qW, qX, qY, qZ, zJ, zK, zL, zM, zP, ofConst, cells?, List.length_nil, List.length_cons, List.set_cons_zero, splice, zQ, List.getD_eq_getElem?_getD, List.getElem?_cons_zero, ↓reduceIte, Nat.reduceEqDiff, Option.getD_some, zR, arrSz, zT, List.nil_append, List.cons_append, List.append_nil, Nat.zero_add, Nat.reduceAdd, Nat.add_zero, freshP, resP, tupV, List.reverse_cons, List.reverse_nil, zZ, leE, leH, leB, keepP, liveP, wfE, wfB, wfV, List.map_cons, List.map_nil, List.drop_zero, List.take_zero, List.drop_nil, List.all_cons, List.all_nil, isD, isC, Bool.and_true, Bool.and_self, true_and, and_true, and_self, V.v.injEq, Value.int.injEq, Value.bool.injEq, List.not_mem_nil, List.length_map, not_false_eq_true, Nat.reduceLeDiff, Nat.le_refl, lg0, ka, kc, kf, lg1, kg, kh, kn, kr, jo, ↓jp, ↓jr, ↓jt, ↓ju, ↓jv, ↓jy, ↓jz, ↓jA, ↓jB, ↓jC, ↓jE, ↓jG, ↓jI, ↓qaJ, ↓qaL, ↓qaR, List.length_map, List.getElem_map, enc_len, enc_take, enc_0, enc_1, enc_isC, encI_0, Int.toNat_natCast, encI_drop, rowF_len, rowF_get, rowF_set, retP_isA]
  simp only [br, decide_eq_true_eq, decide_eq_false_iff_not]
  refine ⟨fun h => ?_, fun h => ?_⟩
  · have hk1 : k < arcs.length := by omega
    have hk2 : k < flow.length := by omega
    have hvk := hv arcs[k] (List.getElem_mem hk1)
    have hfk := hf flow[k] (List.getElem_mem hk2)
    have hb1 := valTo_bound arcs arcs[k].from_ flow hf k
    have hb2 := valTo_bound arcs arcs[k].to flow hf k
    have e1 : ((arcs[k].from_.toNat : Nat) : Int) = arcs[k].from_ := by omega
    have e2 : ((arcs[k].to.toNat : Nat) : Int) = arcs[k].to := by omega
    have e3 : ¬ arcs[k].to = arcs[k].from_ := by omega
    simp only [e1, e2, e3, if_false, lo, hi, rowF_len]
    repeat' (first | (refine ⟨(k+1 : _), ?_⟩) | (refine ⟨by omega, ?_⟩) | (refine And.intro ?_ ?_) | (refine (fun _ => ?_)))
    all_goals try omega
    congr 1
    apply rowF_congr
    intro i hi
    simp only [valTo_step (node := i) hk1 hk2]
    grind
  · have : k = arcs.length := by omega
    rw [this]
/-- What a node gives. -/
theorem ok15 (N : Nat) (node : Int) (arcs : List Arc) (flow : List Int) (hl : flow.length = arcs.length) (hb : arcs.length ≤ 4096) (hn : N ≤ 256) (hf : ∀ x ∈ flow, 0 ≤ x ∧ x ≤ 1073741824) (hv : ∀ a ∈ arcs, (0 ≤ a.from_ ∧ a.from_ < N) ∧ (0 ≤ a.to ∧ a.to < N) ∧ a.from_ ≠ a.to)
    (h0 : 0 ≤ node ∧ node < N) : Ok 15 [net N arcs, .i node, li flow] (Is (.i (valTo arcs node flow arcs.length))) := by
  refine ok_of lw15 (by simp) ?_
  unfold c15 net li
  simp -implicitDefEqProofs only [qF, qI, qO, qP, qR, qT, qV, zD, zJ, zL, zM, zP, ofConst, cells?, List.length_nil, List.length_cons, List.set_cons_zero, zQ, List.getD_eq_getElem?_getD, List.getElem?_cons_zero, ↓reduceIte, Nat.reduceEqDiff, Option.getD_some, List.nil_append, List.append_nil, Nat.zero_add, Nat.reduceAdd, Nat.add_zero, reduceCtorEq, freshP, List.map_cons, List.map_nil, List.drop_zero, List.take_nil, true_and, Nat.le_refl, ke, kf, ki, jo, ↓jp, ↓jr, ↓ju, ↓jz, args0]
  refine call_isA [net N arcs, li flow] (.sl 1 0 N) (.sl 2 0 N) [.dead, .arr 1 (rowF N (fun j => valTo arcs j flow arcs.length))] [.dead, .arr 1 (rowF N (fun j => valTo arcs j flow arcs.length))] (ok39 N arcs flow hl hb hn hf hv) ?_ rfl rfl ?_
  · simp [net, li, lendsOk, lendOk, lends, lend, wkL, wk, wkB, pos]
  simp -implicitDefEqProofs only [qN, qO, qP, qR, qV, qY, zJ, zL, zP, zQ, List.getD_eq_getElem?_getD, List.getElem?_cons_zero, ↓reduceIte, Nat.reduceEqDiff, Option.getD_some, zR, arrSz, List.nil_append, List.cons_append, Nat.zero_add, reduceCtorEq, zY, resP, tupV, List.reverse_cons, List.reverse_nil, wfV, true_and, V.v.injEq, Value.int.injEq, Value.bool.injEq, lg0, lg1, ↓jp, ↓jr, ↓jv, ↓jy, ↓jG, encI_0, rowF_len, rowF_get]
  refine ⟨h0, by omega, ?_⟩
  rw [Int.toNat_of_nonneg h0.1]
end Go.Fx.F
namespace Go.Fx.F
open Go Go.Fx Go.Proofs
set_option maxRecDepth 20000

def possP (arcs : List Arc) (flow : List Int) : Prop := ∀ i (h1 : i < flow.length) (h2 : i < arcs.length), 0 ≤ flow[i] ∧ flow[i] ≤ arcs[i].cap
open Classical in
noncomputable def possB (arcs : List Arc) (flow : List Int) : Bool := decide (flow.length = arcs.length ∧ possP arcs flow)
theorem possB_t {arcs : List Arc} {flow : List Int} (h : flow.length = arcs.length ∧ possP arcs flow) : possB arcs flow = true := by simp [possB, h]
theorem possB_f {arcs : List Arc} {flow : List Int} (h : ¬ (flow.length = arcs.length ∧ possP arcs flow)) : possB arcs flow = false := by simp only [possB, h, decide_false]
theorem ok21 (n : Int) (arcs : List Arc) (flow : List Int) : Ok 21 [net n arcs, li flow] (Is (.b (possB arcs flow))) := by
  refine ok_of lw21 (by simp) ?_
  unfold c21 net li
  simp -implicitDefEqProofs only [qE, qF, qI, qJ, qK, qL, qN, qO, qP, qR, qT, qV, qX, qZ, zb, zJ, zL, zM, zP, ofConst, cells?, List.length_nil, List.length_cons, List.set_cons_zero, zQ, List.getD_eq_getElem?_getD, List.getElem?_cons_zero, ↓reduceIte, Nat.reduceEqDiff, Option.getD_some, zR, zT, List.nil_append, List.append_nil, Nat.zero_add, Nat.add_zero, reduceCtorEq, freshP, zY, resP, tupV, List.reverse_cons, List.reverse_nil, wfV, true_and, V.v.injEq, Value.int.injEq, Value.bool.injEq, List.length_map, lg0, kf, jo, ↓jp, ↓jr, ↓ju, ↓jy, ↓jE, ↓jN, ↓qaQ, List.length_map, args0, cx0]
  simp only [br, decide_eq_true_eq, decide_eq_false_iff_not, bne_iff_ne, bne_eq_false_iff_eq]
  refine fun hm1 hm2 => ⟨fun h => ?_, fun h => ?_⟩
  · rw [possB_f]; omega
  refine loopP_intro (fun k : Nat => ⟨[(5, .i k), (2, .ptr 0 0 0), (1, .bro 1 (flow.map encI))], [.var [.i n, .bro 4 (arcs.map Arc.enc)]], 0⟩) (fun k => k ≤ arcs.length ∧ ∀ j (h1 : j < flow.length) (h2 : j < arcs.length), j < k → 0 ≤ flow[j] ∧ flow[j] ≤ arcs[j].cap) (fun k => arcs.length - k) 0 (by simp) ?_ ?_
  · simp -implicitDefEqProofs only [zP, List.getElem?_cons_zero, ↓reduceIte, Nat.reduceEqDiff, reduceCtorEq, zZ, leE, leH, leB, leV, leVs, keepP, liveP, wfE, wfB, wfV, wfL, Bool.and_self, and_self, leVs, leV, Int.natCast_zero]
  rintro k ⟨hk, hv⟩
  simp -implicitDefEqProofs only [qE, qF, qH, qI, qJ, qK, qM, qN, qO, qP, qQ, qR, qS, qV, qX, qY, qZ, zb, zJ, zL, zM, zP, ofConst, List.length_nil, List.length_cons, zQ, List.getD_eq_getElem?_getD, List.getElem?_cons_zero, ↓reduceIte, Nat.reduceEqDiff, Option.getD_some, zR, zT, Bool.not_false, ↓zU, ↓zV, zW, List.nil_append, List.append_nil, Nat.zero_add, zY, resP, tupV, List.reverse_cons, List.reverse_nil, zZ, leE, leH, leB, leV, leVs, keepP, liveP, wfE, wfB, wfV, wfL, Bool.and_true, Bool.and_self, true_and, and_true, and_self, V.v.injEq, Value.int.injEq, Value.bool.injEq, List.length_map, Bool.false_eq_true, lg0, jo, ↓jp, ↓jr, ↓jt, ↓ju, ↓jy, ↓jE, ↓jF, ↓jI, ↓jN, ↓qaJ, ↓qaR, ↓qaT, List.length_map, List.getElem_map, enc_2, encI_0, Int.toNat_natCast]
  simp only [br, decide_eq_true_eq, decide_eq_false_iff_not]
  refine fun _ => ⟨fun h2 => ⟨⟨by omega, h2⟩, by omega, fun q => ?_, fun q1 => ⟨⟨by omega, h2⟩, by omega, ⟨by omega, by omega⟩, by omega, fun q => ?_, fun q2 => ⟨?_, k + 1, ⟨⟨by omega, ?_⟩, by omega⟩, by simp⟩⟩⟩, fun h2 => ?_⟩
  · rw [possB_f]
    intro hp
    have := hp.2 k (by omega) (by omega)
    omega
  · rw [possB_f]
    intro hp
    have := hp.2 k (by omega) (by omega)
    omega
  · simp only [lo, hi, maxLen] at *; omega
  · intro j h3 h4 h5
    by_cases h6 : j = k
    · subst h6; omega
    · exact hv j h3 h4 (by omega)
  · rw [possB_t]
    exact ⟨by omega, fun i h3 h4 => hv i h3 h4 (by omega)⟩
end Go.Fx.F
namespace Go.Fx.F
open Go Go.Fx Go.Proofs
set_option maxRecDepth 20000

def okFlow (n : Int) (arcs : List Arc) (f t : Int) (flow : List Int) : Prop := (∀ j : Int, 0 ≤ j → j < n → j ≠ f → j ≠ t → valTo arcs j flow arcs.length = 0) ∧ 0 ≤ valTo arcs f flow arcs.length
open Classical in
noncomputable def checkI (n : Int) (arcs : List Arc) (f t : Int) (flow : List Int) : Int := if ¬ (endsB n f t = true ∧ flow.length = arcs.length) then 1 else if ¬ possP arcs flow then 101 else if okFlow n arcs f t flow then 0 else 100
/-- A valid network. -/
structure Val (N : Nat) (arcs : List Arc) : Prop where
  hn : 1 ≤ N ∧ N ≤ 256
  hl : arcs.length ≤ 2048
  ha : ∀ a ∈ arcs, ((0 ≤ a.from_ ∧ a.from_ < N) ∧ (0 ≤ a.to ∧ a.to < N) ∧ a.from_ ≠ a.to) ∧ 0 ≤ a.cap ∧ a.cap ≤ 1073741824
theorem Val.flow {N : Nat} {arcs : List Arc} (h : Val N arcs) {flow : List Int} (hl : flow.length = arcs.length) (hp : possP arcs flow) : ∀ x ∈ flow, 0 ≤ x ∧ x ≤ 1073741824 := by
  intro x hx
  obtain ⟨i, hi, rfl⟩ := List.getElem_of_mem hx
  have h1 := hp i hi (by omega)
  have h2 := (h.ha arcs[i] (List.getElem_mem _)).2
  omega
structure FlInv (arcs : List Arc) (f t : Int) (flow : List Int) (k : Nat) : Prop where
  h : ∀ j : Nat, j < k → ((j : Int) ≠ f → (j : Int) ≠ t → valTo arcs j flow arcs.length = 0) ∧ ((j : Int) = f → 0 ≤ valTo arcs j flow arcs.length)
theorem ok17 (N : Nat) (arcs : List Arc) (f t : Int) (flow : List Int) (hV : Val N arcs) : Ok 17 [net N arcs, .i f, .i t, li flow] (Is (.i (checkI N arcs f t flow))) := by
  refine ok_of lw17 (by simp) ?_
  unfold c17
  simp -implicitDefEqProofs only [qF, qI, qO, qP, qR, qT, qV, zD, zJ, zL, zM, zP, ofConst, cells?, List.length_nil, List.length_cons, List.set_cons_zero, zQ, List.getD_eq_getElem?_getD, List.getElem?_cons_zero, ↓reduceIte, Nat.reduceEqDiff, Option.getD_some, List.nil_append, List.append_nil, Nat.zero_add, Nat.reduceAdd, Nat.add_zero, reduceCtorEq, freshP, List.map_cons, List.map_nil, List.drop_zero, List.take_nil, true_and, Nat.le_refl, ke, kf, ki, jo, ↓jp, ↓jr, ↓ju, ↓jz, args0, net, li]
  refine call_is (ok35 N arcs f t) ?_ rfl ?_
  · simp [net, li, lendsOk, lendOk, lends, lend, wkL, wk, wkB, pos]
  simp -implicitDefEqProofs only [qE, qF, qI, qJ, qK, qL, qN, qO, qP, qQ, qR, qS, qV, qX, qZ, zb, zd, zJ, zL, zM, zP, ofConst, List.length_nil, List.length_cons, zQ, List.getD_eq_getElem?_getD, List.getElem?_cons_zero, ↓reduceIte, Nat.reduceEqDiff, Option.getD_some, zR, zS, zT, Bool.not_false, ↓zU, ↓zV, zW, List.nil_append, List.append_nil, Nat.zero_add, reduceCtorEq, zY, resP, tupV, List.reverse_cons, List.reverse_nil, wfV, true_and, V.v.injEq, Value.int.injEq, Value.bool.injEq, List.length_map, Bool.false_eq_true, lg0, jo, ↓jp, ↓jr, ↓ju, ↓jy, ↓jE, ↓jN, ↓qaQ, List.length_map, cx0_fx]
  simp only [br, decide_eq_true_eq, decide_eq_false_iff_not, bne_iff_ne, bne_eq_false_iff_eq]
  refine ⟨fun h => ?_, fun he hm1 hm2 => ⟨fun h => ?_, fun hl _ => ?_⟩⟩
  · rw [checkI, if_pos]
    simp at h; simp [h]
  · rw [checkI, if_pos]
    intro h2; omega
  simp at he
  have hl' : flow.length = arcs.length := by omega
  refine loopP_intro (fun k : Nat => ⟨[(28, .i k), (27, .i flow.length), (26, .bro 1 (flow.map encI)), (4, .ptr 0 0 0), (3, .bro 1 (flow.map encI)), (2, .i t), (1, .i f)], [.var [.i N, .bro 4 (arcs.map Arc.enc)]], 0⟩) (fun k => k ≤ arcs.length ∧ ∀ j (h1 : j < flow.length) (h2 : j < arcs.length), j < k → 0 ≤ flow[j] ∧ flow[j] ≤ arcs[j].cap) (fun k => arcs.length - k) 0 (by simp) ?_ ?_
  · simp -implicitDefEqProofs only [zP, List.getElem?_cons_zero, ↓reduceIte, Nat.reduceEqDiff, reduceCtorEq, zZ, leE, leH, leB, leV, leVs, keepP, liveP, wfE, wfB, wfV, wfL, Bool.and_self, and_self, leVs, leV, Int.natCast_zero]
  rintro k ⟨hk, hv⟩
  simp -implicitDefEqProofs only [qE, qF, qI, qJ, qK, qM, qN, qO, qP, qQ, qR, qS, qV, qX, qY, qZ, zD, zJ, zL, zM, zP, ofConst, List.length_nil, List.length_cons, zQ, List.getD_eq_getElem?_getD, List.getElem?_cons_zero, ↓reduceIte, Nat.reduceEqDiff, Option.getD_some, zR, zT, Bool.not_false, ↓zU, ↓zV, zW, List.nil_append, List.append_nil, Nat.zero_add, Nat.reduceAdd, zY, resP, tupV, List.reverse_cons, List.reverse_nil, zZ, leE, leH, leB, leV, leVs, keepP, liveP, wfE, wfB, wfV, wfL, List.map_cons, List.map_nil, List.drop_zero, List.take_nil, Bool.and_true, Bool.and_self, true_and, and_true, and_self, V.v.injEq, Value.int.injEq, Value.bool.injEq, List.length_map, Bool.false_eq_true, Nat.le_refl, lg0, ke, ki, jo, ↓jp, ↓jr, ↓jt, ↓ju, ↓jy, ↓jz, ↓jE, ↓jF, ↓jI, ↓qaJ, ↓qaR, ↓qaT, List.length_map, List.getElem_map, enc_2, encI_0, Int.toNat_natCast]
  simp only [br, decide_eq_true_eq, decide_eq_false_iff_not]
  refine ⟨fun h2 => ⟨⟨by omega, h2⟩, by omega, fun q => ?_, fun q1 => ⟨⟨by omega, by omega⟩, by omega, fun q => ?_, fun q2 => ⟨?_, k + 1, ⟨⟨by omega, ?_⟩, by omega⟩, by simp⟩⟩⟩, fun h2 => ?_⟩
  · rw [checkI, if_neg (by simp [he, hl']), if_pos]
    intro hp
    have := hp k (by omega) (by omega)
    omega
  · rw [checkI, if_neg (by simp [he, hl']), if_pos]
    intro hp
    have := hp k (by omega) (by omega)
    omega
  · simp only [lo, hi, maxLen] at *; omega
  · intro j h3 h4 h5
    by_cases h6 : j = k
    · subst h6; omega
    · exact hv j h3 h4 (by omega)
  have hp : possP arcs flow := fun i h3 h4 => hv i h3 h4 (by omega)
  have hf := hV.flow hl' hp
  have hN := hV.hn
  have hL := hV.hl
  refine call_isA [net N arcs, li flow] (.sl 1 0 N) (.sl 2 0 N) [.dead, .arr 1 (rowF N (fun j => valTo arcs j flow arcs.length))] [.dead, .arr 1 (rowF N (fun j => valTo arcs j flow arcs.length))] (ok39 N arcs flow hl' (by omega) (by omega) hf (fun a ha => (hV.ha a ha).1)) ?_ rfl rfl ?_
  · simp [net, li, lendsOk, lendOk, lends, lend, wkL, wk, wkB, pos]
  simp -implicitDefEqProofs only [qK, qL, qO, qP, qR, zb, zJ, zL, zM, zP, ofConst, ↓reduceIte, List.nil_append, List.cons_append, ↓jL, cx0_fx]
  intro _
  refine loopP_intro (fun k : Nat => ⟨[(50, .i k), (49, .i N), (48, .sl 2 0 N), (2, .i t), (1, .i f)], [.dead, .dead, .arr 1 (rowF N (fun j => valTo arcs j flow arcs.length))], 0⟩) (fun k => k ≤ N ∧ FlInv arcs f t flow k) (fun k => N - k) 0 ⟨by omega, ⟨by simp⟩⟩ ?_ ?_
  · simp -implicitDefEqProofs only [zP, List.getElem?_cons_zero, ↓reduceIte, Nat.reduceEqDiff, zZ, leE, leH, leB, keepP, liveP, wfE, wfB, wfV, Bool.and_self, and_self, lg0, lg1, Int.natCast_zero]
  rintro k ⟨hk, hv⟩
  simp -implicitDefEqProofs only [qE, qF, qI, qJ, qK, qM, qN, qO, qP, qQ, qR, qS, qV, qY, qZ, zJ, zL, zM, zP, ofConst, List.length_nil, List.length_cons, zQ, List.getD_eq_getElem?_getD, List.getElem?_cons_zero, ↓reduceIte, Nat.reduceEqDiff, Option.getD_some, zR, arrSz, zT, Bool.not_true, Bool.not_false, ↓zU, ↓zV, zW, zX, List.nil_append, List.append_nil, Nat.zero_add, Nat.reduceAdd, zY, resP, tupV, List.reverse_cons, List.reverse_nil, zZ, leE, leH, leB, keepP, liveP, wfE, wfB, wfV, Bool.and_true, Bool.and_self, true_and, and_true, and_self, V.v.injEq, Value.int.injEq, Value.bool.injEq, Bool.false_eq_true, lg0, lg1, jo, ↓jp, ↓jr, ↓jv, ↓jy, ↓jG, ↓qaJ, ↓qaP, ↓qaQ, ↓qaR, encI_0, Int.toNat_natCast, rowF_len, rowF_get]
  simp only [br, decide_eq_true_eq, decide_eq_false_iff_not, bne_iff_ne, bne_eq_false_iff_eq, beq_iff_eq, beq_eq_false_iff_ne]
  have bad : ¬ okFlow N arcs f t flow → 100 = checkI N arcs f t flow := by
    intro h
    rw [checkI, if_neg (by simp [he, hl']), if_neg (by simpa using hp), if_neg h]
  have good : okFlow N arcs f t flow → 0 = checkI N arcs f t flow := by
    intro h
    rw [checkI, if_neg (by simp [he, hl']), if_neg (by simpa using hp), if_pos h]
  have hef : (k : Int) = f → valTo arcs k flow arcs.length = valTo arcs f flow arcs.length := by rintro rfl; rfl
  have hnx : (k < N) → ((k : Int) ≠ f → (k : Int) ≠ t → valTo arcs k flow arcs.length = 0) ∧ ((k : Int) = f → 0 ≤ valTo arcs k flow arcs.length) →
      FlInv arcs f t flow (k + 1) := by
    intro h3 h4
    refine ⟨fun j hj => ?_⟩
    by_cases h6 : j = k
    · subst h6; exact h4
    · exact hv.h j (by omega)
  have bad1 : (0 ≤ (k : Int) ∧ (k : Int) < N) → (k : Int) ≠ f → (k : Int) ≠ t → valTo arcs k flow arcs.length ≠ 0 → 100 = checkI N arcs f t flow := fun h1 h2 h3 h4 => bad fun ho => h4 (ho.1 k h1.1 h1.2 h2 h3)
  have bad2 : (k : Int) = f → valTo arcs k flow arcs.length < 0 → 100 = checkI N arcs f t flow := fun h1 h2 => bad fun ho => by
    have := ho.2
    rw [hef h1] at h2
    omega
  refine ⟨fun h3 => ?_, fun h3 => ?_⟩
  · have h4 : k < N := by omega
    have hnx := hnx h4
    simp only [lo, hi, maxLen] at *
    refine ⟨⟨by omega, by omega⟩, by simpa [rowF_len] using h4, ?_⟩
    repeat' (first | (refine ⟨(k+1 : _), ?_⟩) | (refine ⟨by omega, ?_⟩) | (refine And.intro ?_ ?_) | (refine (fun _ => ?_)))
    all_goals first | omega | exact bad1 ⟨by omega, h3⟩ ‹_› ‹_› ‹_› | exact bad2 ‹_› ‹_› | (exact hnx ⟨fun _ _ => by first | assumption | omega, fun _ => by omega⟩)
  · apply good
    have hend : (0 ≤ f ∧ f < N) := by simp [endsB] at he; omega
    have hk2 : k = N := by omega
    refine ⟨fun j h1 h2 h4 h5 => ?_, ?_⟩
    · have := (hv.h j.toNat (by omega)).1
      rw [Int.toNat_of_nonneg h1] at this
      exact this h4 h5
    · have := (hv.h f.toNat (by omega)).2
      rw [Int.toNat_of_nonneg hend.1] at this
      exact this rfl
end Go.Fx.F
namespace Go.Fx.F
open Go Go.Fx Go.Proofs
set_option maxRecDepth 20000

structure FlInw (arcs : List Arc) (f t : Int) (flow : List Int) (k : Nat) : Prop where
  h : ∀ j : Nat, j < k → ((j : Int) ≠ f → (j : Int) ≠ t → valTo arcs j flow arcs.length = 0)
theorem ok27 (N : Nat) (arcs : List Arc) (f t : Int) (flow : List Int) (hV : Val N arcs) : Ok 27 [net N arcs, .i f, .i t, li flow] (Is (.i (checkI N arcs f t flow))) := by
  refine ok_of lw27 (by simp) ?_
  unfold c27
  simp -implicitDefEqProofs only [qF, qI, qO, qP, qR, qT, qV, zD, zJ, zL, zM, zP, ofConst, cells?, List.length_nil, List.length_cons, List.set_cons_zero, zQ, List.getD_eq_getElem?_getD, List.getElem?_cons_zero, ↓reduceIte, Nat.reduceEqDiff, Option.getD_some, List.nil_append, List.append_nil, Nat.zero_add, Nat.reduceAdd, Nat.add_zero, reduceCtorEq, freshP, List.map_cons, List.map_nil, List.drop_zero, List.take_nil, true_and, Nat.le_refl, ke, kf, ki, jo, ↓jp, ↓jr, ↓ju, ↓jz, args0, net, li]
  refine call_is (ok37 N arcs f t) ?_ rfl ?_
  · simp [net, li, lendsOk, lendOk, lends, lend, wkL, wk, wkB, pos]
  simp -implicitDefEqProofs only [qE, qF, qI, qJ, qN, qO, qP, qQ, qR, qS, qV, qX, qZ, zb, zd, zD, zJ, zL, zM, zP, ofConst, List.length_nil, List.length_cons, zQ, List.getD_eq_getElem?_getD, List.getElem?_cons_zero, ↓reduceIte, Nat.reduceEqDiff, Option.getD_some, zR, zS, zT, Bool.not_false, ↓zU, ↓zV, zW, List.nil_append, List.append_nil, Nat.zero_add, Nat.reduceAdd, reduceCtorEq, zY, resP, tupV, List.reverse_cons, List.reverse_nil, wfV, List.map_cons, List.map_nil, List.drop_zero, List.take_nil, true_and, V.v.injEq, Value.int.injEq, Value.bool.injEq, List.length_map, Bool.false_eq_true, Nat.le_refl, lg0, ke, ki, jo, ↓jp, ↓jr, ↓ju, ↓jy, ↓jz, ↓jE, ↓jN, ↓qaQ, List.length_map]
  simp only [br, decide_eq_true_eq, decide_eq_false_iff_not, bne_iff_ne, bne_eq_false_iff_eq]
  refine ⟨fun h => ?_, fun he hm1 hm2 => ⟨fun h => ?_, fun hl => ?_⟩⟩
  · rw [checkI, if_pos]
    simp at h; simp [h]
  · rw [checkI, if_pos]
    intro h2; omega
  simp at he
  have hl' : flow.length = arcs.length := by omega
  refine call_is (ok21 N arcs flow) ?_ rfl ?_
  · simp [net, li, lendsOk, lendOk, lends, lend, wkL, wk, wkB, pos]
  simp -implicitDefEqProofs only [qE, qF, qI, qJ, qK, qL, qN, qO, qP, qR, zd, zJ, zL, zM, zP, ofConst, List.length_nil, List.length_cons, ↓reduceIte, zS, zT, List.nil_append, List.append_nil, Nat.zero_add, zY, resP, tupV, List.reverse_cons, List.reverse_nil, wfV, true_and, V.v.injEq, Value.int.injEq, Value.bool.injEq, jo, cx0_fx]
  simp only [br, Bool.not_eq_true', Bool.not_eq_false']
  refine ⟨fun h => ?_, fun h => ?_⟩
  · rw [checkI, if_neg (by simp [he, hl']), if_pos]
    intro hp
    rw [possB_t ⟨hl', hp⟩] at h
    simp at h
  have hp : possP arcs flow := by
    apply Classical.byContradiction
    intro hp
    rw [possB_f (fun h => hp h.2)] at h
    simp at h
  have hf := hV.flow hl' hp
  have hN := hV.hn
  have hL := hV.hl
  have bad : ¬ okFlow N arcs f t flow → 100 = checkI N arcs f t flow := by
    intro h
    rw [checkI, if_neg (by simp [he, hl']), if_neg (by simpa using hp), if_neg h]
  have good : okFlow N arcs f t flow → 0 = checkI N arcs f t flow := by
    intro h
    rw [checkI, if_neg (by simp [he, hl']), if_neg (by simpa using hp), if_pos h]
  refine loopP_intro (fun k : Nat => ⟨[(10, .i k), (4, .ptr 0 0 0), (3, .bro 1 (flow.map encI)), (2, .i t), (1, .i f)], [.var [.i N, .bro 4 (arcs.map Arc.enc)]], 0⟩) (fun k => k ≤ N ∧ FlInw arcs f t flow k) (fun k => N - k) 0 ⟨by omega, ⟨by simp⟩⟩ ?_ ?_
  · simp -implicitDefEqProofs only [zP, List.getElem?_cons_zero, ↓reduceIte, Nat.reduceEqDiff, reduceCtorEq, zZ, leE, leH, leB, leV, leVs, keepP, liveP, wfE, wfB, wfV, wfL, Bool.and_self, and_self, leVs, leV, Int.natCast_zero]
  rintro k ⟨hk, hv⟩
  simp -implicitDefEqProofs only [qE, qF, qI, qJ, qK, qM, qO, qP, qQ, qR, qS, qV, qX, qZ, zD, zJ, zL, zM, zP, ofConst, List.length_nil, List.length_cons, zQ, List.getD_eq_getElem?_getD, List.getElem?_cons_zero, ↓reduceIte, Nat.reduceEqDiff, Option.getD_some, zR, zT, Bool.not_true, ↓zU, ↓zV, zW, List.append_nil, Nat.zero_add, Nat.reduceAdd, Nat.add_zero, zZ, leE, leH, leB, leV, leVs, keepP, liveP, wfE, wfB, wfV, wfL, List.map_cons, List.map_nil, List.drop_zero, List.take_nil, Bool.and_true, Bool.and_self, true_and, and_true, and_self, V.v.injEq, Value.int.injEq, Value.bool.injEq, Nat.le_refl, ke, ki, jo, ↓jp, ↓jr, ↓ju, ↓jy, ↓jz, ↓jE, ↓qaJ, ↓qaQ, ↓qaR]
  simp only [br, decide_eq_true_eq, decide_eq_false_iff_not, bne_iff_ne, bne_eq_false_iff_eq]
  have hnx : (k < N) → ((k : Int) ≠ f → (k : Int) ≠ t → valTo arcs k flow arcs.length = 0) → FlInw arcs f t flow (k + 1) := by
    intro h3 h4
    refine ⟨fun j hj => ?_⟩
    by_cases h6 : j = k
    · subst h6; exact h4
    · exact hv.h j (by omega)
  refine ⟨fun h3 => ?_, fun h3 => ?_⟩
  · have h4 : k < N := by omega
    have hnx := hnx h4
    refine ⟨fun h1 => ⟨fun h2 => ?_, fun h2 => ?_⟩, fun h1 => ?_⟩
    · refine call_is (ok30 N k arcs flow hl' (by omega) hf) ?_ rfl ?_
      · simp [net, li, lendsOk, lendOk, lends, lend, wkL, wk, wkB, pos]
      simp -implicitDefEqProofs only [qE, qF, qI, qJ, qN, qO, qP, qQ, qR, qS, qZ, zJ, zL, zM, zP, ofConst, List.length_nil, List.length_cons, List.getElem?_cons_zero, ↓reduceIte, Nat.reduceEqDiff, zR, zT, ↓zU, zW, List.nil_append, List.append_nil, Nat.zero_add, zY, resP, tupV, List.reverse_cons, List.reverse_nil, zZ, leE, leH, leB, leV, leVs, keepP, liveP, wfE, wfB, wfV, wfL, Bool.and_true, Bool.and_self, true_and, and_true, and_self, V.v.injEq, Value.int.injEq, Value.bool.injEq, jo, ↓qaJ, ↓qaQ]
      simp only [br, decide_eq_true_eq, decide_eq_false_iff_not, bne_iff_ne, bne_eq_false_iff_eq, lo, hi]
      refine ⟨fun h5 => bad fun ho => h5 (ho.1 k (by omega) h3 h1 h2), fun h5 => ?_⟩
      repeat' (first | (refine ⟨(k+1 : _), ?_⟩) | (refine ⟨by omega, ?_⟩) | (refine And.intro ?_ ?_) | (refine (fun _ => ?_)))
      all_goals first | omega | exact hnx fun _ _ => h5
    · simp only [lo, hi]
      repeat' (first | (refine ⟨(k+1 : _), ?_⟩) | (refine ⟨by omega, ?_⟩) | (refine And.intro ?_ ?_) | (refine (fun _ => ?_)))
      all_goals first | omega | exact hnx fun _ h => absurd h2 h
    · simp only [lo, hi]
      repeat' (first | (refine ⟨(k+1 : _), ?_⟩) | (refine ⟨by omega, ?_⟩) | (refine And.intro ?_ ?_) | (refine (fun _ => ?_)))
      all_goals first | omega | exact hnx fun h _ => absurd h1 h
  · have hk2 : k = N := by omega
    refine call_is (ok30 N f arcs flow hl' (by omega) hf) ?_ rfl ?_
    · simp [net, li, lendsOk, lendOk, lends, lend, wkL, wk, wkB, pos]
    simp -implicitDefEqProofs only [qE, qF, qI, qJ, qN, qO, qP, qR, qZ, zJ, zL, zM, zP, ofConst, List.length_nil, List.length_cons, ↓reduceIte, zR, zT, List.nil_append, List.append_nil, Nat.zero_add, zY, resP, tupV, List.reverse_cons, List.reverse_nil, wfV, true_and, V.v.injEq, Value.int.injEq, Value.bool.injEq, jo, ↓qaR]
    simp only [br, decide_eq_true_eq, decide_eq_false_iff_not, bne_iff_ne, bne_eq_false_iff_eq, lo, hi]
    refine ⟨fun h5 => bad fun ho => ?_, fun h5 => good ⟨fun j h1 h2 h4 h6 => ?_, by omega⟩⟩
    · have := ho.2
      omega
    · have := (hv.h j.toNat (by omega))
      rw [Int.toNat_of_nonneg h1] at this
      exact this h4 h6
end Go.Fx.F
namespace Go.Fx.F
open Go Go.Fx Go.Proofs
set_option maxRecDepth 20000

def cutTo (arcs : List Arc) (cut : List Bool) : Nat → Int
  | 0 => 0
  | k + 1 => cutTo arcs cut k + (if cut.getD (arcs.getD k ⟨0,0,0,0⟩).from_.toNat false = true ∧ cut.getD (arcs.getD k ⟨0,0,0,0⟩).to.toNat false = false then (arcs.getD k ⟨0,0,0,0⟩).cap else 0)
theorem cutTo_bound (arcs : List Arc) (cut : List Bool) (ha : ∀ a ∈ arcs, 0 ≤ a.cap ∧ a.cap ≤ 1073741824) : ∀ k : Nat, 0 ≤ cutTo arcs cut k ∧ cutTo arcs cut k ≤ (k : Int) * 1073741824
  | 0 => by simp [cutTo]
  | k + 1 => by
    have h1 := cutTo_bound arcs cut ha k
    have h2 : 0 ≤ (arcs.getD k ⟨0,0,0,0⟩).cap ∧ (arcs.getD k ⟨0,0,0,0⟩).cap ≤ 1073741824 := by
      rw [List.getD_eq_getElem?_getD]
      cases h : arcs[k]? with
      | none => simp
      | some x => exact ha x (List.mem_of_getElem? h)
    simp only [cutTo]
    split <;> omega
theorem cutTo_step {arcs : List Arc} {cut : List Bool} {k : Nat} (h1 : k < arcs.length) (h2 : arcs[k].from_.toNat < cut.length) (h3 : arcs[k].to.toNat < cut.length) : cutTo arcs cut (k + 1) = cutTo arcs cut k + (if cut[arcs[k].from_.toNat] = true ∧ cut[arcs[k].to.toNat] = false then arcs[k].cap else 0) := by
  simp only [cutTo, List.getD_eq_getElem?_getD, List.getElem?_eq_getElem h1, List.getElem?_eq_getElem h2, List.getElem?_eq_getElem h3, Option.getD_some]

theorem ok29 (N : Nat) (arcs : List Arc) (cut : List Bool) (hV : Val N arcs) (hc : cut.length = N) : Ok 29 [net N arcs, lb cut] (Is (.i (cutTo arcs cut arcs.length))) := by
  refine ok_of lw29 (by simp) ?_
  unfold c29
  simp -implicitDefEqProofs only [qF, qI, qK, qL, qO, qP, qR, qT, zJ, zL, zM, zP, ofConst, cells?, List.length_nil, List.length_cons, List.set_cons_zero, List.getElem?_cons_zero, ↓reduceIte, List.nil_append, List.append_nil, Nat.zero_add, Nat.add_zero, freshP, true_and, kf, jo, ↓jp, cx0_fx, args0, net, lb]
  refine loopP_intro (fun k : Nat => ⟨[(6, .i k), (5, .i (cutTo arcs cut k)), (2, .ptr 0 0 0), (1, .bro 1 (cut.map encB))], [.var [.i N, .bro 4 (arcs.map Arc.enc)]], 0⟩) (fun k => k ≤ arcs.length) (fun k => arcs.length - k) 0 (by simp) ?_ ?_
  · simp -implicitDefEqProofs only [zP, List.getElem?_cons_zero, ↓reduceIte, Nat.reduceEqDiff, reduceCtorEq, zZ, leE, leH, leB, leV, leVs, keepP, liveP, wfE, wfB, wfV, wfL, Bool.and_self, and_self, leVs, leV, cutTo, Int.natCast_zero]
  intro k hk
  simp -implicitDefEqProofs only [qE, qF, qI, qJ, qK, qM, qN, qO, qP, qQ, qR, qS, qV, qX, qY, qZ, zb, zd, zJ, zL, zM, zP, ofConst, List.length_nil, List.length_cons, zQ, List.getD_eq_getElem?_getD, List.getElem?_cons_zero, ↓reduceIte, Nat.reduceEqDiff, Option.getD_some, zR, zS, zT, Bool.not_true, ↓zU, ↓zV, zW, List.nil_append, List.append_nil, Nat.zero_add, Nat.add_zero, zY, resP, tupV, List.reverse_cons, List.reverse_nil, zZ, leE, leH, leB, leV, leVs, keepP, liveP, wfE, wfB, wfV, wfL, Bool.and_true, Bool.and_self, true_and, and_true, and_self, V.v.injEq, Value.int.injEq, Value.bool.injEq, List.length_map, lg0, jo, ↓jp, ↓jr, ↓jt, ↓ju, ↓jy, ↓jE, ↓jF, ↓jI, ↓jN, ↓qaJ, ↓qaR, List.length_map, List.getElem_map, enc_0, enc_1, enc_2, encB_0, Int.toNat_natCast]
  simp only [br, decide_eq_true_eq, decide_eq_false_iff_not]
  refine fun hm => ⟨fun h => ⟨⟨by omega, h⟩, by omega, ?_⟩, fun h => ?_⟩
  · have hk1 : k < arcs.length := by omega
    have ha := hV.ha arcs[k] (List.getElem_mem hk1)
    have hL := hV.hl
    have hst := cutTo_step (cut := cut) hk1 (by omega) (by omega)
    have hb := cutTo_bound arcs cut (fun a ha => (hV.ha a ha).2) k
    simp only [lo, hi, Bool.not_eq_true', Bool.not_eq_false']
    repeat' (first | (refine ⟨(k+1 : _), ?_⟩) | (refine ⟨by omega, ?_⟩) | (refine And.intro ?_ ?_) | (refine (fun _ => ?_)))
    all_goals first | omega | grind
  · have : k = arcs.length := by omega
    rw [this]
theorem ok18 (N : Nat) (arcs : List Arc) (cut : List Bool) (hV : Val N arcs) (hc : cut.length = N) : Ok 18 [net N arcs, lb cut] (Is (.i (cutTo arcs cut arcs.length))) := by
  refine ok_of lw18 (by simp) ?_
  unfold c18
  simp -implicitDefEqProofs only [qF, qI, qK, qL, qO, qP, qR, qT, qV, qX, zb, zJ, zL, zM, zP, ofConst, cells?, List.length_nil, List.length_cons, List.set_cons_zero, zQ, List.getD_eq_getElem?_getD, List.getElem?_cons_zero, ↓reduceIte, Nat.reduceEqDiff, Option.getD_some, List.nil_append, List.append_nil, Nat.zero_add, Nat.add_zero, freshP, true_and, List.length_map, lg0, kf, jo, ↓jp, ↓jr, ↓ju, ↓jy, ↓jE, ↓jN, List.length_map, cx0_fx, args0, net, lb]
  intro hm
  refine loopP_intro (fun k : Nat => ⟨[(11, .i k), (10, .i arcs.length), (9, .bro 4 (arcs.map Arc.enc)), (5, .i (cutTo arcs cut k)), (1, .bro 1 (cut.map encB))], [], 0⟩) (fun k => k ≤ arcs.length) (fun k => arcs.length - k) 0 (by simp) ?_ ?_
  · simp -implicitDefEqProofs only [zP, ↓reduceIte, Nat.reduceEqDiff, reduceCtorEq, zZ, leE, leH, keepP, wfE, wfB, wfV, Bool.and_self, and_self, cutTo, Int.natCast_zero]
  intro k hk
  simp -implicitDefEqProofs only [qE, qF, qI, qJ, qK, qM, qN, qO, qP, qQ, qR, qS, qU, qV, qW, qX, qY, qZ, zd, zJ, zK, zL, zM, zP, ofConst, cells?, List.length_nil, List.length_cons, List.set_cons_zero, splice, zQ, List.getD_eq_getElem?_getD, List.getElem?_cons_zero, ↓reduceIte, Nat.reduceEqDiff, Option.getD_some, zR, zS, zT, Bool.not_true, ↓zU, ↓zV, zW, List.nil_append, List.append_nil, Nat.zero_add, Nat.reduceAdd, Nat.add_zero, freshP, zY, resP, tupV, List.reverse_cons, List.reverse_nil, zZ, leE, leH, keepP, wfE, wfB, wfV, List.map_cons, List.map_nil, List.drop_zero, List.take_zero, List.drop_nil, Bool.and_true, Bool.and_self, true_and, and_true, and_self, V.v.injEq, Value.int.injEq, Value.bool.injEq, List.not_mem_nil, List.length_map, not_false_eq_true, Nat.le_refl, kc, kf, kh, kn, kr, jo, ↓jp, ↓jr, ↓jt, ↓ju, ↓jy, ↓jz, ↓jA, ↓jB, ↓jE, ↓jI, ↓qaJ, ↓qaR, List.length_map, List.getElem_map, enc_len, enc_take, enc_0, enc_1, enc_2, enc_isC, encB_0, Int.toNat_natCast, cx0_bn]
  simp only [br, decide_eq_true_eq, decide_eq_false_iff_not]
  refine ⟨fun h => ⟨⟨by omega, h⟩, by omega, ?_⟩, fun h => ?_⟩
  · have hk1 : k < arcs.length := by omega
    have ha := hV.ha arcs[k] (List.getElem_mem hk1)
    have hL := hV.hl
    have hst := cutTo_step (cut := cut) hk1 (by omega) (by omega)
    have hb := cutTo_bound arcs cut (fun a ha => (hV.ha a ha).2) k
    simp only [lo, hi, Bool.not_eq_true', Bool.not_eq_false']
    repeat' (first | (refine ⟨(k+1 : _), ?_⟩) | (refine ⟨by omega, ?_⟩) | (refine And.intro ?_ ?_) | (refine (fun _ => ?_)))
    all_goals first | omega | grind
  · have : k = arcs.length := by omega
    rw [this]
end Go.Fx.F
namespace Go.Fx.F
open Go Go.Fx Go.Proofs
set_option maxRecDepth 20000

open Classical in
noncomputable def provesB (N : Nat) (arcs : List Arc) (f t : Int) (flow : List Int) (cut : List Bool) : Bool :=
  decide (checkI N arcs f t flow = 0 ∧ cut.length = N ∧ cut.getD f.toNat false = true ∧ cut.getD t.toNat false = false ∧ cutTo arcs cut arcs.length = valTo arcs f flow arcs.length)
theorem check0 {N : Nat} {arcs : List Arc} {f t : Int} {flow : List Int} (h : checkI N arcs f t flow = 0) : endsB N f t = true ∧ flow.length = arcs.length ∧ possP arcs flow := by
  unfold checkI at h
  split at h
  · simp at h
  · rename_i h1
    split at h
    · simp at h
    · rename_i h2
      exact ⟨(Classical.not_not.mp h1).1, (Classical.not_not.mp h1).2, Classical.not_not.mp h2⟩
theorem ok28 (N : Nat) (arcs : List Arc) (f t : Int) (flow : List Int) (cut : List Bool) (hV : Val N arcs) : Ok 28 [net N arcs, .i f, .i t, li flow, lb cut] (Is (.b (provesB N arcs f t flow cut))) := by
  refine ok_of lw28 (by simp) ?_
  unfold c28
  simp -implicitDefEqProofs only [qF, qI, qO, qP, qR, qT, qV, zD, zJ, zL, zM, zP, ofConst, cells?, List.length_nil, List.length_cons, List.set_cons_zero, zQ, List.getD_eq_getElem?_getD, List.getElem?_cons_zero, ↓reduceIte, Nat.reduceEqDiff, Option.getD_some, List.nil_append, List.append_nil, Nat.zero_add, Nat.reduceAdd, Nat.add_zero, reduceCtorEq, freshP, List.map_cons, List.map_nil, List.drop_zero, List.take_nil, true_and, Nat.le_refl, ke, kf, ki, jo, ↓jp, ↓jr, ↓ju, ↓jz, args0, net, li, lb]
  refine call_is (ok27 N arcs f t flow hV) ?_ rfl ?_
  · simp [net, li, lendsOk, lendOk, lends, lend, wkL, wk, wkB, pos]
  simp -implicitDefEqProofs only [qa, qw, rdK, qx, qz, qA, qC, qE, qF, qI, qJ, qN, qO, qP, qQ, qR, qS, qV, qX, qY, qZ, zb, zd, zD, zJ, zL, zM, zP, ofConst, List.length_nil, List.length_cons, zQ, List.getD_eq_getElem?_getD, List.getElem?_cons_zero, ↓reduceIte, Nat.reduceEqDiff, Option.getD_some, zR, zS, zT, Bool.not_false, ↓zU, ↓zV, zW, List.nil_append, List.append_nil, Nat.zero_add, Nat.reduceAdd, Nat.add_zero, reduceCtorEq, zY, resP, tupV, List.reverse_cons, List.reverse_nil, wfV, List.map_cons, List.map_nil, List.drop_zero, List.take_nil, Bool.and_true, true_and, and_true, V.v.injEq, Value.int.injEq, Value.bool.injEq, List.length_map, Bool.false_eq_true, Nat.le_refl, ke, ki, jo, ↓jp, ↓jr, ↓jt, ↓ju, ↓jy, ↓jz, ↓jE, ↓jI, ↓jN, ↓qaQ, List.length_map, List.getElem_map, encB_0, cx0_fx]
  simp only [br, decide_eq_true_eq, decide_eq_false_iff_not, bne_iff_ne, bne_eq_false_iff_eq]
  refine ⟨fun h => ?_, fun h0 hm => ⟨fun h => ?_, fun hc => ?_⟩⟩
  · simp [provesB, h]
  · have : ¬ cut.length = N := by omega
    simp [provesB, this]
  have hE := check0 h0
  have he : (0 ≤ f ∧ f < N) ∧ (0 ≤ t ∧ t < N) ∧ f ≠ t := by simpa [endsB] using hE.1
  have hc' : cut.length = N := by omega
  have hf := hV.flow hE.2.1 hE.2.2
  have hL := hV.hl
  have gf : cut.getD f.toNat false = cut[f.toNat]'(by omega) := by simp [List.getD_eq_getElem?_getD, List.getElem?_eq_getElem (show f.toNat < cut.length by omega)]
  have gt : cut.getD t.toNat false = cut[t.toNat]'(by omega) := by simp [List.getD_eq_getElem?_getD, List.getElem?_eq_getElem (show t.toNat < cut.length by omega)]
  refine ⟨by omega, by omega, fun h => ?_, fun h1 => ⟨by omega, by omega, fun h => ?_, fun h2 => ?_⟩⟩
  · have h : cut[f.toNat]'(by omega) = false := by simpa using h
    simp only [provesB, gf, h]; simp
  · simp only [provesB, gt, h]; simp
  refine call_is (ok29 N arcs cut hV hc') ?_ rfl ?_
  · simp [net, lb, lendsOk, lendOk, lends, lend, wkL, wk, wkB, pos]
  simp -implicitDefEqProofs only [qz, qC, zD, zJ, zL, zP, ↓reduceIte, Nat.reduceEqDiff, List.map_cons, List.map_nil, Bool.and_true, and_true, Bool.false_eq_true, cx0_fx]
  refine call_is (ok30 N f arcs flow hE.2.1 (by omega) hf) ?_ rfl ?_
  · simp [net, li, lendsOk, lendOk, lends, lend, wkL, wk, wkB, pos]
  simp -implicitDefEqProofs only [qa, qe, qy, qA, qN, qR, qZ, zJ, zL, zP, ↓reduceIte, Nat.reduceEqDiff, zR, List.nil_append, zY, resP, tupV, List.reverse_cons, List.reverse_nil, wfV, true_and, V.v.injEq, Value.int.injEq, Value.bool.injEq, ↓qaP]
  have h1 : cut[f.toNat]'(by omega) = true := by simpa using h1
  simp only [provesB, gf, gt, h0, h1, h2, hc']
  rw [Bool.eq_iff_iff]; simp
theorem ok16 (N : Nat) (arcs : List Arc) (f t : Int) (flow : List Int) (cut : List Bool) (hV : Val N arcs) : Ok 16 [net N arcs, .i f, .i t, li flow, lb cut] (Is (.b (provesB N arcs f t flow cut))) := by
  refine ok_of lw16 (by simp) ?_
  unfold c16
  simp -implicitDefEqProofs only [qa, qw, rdK, qx, qz, qA, qC, qF, qI, qO, qP, qR, qT, qV, zD, zJ, zL, zM, zP, ofConst, cells?, List.length_nil, List.length_cons, List.set_cons_zero, zQ, List.getD_eq_getElem?_getD, List.getElem?_cons_zero, ↓reduceIte, Nat.reduceEqDiff, Option.getD_some, List.nil_append, List.append_nil, Nat.zero_add, Nat.reduceAdd, Nat.add_zero, reduceCtorEq, freshP, List.map_cons, List.map_nil, List.drop_zero, List.take_nil, Bool.and_true, true_and, and_true, Bool.false_eq_true, Nat.le_refl, ke, kf, ki, jo, ↓jp, ↓jr, ↓ju, ↓jz, cx0_fx, args0, net, li, lb]
  refine call_is (ok17 N arcs f t flow hV) ?_ rfl ?_
  · simp [net, li, lendsOk, lendOk, lends, lend, wkL, wk, wkB, pos]
  simp -implicitDefEqProofs only [qa, qb, qc, qd, qe, qf, qi, qw, rdK, qy, qz, qA, qB, qD, qN, qR, qS, qV, qX, qY, qZ, zb, zd, zD, zJ, zL, zM, zP, ofConst, List.length_nil, List.length_cons, zQ, List.getD_eq_getElem?_getD, List.getElem?_cons_zero, ↓reduceIte, Nat.reduceEqDiff, Option.getD_some, zR, zS, zT, Bool.not_true, ↓zU, ↓zV, zW, List.nil_append, Nat.zero_add, Nat.reduceAdd, Nat.add_zero, reduceCtorEq, zY, resP, tupV, List.reverse_cons, List.reverse_nil, wfV, List.map_cons, List.map_nil, List.drop_zero, List.take_nil, Bool.and_true, true_and, and_true, V.v.injEq, Value.int.injEq, Value.bool.injEq, List.length_map, Bool.false_eq_true, Nat.le_refl, ke, ki, ↓jp, ↓jr, ↓jt, ↓ju, ↓jy, ↓jz, ↓jE, ↓jI, ↓jN, ↓qaP, List.length_map, List.getElem_map, encB_0, cx0_fx]
  simp only [br, decide_eq_true_eq, decide_eq_false_iff_not, bne_iff_ne, bne_eq_false_iff_eq, beq_iff_eq, beq_eq_false_iff_ne]
  refine ⟨fun h0 hm => ⟨fun hc => ?_, fun h => ?_⟩, fun h => ?_⟩
  rotate_left
  · have : ¬ cut.length = N := by omega
    simp [provesB, this]
  · simp [provesB, h]
  have hE := check0 h0
  have he : (0 ≤ f ∧ f < N) ∧ (0 ≤ t ∧ t < N) ∧ f ≠ t := by simpa [endsB] using hE.1
  have hc' : cut.length = N := by omega
  have hf := hV.flow hE.2.1 hE.2.2
  have hL := hV.hl
  have hN := hV.hn
  have gf : cut.getD f.toNat false = cut[f.toNat]'(by omega) := by simp [List.getD_eq_getElem?_getD, List.getElem?_eq_getElem (show f.toNat < cut.length by omega)]
  have gt : cut.getD t.toNat false = cut[t.toNat]'(by omega) := by simp [List.getD_eq_getElem?_getD, List.getElem?_eq_getElem (show t.toNat < cut.length by omega)]
  refine ⟨by omega, by omega, fun h1 => ⟨by omega, by omega, fun h2 => ?_, fun h => ?_⟩, fun h => ?_⟩
  rotate_left
  · have h : cut[t.toNat]'(by omega) = true := by simpa using h
    simp only [provesB, gt, h]; simp
  · simp only [provesB, gf, h]; simp
  refine call_is (ok18 N arcs cut hV hc') ?_ rfl ?_
  · simp [net, lb, lendsOk, lendOk, lends, lend, wkL, wk, wkB, pos]
  simp -implicitDefEqProofs only [qz, qD, zD, zJ, zL, zP, ↓reduceIte, Nat.reduceEqDiff, ↓zU, zW, List.map_cons, List.map_nil, Bool.and_true, and_true, Bool.false_eq_true, cx0_fx]
  refine call_is (ok15 N f arcs flow hE.2.1 (by omega) hN.2 hf (fun a ha => (hV.ha a ha).1) he.1) ?_ rfl ?_
  · simp [net, li, lendsOk, lendOk, lends, lend, wkL, wk, wkB, pos]
  simp -implicitDefEqProofs only [qa, qb, qe, qy, qA, qB, qN, qR, qS, qZ, zJ, zL, zP, ↓reduceIte, Nat.reduceEqDiff, zR, zT, ↓zU, zW, List.nil_append, zY, resP, tupV, List.reverse_cons, List.reverse_nil, wfV, true_and, V.v.injEq, Value.int.injEq, Value.bool.injEq, ↓qaP]
  have h2 : cut[t.toNat]'(by omega) = false := by simpa using h2
  simp only [provesB, gf, gt, h0, h1, h2, hc']
  rw [Bool.eq_iff_iff]; simp
end Go.Fx.F
namespace Go.Fx.F
open Go Go.Fx Go.Proofs
set_option maxRecDepth 20000

def rowA (a : Arc) (x : Int) : List (List V) := [[.i a.from_, .i a.to, .i (a.cap - x), .i a.cost], [.i a.to, .i a.from_, .i x, .i (IntKind.wrap .i64 (-a.cost))]]
def restTo (arcs : List Arc) (flow : List Int) : Nat → List (List V)
  | 0 => []
  | k + 1 => restTo arcs flow k ++ rowA (arcs.getD k ⟨0,0,0,0⟩) (flow.getD k 0)
theorem restTo_len (arcs : List Arc) (flow : List Int) : ∀ k, (restTo arcs flow k).length = 2 * k
  | 0 => rfl
  | k + 1 => by simp [restTo, restTo_len arcs flow k, rowA]; omega
theorem restTo_step {arcs : List Arc} {flow : List Int} {k : Nat} (h1 : k < arcs.length) (h2 : k < flow.length) : restTo arcs flow (k + 1) = restTo arcs flow k ++ rowA arcs[k] flow[k] := by
  simp only [restTo, List.getD_eq_getElem?_getD, List.getElem?_eq_getElem h1, List.getElem?_eq_getElem h2, Option.getD_some]
theorem restTo_take (arcs : List Arc) (flow : List Int) (k : Nat) : List.take (2 * k) (restTo arcs flow k) = restTo arcs flow k := by
  rw [← restTo_len arcs flow k, List.take_length]
def restP (b0 : Blk) (N : Nat) (arcs : List Arc) (flow : List Int) : Nat → List Blk
  | 0 => [b0, .var [.i 0, .nil], .var [.i N, .nil]]
  | k + 1 => [b0, .var [.i 0, .nil], .var [.i N, .sl 5 0 (2 * (k + 1))], .dead, .dead, .arr 4 (restTo arcs flow (k + 1))]
theorem restP_0 {b0 : Blk} {N : Nat} {arcs : List Arc} {flow : List Int} : restP b0 N arcs flow 0 = [b0, .var [.i 0, .nil], .var [.i N, .nil]] := rfl
theorem restP_s {b0 : Blk} {N : Nat} {arcs : List Arc} {flow : List Int} {k : Nat} : restP b0 N arcs flow (k + 1) = [b0, .var [.i 0, .nil], .var [.i N, .sl 5 0 (2 * (k + 1))], .dead, .dead, .arr 4 (restTo arcs flow (k + 1))] := rfl
def restV (N : Nat) : Nat → V
  | 0 => .agg [.i N, .nil]
  | k + 1 => .agg [.i N, .sl 5 0 (2 * (k + 1))]
def restH (N : Nat) (arcs : List Arc) (flow : List Int) : Nat → List Blk
  | 0 => []
  | k + 1 => [.dead, .dead, .dead, .dead, .dead, .arr 4 (restTo arcs flow (k + 1))]

theorem ok32 (N : Nat) (arcs : List Arc) (flow : List Int) (hV : Val N arcs) (hl : flow.length = arcs.length) (hp : possP arcs flow) : Ok 32 [net N arcs, li flow] (IsA (restV N arcs.length) (restH N arcs flow arcs.length)) := by
  have hL := hV.hl
  refine ok_of lw32 (by simp) ?_
  unfold c32
  simp -implicitDefEqProofs only [qF, qI, qK, qL, qO, qP, qR, qT, qU, qV, qW, qX, zb, zk, zJ, zK, zL, zM, zP, ofConst, cells?, List.length_nil, List.length_cons, List.set_cons_zero, splice, zQ, List.getD_eq_getElem?_getD, List.getElem?_cons_zero, ↓reduceIte, Nat.reduceEqDiff, Option.getD_some, List.nil_append, List.cons_append, List.append_nil, Nat.zero_add, Nat.reduceAdd, Nat.add_zero, freshP, buildP, List.map_cons, List.map_nil, List.drop_zero, List.take_zero, List.drop_nil, List.all_cons, List.all_nil, isC, Bool.and_true, Bool.and_self, true_and, and_true, and_self, List.not_mem_nil, List.length_append, List.length_map, not_false_eq_true, Nat.reduceLeDiff, Nat.le_refl, lg0, ka, kc, kf, lg1, kg, kh, kj, jo, ↓jp, ↓jr, ↓ju, ↓jy, ↓jA, ↓jB, ↓jE, ↓jN, List.length_map, cx0_bn, cx0_fx, args0, net, li]
  intro hm
  refine loopP_intro (fun k : Nat => ⟨[(14, .i k), (13, .i arcs.length), (12, .bro 4 (arcs.map Arc.enc)), (5, .ptr 2 0 0), (4, .ptr 1 0 0), (1, .bro 1 (flow.map encI))], restP .dead N arcs flow k, 0⟩) (fun k => k ≤ arcs.length) (fun k => arcs.length - k) 0 (by simp) ?_ ?_
  · simp -implicitDefEqProofs only [zP, List.getElem?_cons_zero, ↓reduceIte, Nat.reduceEqDiff, reduceCtorEq, zZ, leE, leH, leB, leV, leVs, keepP, liveP, wfE, wfB, wfV, wfL, Bool.and_self, and_self, lg0, lg1, leVs, leV, Int.natCast_zero, restP_0]
  intro k hk
  cases k with
  | zero =>
    simp -implicitDefEqProofs only [qa, qc, qd, qe, qj, qp, qw, rdK, qx, qy, qz, qA, qC, qE, qF, qI, qJ, qK, qM, qN, qO, qP, qR, qU, qV, qW, qX, qY, qZ, ze, zk, zp, zr, zJ, zK, zL, zM, zP, ofConst, cells?, List.length_nil, List.length_cons, List.set_cons_zero, splice, zQ, List.getD_eq_getElem?_getD, List.getElem?_cons_zero, ↓reduceIte, Nat.reduceEqDiff, Option.getD_some, zR, zT, List.nil_append, List.cons_append, List.append_nil, Nat.zero_add, Nat.reduceAdd, Nat.add_zero, reduceCtorEq, freshP, buildP, litsP, zZ, leE, keepP, liveP, wfE, wfV, List.map_cons, List.map_nil, List.drop_zero, List.take_zero, List.take_nil, List.drop_nil, List.all_cons, List.all_nil, isD, isC, Bool.and_true, Bool.and_self, true_and, and_true, and_self, V.v.injEq, Value.int.injEq, Value.bool.injEq, List.not_mem_nil, false_or, List.length_append, List.length_map, not_false_eq_true, Bool.false_eq_true, Nat.reduceLT, Nat.reduceLeDiff, Nat.le_refl, lg0, ka, kc, ke, kf, lg1, kg, kh, ki, kj, lg2, kk, kn, ko, lg3, kq, kr, lg4, ky, jo, ↓jp, ↓jr, ↓jt, ↓ju, ↓jy, ↓jz, ↓jA, ↓jB, ↓jE, ↓jI, ↓jW, ↓jX, ↓qam, ↓qap, ↓qaJ, ↓qaL, ↓qaR, List.length_map, List.getElem_map, enc_len, enc_take, enc_0, enc_1, enc_2, enc_3, enc_isC, encI_0, cx0_bn, cx0_fx, restP_0, Int.natCast_zero, Int.toNat_zero]
    simp only [br, decide_eq_true_eq, decide_eq_false_iff_not]
    refine ⟨fun h => ?_, fun h => ?_⟩
    · have h1 : 0 < arcs.length := by omega
      have h2 : 0 < flow.length := by omega
      have hp0 := hp 0 h2 h1
      have ha := hV.ha arcs[0] (List.getElem_mem h1)
      refine ⟨by omega, by omega, by omega, by omega, by simp only [lo, hi]; omega, by omega, by omega, by decide, by decide, 0 + 1, by omega, by simp, ?_⟩
      simp -implicitDefEqProofs only [List.getD_eq_getElem?_getD, List.getElem?_cons_zero, List.nil_append, Nat.zero_add, leH, leB, leV, leVs, liveP, wfB, wfV, wfL, Bool.and_true, Bool.and_self, true_and, and_true, and_self, lg0, lg1, lg2, lg3, lg4, restP_s, restTo_step h1 h2, restTo, rowA, leVs, leV]
      simp only [List.getElem?_eq_getElem h1, List.getElem?_eq_getElem h2, Option.getD_some]
    · have h0 : arcs.length = 0 := by omega
      rw [h0]
      simp -implicitDefEqProofs only [zP, List.length_nil, List.length_cons, zQ, List.getD_eq_getElem?_getD, List.getElem?_cons_zero, ↓reduceIte, Nat.reduceEqDiff, Option.getD_some, List.nil_append, Nat.zero_add, Nat.reduceAdd, resP, tupV, List.reverse_cons, List.reverse_nil, leH, keepP, wfB, wfV, wfL, List.drop_zero, List.take_nil, Bool.and_self, and_self, Nat.le_refl, lg0, ke, ki, ↓jr, ↓ju, ↓jz, retP_isA, restV, restH]
  | succ k =>
    simp -implicitDefEqProofs only [qa, qc, qd, qe, qj, qp, qw, rdK, qx, qy, qz, qA, qC, qE, qF, qI, qJ, qK, qM, qN, qO, qP, qR, qU, qV, qW, qX, qY, qZ, ze, zk, zp, zr, zJ, zK, zL, zM, zP, ofConst, cells?, List.length_nil, List.length_cons, List.set_cons_zero, splice, zQ, List.getD_eq_getElem?_getD, List.getElem?_cons_zero, ↓reduceIte, Nat.reduceEqDiff, Option.getD_some, zR, zT, List.nil_append, List.cons_append, List.append_nil, Nat.zero_add, Nat.reduceAdd, Nat.add_zero, reduceCtorEq, freshP, buildP, litsP, zZ, leE, keepP, liveP, wfE, wfV, killE, killB, kill, kills, St.kill, List.map_cons, List.map_nil, List.drop_zero, List.take_zero, List.take_nil, List.drop_nil, List.all_cons, List.all_nil, isD, isC, Bool.and_true, Bool.and_self, true_and, and_true, and_self, V.v.injEq, Value.int.injEq, Value.bool.injEq, List.mem_cons, List.not_mem_nil, or_false, false_or, List.length_append, List.length_map, not_false_eq_true, Bool.false_eq_true, Nat.reduceLT, Nat.reduceLeDiff, Nat.le_refl, lg0, ka, kc, ke, kf, lg1, kg, kh, ki, kj, lg2, kk, kn, ko, lg3, kq, kr, lg4, ky, lg5, kC, lg6, kG, jo, ↓jp, ↓jr, ↓jt, ↓ju, ↓jy, ↓jz, ↓jA, ↓jB, ↓jE, ↓jI, ↓jW, ↓jX, ↓qan, ↓qao, ↓qaJ, ↓qaL, ↓qaR, List.length_map, List.getElem_map, enc_len, enc_take, enc_0, enc_1, enc_2, enc_3, enc_isC, encI_0, Int.toNat_natCast, cx0_bn, cx0_fx, restP_s]
    simp only [br, decide_eq_true_eq, decide_eq_false_iff_not]
    refine ⟨fun h => ?_, fun h => ?_⟩
    · have h1 : k + 1 < arcs.length := by omega
      have h2 : k + 1 < flow.length := by omega
      have hp0 := hp (k + 1) h2 h1
      have ha := hV.ha arcs[k + 1] (List.getElem_mem h1)
      refine ⟨by omega, by omega, by omega, by omega, by simp only [lo, hi]; omega, by omega, by omega, ⟨by rw [restTo_len]; omega, by omega⟩, by simp only [lo, hi]; omega, k + 1 + 1, by omega, by simp, ?_⟩
      simp -implicitDefEqProofs only [List.getElem?_cons_zero, leH, leB, leV, leVs, liveP, wfB, wfV, wfL, Bool.and_true, Bool.and_self, true_and, and_true, and_self, lg0, lg1, lg2, lg3, lg4, restP_s, restTo_step h1 h2, rowA, leVs, leV, restTo_take]
      rfl
    · have h0 : arcs.length = k + 1 := by omega
      rw [h0]
      simp -implicitDefEqProofs only [zP, List.length_nil, List.length_cons, zQ, List.getD_eq_getElem?_getD, List.getElem?_cons_zero, ↓reduceIte, Nat.reduceEqDiff, Option.getD_some, List.nil_append, Nat.zero_add, Nat.reduceAdd, resP, tupV, List.reverse_cons, List.reverse_nil, leH, leB, keepP, liveP, wfB, wfV, wfL, List.drop_zero, List.take_nil, Bool.and_self, and_self, Nat.reduceLeDiff, Nat.le_refl, lg0, ke, lg1, ki, lg2, lg3, lg4, ↓jr, ↓ju, ↓jz, retP_isA, restV, restH]
theorem ok33 (N : Nat) (arcs : List Arc) (flow : List Int) (hV : Val N arcs) (hl : flow.length = arcs.length) (hp : possP arcs flow) : Ok 33 [net N arcs, li flow] (IsA (restV N arcs.length) (restH N arcs flow arcs.length)) := by
  have hL := hV.hl
  refine ok_of lw33 (by simp) ?_
  unfold c33
  simp -implicitDefEqProofs only [qF, qI, qK, qL, qO, qP, qR, qT, qU, qV, qW, qX, zk, zJ, zK, zL, zM, zP, ofConst, cells?, List.length_nil, List.length_cons, List.set_cons_zero, splice, zQ, List.getD_eq_getElem?_getD, List.getElem?_cons_zero, ↓reduceIte, Nat.reduceEqDiff, Option.getD_some, List.nil_append, List.cons_append, List.append_nil, Nat.zero_add, Nat.reduceAdd, Nat.add_zero, freshP, buildP, List.map_cons, List.map_nil, List.drop_zero, List.take_zero, List.drop_nil, List.all_cons, List.all_nil, isC, Bool.and_true, Bool.and_self, true_and, and_true, and_self, List.not_mem_nil, List.length_append, not_false_eq_true, Nat.reduceLeDiff, Nat.le_refl, lg0, ka, kc, kf, lg1, kg, kh, kj, jo, ↓jp, ↓jr, ↓ju, ↓jy, ↓jA, ↓jB, ↓jE, cx0_bn, cx0_fx, args0, net, li]
  refine loopP_intro (fun k : Nat => ⟨[(6, .i k), (2, .ptr 0 0 0), (5, .ptr 2 0 0), (4, .ptr 1 0 0), (1, .bro 1 (flow.map encI))], restP (.var [.i N, .bro 4 (arcs.map Arc.enc)]) N arcs flow k, 0⟩) (fun k => k ≤ arcs.length) (fun k => arcs.length - k) 0 (by simp) ?_ ?_
  · simp -implicitDefEqProofs only [zP, List.getElem?_cons_zero, ↓reduceIte, Nat.reduceEqDiff, reduceCtorEq, zZ, leE, leH, leB, leV, leVs, keepP, liveP, wfE, wfB, wfV, wfL, Bool.and_self, and_self, lg0, lg1, leVs, leV, Int.natCast_zero, restP_0]
  intro k hk
  cases k with
  | zero =>
    simp -implicitDefEqProofs only [qa, qc, qd, qe, qj, qp, qw, rdK, qx, qy, qz, qA, qC, qE, qF, qI, qJ, qK, qM, qN, qO, qP, qR, qU, qV, qW, qX, qY, qZ, zb, ze, zk, zp, zr, zJ, zK, zL, zM, zP, ofConst, cells?, List.length_nil, List.length_cons, List.set_cons_zero, splice, zQ, List.getD_eq_getElem?_getD, List.getElem?_cons_zero, ↓reduceIte, Nat.reduceEqDiff, Option.getD_some, zR, zT, List.nil_append, List.cons_append, List.append_nil, Nat.zero_add, Nat.reduceAdd, Nat.add_zero, reduceCtorEq, freshP, buildP, litsP, zZ, leE, keepP, liveP, wfE, wfV, List.map_cons, List.map_nil, List.drop_zero, List.take_zero, List.take_nil, List.drop_nil, List.all_cons, List.all_nil, isD, isC, Bool.and_true, Bool.and_self, true_and, and_true, and_self, V.v.injEq, Value.int.injEq, Value.bool.injEq, List.not_mem_nil, false_or, List.length_append, List.length_map, not_false_eq_true, Bool.false_eq_true, Nat.reduceLT, Nat.reduceLeDiff, Nat.le_refl, lg0, ka, kc, ke, kf, lg1, kg, kh, ki, kj, lg2, kk, kn, ko, lg3, kq, kr, lg4, ky, jo, ↓jp, ↓jr, ↓jt, ↓ju, ↓jy, ↓jz, ↓jA, ↓jB, ↓jE, ↓jI, ↓jN, ↓jW, ↓jX, ↓qam, ↓qap, ↓qaJ, ↓qaL, ↓qaR, List.length_map, List.getElem_map, enc_len, enc_take, enc_0, enc_1, enc_2, enc_3, enc_isC, encI_0, cx0_bn, cx0_fx, restP_0, Int.natCast_zero, Int.toNat_zero]
    simp only [br, decide_eq_true_eq, decide_eq_false_iff_not]
    refine fun hm => ⟨fun h => ?_, fun h => ?_⟩
    · have h1 : 0 < arcs.length := by omega
      have h2 : 0 < flow.length := by omega
      have hp0 := hp 0 h2 h1
      have ha := hV.ha arcs[0] (List.getElem_mem h1)
      refine ⟨by omega, by omega, by omega, by omega, by simp only [lo, hi]; omega, by omega, by omega, by decide, by decide, 0 + 1, by omega, by simp, ?_⟩
      simp -implicitDefEqProofs only [List.getD_eq_getElem?_getD, List.getElem?_cons_zero, List.nil_append, Nat.zero_add, leH, leB, leV, leVs, liveP, wfB, wfV, wfL, Bool.and_true, Bool.and_self, true_and, and_true, and_self, lg0, lg1, lg2, lg3, lg4, restP_s, restTo_step h1 h2, restTo, rowA, leVs, leV]
      simp only [List.getElem?_eq_getElem h1, List.getElem?_eq_getElem h2, Option.getD_some]
    · have h0 : arcs.length = 0 := by omega
      rw [h0]
      simp -implicitDefEqProofs only [zP, List.length_nil, List.length_cons, zQ, List.getD_eq_getElem?_getD, List.getElem?_cons_zero, ↓reduceIte, Nat.reduceEqDiff, Option.getD_some, List.nil_append, Nat.zero_add, Nat.reduceAdd, resP, tupV, List.reverse_cons, List.reverse_nil, leH, keepP, wfB, wfV, wfL, List.drop_zero, List.take_nil, Bool.and_self, and_self, Nat.le_refl, lg0, ke, ki, ↓jr, ↓ju, ↓jz, retP_isA, restV, restH]
  | succ k =>
    simp -implicitDefEqProofs only [qa, qc, qd, qe, qj, qp, qw, rdK, qx, qy, qz, qA, qC, qE, qF, qI, qJ, qK, qM, qN, qO, qP, qR, qU, qV, qW, qX, qY, qZ, zb, ze, zk, zp, zr, zJ, zK, zL, zM, zP, ofConst, cells?, List.length_nil, List.length_cons, List.set_cons_zero, splice, zQ, List.getD_eq_getElem?_getD, List.getElem?_cons_zero, ↓reduceIte, Nat.reduceEqDiff, Option.getD_some, zR, zT, List.nil_append, List.cons_append, List.append_nil, Nat.zero_add, Nat.reduceAdd, Nat.add_zero, reduceCtorEq, freshP, buildP, litsP, zZ, leE, keepP, liveP, wfE, wfV, killE, killB, kill, kills, St.kill, List.map_cons, List.map_nil, List.drop_zero, List.take_zero, List.take_nil, List.drop_nil, List.all_cons, List.all_nil, isD, isC, Bool.and_true, Bool.and_self, true_and, and_true, and_self, V.v.injEq, Value.int.injEq, Value.bool.injEq, List.mem_cons, List.not_mem_nil, or_false, false_or, List.length_append, List.length_map, not_false_eq_true, Bool.false_eq_true, Nat.reduceLT, Nat.reduceLeDiff, Nat.le_refl, lg0, ka, kc, ke, kf, lg1, kg, kh, ki, kj, lg2, kk, kn, ko, lg3, kq, kr, lg4, ky, lg5, kC, lg6, kG, jo, ↓jp, ↓jr, ↓jt, ↓ju, ↓jy, ↓jz, ↓jA, ↓jB, ↓jE, ↓jI, ↓jN, ↓jW, ↓jX, ↓qan, ↓qao, ↓qaJ, ↓qaL, ↓qaR, List.length_map, List.getElem_map, enc_len, enc_take, enc_0, enc_1, enc_2, enc_3, enc_isC, encI_0, Int.toNat_natCast, cx0_bn, cx0_fx, restP_s]
    simp only [br, decide_eq_true_eq, decide_eq_false_iff_not]
    refine fun hm => ⟨fun h => ?_, fun h => ?_⟩
    · have h1 : k + 1 < arcs.length := by omega
      have h2 : k + 1 < flow.length := by omega
      have hp0 := hp (k + 1) h2 h1
      have ha := hV.ha arcs[k + 1] (List.getElem_mem h1)
      refine ⟨by omega, by omega, by omega, by omega, by simp only [lo, hi]; omega, by omega, by omega, ⟨by rw [restTo_len]; omega, by omega⟩, by simp only [lo, hi]; omega, k + 1 + 1, by omega, by simp, ?_⟩
      simp -implicitDefEqProofs only [List.getElem?_cons_zero, leH, leB, leV, leVs, liveP, wfB, wfV, wfL, Bool.and_true, Bool.and_self, true_and, and_true, and_self, lg0, lg1, lg2, lg3, lg4, restP_s, restTo_step h1 h2, rowA, leVs, leV, restTo_take]
      rfl
    · have h0 : arcs.length = k + 1 := by omega
      rw [h0]
      simp -implicitDefEqProofs only [zP, List.length_nil, List.length_cons, zQ, List.getD_eq_getElem?_getD, List.getElem?_cons_zero, ↓reduceIte, Nat.reduceEqDiff, Option.getD_some, List.nil_append, Nat.zero_add, Nat.reduceAdd, resP, tupV, List.reverse_cons, List.reverse_nil, leH, leB, keepP, liveP, wfB, wfV, wfL, List.drop_zero, List.take_nil, Bool.and_self, and_self, Nat.reduceLeDiff, Nat.le_refl, lg0, ke, lg1, ki, lg2, lg3, lg4, ↓jr, ↓ju, ↓jz, retP_isA, restV, restH]

def restA (arcs : List Arc) (flow : List Int) : Nat → List Arc
  | 0 => []
  | k + 1 => restA arcs flow k ++ [⟨(arcs.getD k ⟨0,0,0,0⟩).from_, (arcs.getD k ⟨0,0,0,0⟩).to, (arcs.getD k ⟨0,0,0,0⟩).cap - flow.getD k 0, (arcs.getD k ⟨0,0,0,0⟩).cost⟩, ⟨(arcs.getD k ⟨0,0,0,0⟩).to, (arcs.getD k ⟨0,0,0,0⟩).from_, flow.getD k 0, IntKind.wrap .i64 (-(arcs.getD k ⟨0,0,0,0⟩).cost)⟩]
theorem restA_enc (arcs : List Arc) (flow : List Int) : ∀ k, restTo arcs flow k = (restA arcs flow k).map Arc.enc
  | 0 => rfl
  | k + 1 => by simp [restTo, restA, restA_enc arcs flow k, rowA, Arc.enc]
theorem ok31 (n : Int) (l : List Arc) : Ok 31 [net n l, net n l] (Is (.b true)) := by
  refine ok_of lw31 (by simp) ?_
  unfold c31
  simp -implicitDefEqProofs only [qE, qF, qI, qJ, qK, qL, qN, qO, qP, qQ, qR, qS, qT, qV, qX, qZ, zb, zJ, zL, zM, zP, ofConst, cells?, List.length_nil, List.length_cons, List.set_cons_zero, zQ, List.getD_eq_getElem?_getD, List.getElem?_cons_zero, ↓reduceIte, Nat.reduceEqDiff, Option.getD_some, zR, zT, Bool.not_false, ↓zU, ↓zV, zW, List.nil_append, List.append_nil, Nat.zero_add, Nat.reduceAdd, Nat.add_zero, reduceCtorEq, freshP, zY, resP, tupV, List.reverse_cons, List.reverse_nil, wfV, true_and, V.v.injEq, Value.int.injEq, Value.bool.injEq, List.length_map, Bool.false_eq_true, lg0, ka, kf, kj, jo, ↓jp, ↓jr, ↓ju, ↓jy, ↓jE, ↓jN, ↓qaQ, List.length_map, cx0_fx, args0, net]
  simp only [br, decide_eq_true_eq, decide_eq_false_iff_not, bne_iff_ne, bne_eq_false_iff_eq]
  refine ⟨fun h => absurd rfl h, fun _ hm _ => ⟨fun h => absurd rfl h, fun _ => ?_⟩⟩
  refine loopP_intro (fun k : Nat => ⟨[(5, .i k), (2, .ptr 0 0 0), (3, .ptr 1 0 0)], [.var [.i n, .bro 4 (l.map Arc.enc)], .var [.i n, .bro 4 (l.map Arc.enc)]], 0⟩) (fun k => k ≤ l.length) (fun k => l.length - k) 0 (by simp) ?_ ?_
  · simp -implicitDefEqProofs only [zP, List.getElem?_cons_zero, ↓reduceIte, Nat.reduceEqDiff, zZ, leE, leH, leB, leV, leVs, keepP, liveP, wfE, wfB, wfV, wfL, Bool.and_self, and_self, lg0, leVs, leV, Int.natCast_zero]
  intro k hk
  simp -implicitDefEqProofs only [qE, qF, qH, qI, qJ, qK, qM, qN, qO, qP, qR, qV, qX, qY, qZ, zb, zm, zJ, zL, zM, zP, ofConst, List.length_nil, List.length_cons, zQ, List.getD_eq_getElem?_getD, List.getElem?_cons_zero, ↓reduceIte, Nat.reduceEqDiff, Option.getD_some, zR, zT, Bool.not_true, ↓zV, List.nil_append, List.append_nil, Nat.zero_add, Nat.reduceAdd, zY, resP, tupV, List.reverse_cons, List.reverse_nil, zZ, leE, leH, leB, leV, leVs, keepP, liveP, wfE, wfB, wfV, wfL, List.drop_zero, Bool.and_true, Bool.and_self, true_and, and_true, and_self, V.v.injEq, Value.int.injEq, Value.bool.injEq, List.length_map, Bool.false_eq_true, Nat.le_refl, lg0, jo, ↓jp, ↓jr, ↓jt, ↓ju, ↓jy, ↓jz, ↓jE, ↓jI, ↓jN, ↓qaJ, ↓qaR, List.length_map, List.getElem_map, enc_len, enc_take, enc_0, enc_1, enc_2, enc_3, Int.toNat_natCast, eqFs, eqC, aggC, isKey, eqK, decide_true, beq_self_eq_true]
  simp only [br, decide_eq_true_eq, decide_eq_false_iff_not]
  refine fun _ => ⟨fun h => ⟨⟨by omega, by omega⟩, by omega, ⟨by omega, by omega⟩, by omega, by simp only [lo, hi, maxLen] at *; omega, k + 1, ⟨by omega, by omega⟩, by simp⟩, fun _ => trivial⟩
end Go.Fx.F
namespace Go.Fx.F
open Go Go.Fx Go.Proofs
/-! The search, in plain words: what both programs compute. -/
def gA (R : List Arc) (i : Nat) : Arc := R.getD i ⟨0, 0, 0, 0⟩
/-- One node is looked at, with the arcs before i. -/
def scanTo (R : List Arc) (k : Int) (s : List Int × List Int) : Nat → List Int × List Int
  | 0 => s
  | i + 1 => if (gA R i).from_ = k ∧ 0 < (gA R i).cap ∧ (scanTo R k s i).1.getD (gA R i).to.toNat 0 = -2 then ((scanTo R k s i).1.set (gA R i).to.toNat i, (scanTo R k s i).2 ++ [(gA R i).to]) else scanTo R k s i
/-- What is found when h nodes have been looked at. -/
def bfsTo (R : List Arc) (N : Nat) (f : Int) : Nat → List Int × List Int
  | 0 => ((List.replicate N (-2)).set f.toNat (-1), [f])
  | h + 1 => match (bfsTo R N f h).2[h]? with
    | some k => scanTo R k (bfsTo R N f h) R.length
    | none => bfsTo R N f h
structure Srch (R : List Arc) (N : Nat) (f : Int) (t : List Int × List Int) : Prop where
  len : t.1.length = N
  nod : t.2.Nodup
  rng : ∀ v ∈ t.2, 0 ≤ v ∧ v < N
  mem : ∀ v : Nat, v < N → (t.1.getD v 0 ≠ -2 ↔ (v : Int) ∈ t.2)
  root : t.2[0]? = some f ∧ t.1.getD f.toNat 0 = -1
  par : ∀ j v, 0 < j → t.2[j]? = some v → ∃ i, i < R.length ∧ t.1.getD v.toNat 0 = (i : Int) ∧ (gA R i).to = v ∧ 0 < (gA R i).cap ∧ ∃ j', j' < j ∧ t.2[j']? = some (gA R i).from_
theorem getD_set {l : List Int} {i j : Nat} {x d : Int} (h : i < l.length) : (l.set i x).getD j d = if j = i then x else l.getD j d := by
  simp only [List.getD_eq_getElem?_getD, List.getElem?_set]
  by_cases hij : i = j
  · subst hij; simp [h]
  · have : ¬ j = i := fun h => hij h.symm
    simp [hij, this]
theorem Srch.init {R : List Arc} {N : Nat} {f : Int} (hf : 0 ≤ f ∧ f < N) : Srch R N f ((List.replicate N (-2)).set f.toNat (-1), [f]) := by
  have hl : f.toNat < (List.replicate N (-2 : Int)).length := by simp; omega
  refine ⟨by simp, by simp, by simp; omega, ?_, ⟨rfl, ?_⟩, ?_⟩
  · intro v hv
    simp only [getD_set hl, List.mem_singleton]
    by_cases h : v = f.toNat
    · simp only [h, if_true]
      refine ⟨fun _ => by omega, fun _ => by omega⟩
    · simp only [h, if_false]
      have : ((List.replicate N (-2 : Int)).getD v 0) = -2 := by
        simp [List.getD_eq_getElem?_getD, List.getElem?_replicate, hv]
      rw [this]
      refine ⟨fun h => absurd rfl h, fun h2 => ?_⟩
      omega
  · rw [getD_set hl]; simp
  · intro j v hj h
    cases j with
    | zero => omega
    | succ j => simp at h
theorem Srch.scan {R : List Arc} {N : Nat} {f : Int} {t : List Int × List Int} (hf : 0 ≤ f ∧ f < N) (hR : ∀ i, i < R.length → (0 ≤ (gA R i).to ∧ (gA R i).to < N)) (h : Srch R N f t) {k : Int} (hk : k ∈ t.2) :
    ∀ i, i ≤ R.length → Srch R N f (scanTo R k t i) ∧ (∀ v, v ∈ t.2 → v ∈ (scanTo R k t i).2) ∧ t.2 <+: (scanTo R k t i).2
  | 0, _ => ⟨h, fun _ h => h, List.prefix_refl _⟩
  | i + 1, hi => by
    obtain ⟨h1, h2, h3⟩ := Srch.scan hf hR h hk i (by omega)
    have hr := hR i (by omega)
    unfold scanTo
    split
    · rename_i hc
      obtain ⟨c1, c2, c3⟩ := hc
      have hlt : (gA R i).to.toNat < (scanTo R k t i).1.length := by rw [h1.len]; omega
      have hcast : (((gA R i).to.toNat : Nat) : Int) = (gA R i).to := by omega
      have hnew : (gA R i).to ∉ (scanTo R k t i).2 := by
        intro hm
        have := (h1.mem (gA R i).to.toNat (by omega)).2 (by rw [hcast]; exact hm)
        exact this c3
      have hk2 : k ∈ (scanTo R k t i).2 := h2 k hk
      refine ⟨⟨by simp [h1.len], ?_, ?_, ?_, ⟨?_, ?_⟩, ?_⟩, ?_, ?_⟩
      · rw [List.nodup_append]
        refine ⟨h1.nod, by simp, ?_⟩
        intro a ha b hb
        rw [List.mem_singleton] at hb
        subst hb
        intro he
        subst he
        exact hnew ha
      · intro v hv
        rw [List.mem_append, List.mem_singleton] at hv
        rcases hv with hv | rfl
        · exact h1.rng v hv
        · exact hr
      · intro v hv
        rw [getD_set hlt, List.mem_append, List.mem_singleton]
        by_cases he : v = (gA R i).to.toNat
        · simp only [he, if_true, hcast, or_true, iff_true]; omega
        · simp only [he, if_false]
          rw [h1.mem v hv]
          refine ⟨fun h => .inl h, fun h => h.resolve_right fun h => by omega⟩
      · have := h1.root.1
        cases hq : (scanTo R k t i).2 with
        | nil => rw [hq] at this; simp at this
        | cons a r => rw [hq] at this; simpa using this
      · have h0 : f ∈ (scanTo R k t i).2 := List.mem_of_getElem? h1.root.1
        have hne : ¬ f.toNat = (gA R i).to.toNat := by
          intro he
          have : f = (gA R i).to := by omega
          rw [this] at h0
          exact hnew h0
        rw [getD_set hlt, if_neg hne]
        exact h1.root.2
      · intro j v hj hv
        by_cases hjl : j < (scanTo R k t i).2.length
        · rw [List.getElem?_append_left hjl] at hv
          obtain ⟨i', q1, q2, q3, q4, j', q5, q6⟩ := h1.par j v hj hv
          have hv2 : v ∈ (scanTo R k t i).2 := List.mem_of_getElem? hv
          have hvr := h1.rng v hv2
          have hne : ¬ v.toNat = (gA R i).to.toNat := by
            intro he
            have : v = (gA R i).to := by omega
            rw [this] at hv2
            exact hnew hv2
          refine ⟨i', q1, ?_, q3, q4, j', q5, ?_⟩
          · rw [getD_set hlt, if_neg hne]; exact q2
          · rw [List.getElem?_append_left (by omega)]; exact q6
        · rw [List.getElem?_append_right (by omega)] at hv
          have hje : j = (scanTo R k t i).2.length := by
            have : j - (scanTo R k t i).2.length < 1 := by
              rw [List.getElem?_eq_some_iff] at hv
              obtain ⟨hb, _⟩ := hv
              simpa using hb
            omega
          subst hje
          simp at hv
          subst hv
          obtain ⟨j', hj', hj2⟩ := List.getElem_of_mem hk2
          refine ⟨i, by omega, ?_, rfl, c2, j', hj', ?_⟩
          · rw [getD_set hlt]; simp
          · rw [List.getElem?_append_left hj', c1, List.getElem?_eq_getElem hj', hj2]
      · intro v hv
        rw [List.mem_append]
        exact .inl (h2 v hv)
      · exact List.IsPrefix.trans h3 (List.prefix_append _ _)
    · exact ⟨h1, h2, h3⟩
theorem Srch.bfs {R : List Arc} {N : Nat} {f : Int} (hf : 0 ≤ f ∧ f < N) (hR : ∀ i, i < R.length → (0 ≤ (gA R i).to ∧ (gA R i).to < N)) : ∀ h, Srch R N f (bfsTo R N f h)
  | 0 => Srch.init hf
  | h + 1 => by
    have ih := Srch.bfs hf hR h
    unfold bfsTo
    split
    · rename_i k hk
      exact (Srch.scan hf hR ih (List.mem_of_getElem? hk) R.length (Nat.le_refl _)).1
    · exact ih
end Go.Fx.F
namespace Go.Fx.F
open Go Go.Fx Go.Proofs
theorem nodup_le {l : List Int} (N : Nat) (hn : l.Nodup) (hr : ∀ v ∈ l, 0 ≤ v ∧ v < N) : l.length ≤ N := by
  have h1 : (l.map Int.toNat).Nodup := by
    rw [List.nodup_iff_pairwise_ne, List.pairwise_map]
    refine List.Pairwise.imp_of_mem ?_ hn
    intro a b ha hb hab he
    have := hr a ha
    have := hr b hb
    omega
  have h2 : (l.map Int.toNat) ⊆ List.range N := by
    intro x hx
    rw [List.mem_map] at hx
    obtain ⟨a, ha, rfl⟩ := hx
    have := hr a ha
    rw [List.mem_range]; omega
  have h3 := List.Nodup.length_le_of_subset h1 h2
  simpa using h3
theorem bfs_stay {R : List Arc} {N : Nat} {f : Int} {h : Nat} (hh : (bfsTo R N f h).2.length ≤ h) : ∀ j, h ≤ j → bfsTo R N f j = bfsTo R N f h
  | 0, hj => by
    have : h = 0 := by omega
    rw [this]
  | j + 1, hj => by
    by_cases he : h = j + 1
    · rw [he]
    · have ih := bfs_stay hh j (by omega)
      conv => lhs; unfold bfsTo
      rw [ih]
      have : (bfsTo R N f h).2[j]? = none := by
        rw [List.getElem?_eq_none_iff]; omega
      rw [this]
/-- What the search finds in the end. -/
def srch (R : List Arc) (N : Nat) (f : Int) : List Int × List Int := bfsTo R N f N
theorem srch_of {R : List Arc} {N : Nat} {f : Int} (hf : 0 ≤ f ∧ f < N) (hR : ∀ i, i < R.length → (0 ≤ (gA R i).to ∧ (gA R i).to < N)) {h : Nat} (hh : (bfsTo R N f h).2.length ≤ h) : bfsTo R N f h = srch R N f := by
  by_cases hN : h ≤ N
  · exact (bfs_stay hh N hN).symm
  · have h1 := Srch.bfs hf hR N
    exact bfs_stay (nodup_le N h1.nod h1.rng) h (by omega)
/-- The arcs by which a node was found, back to the first one. -/
def walk (R : List Arc) (t : List Int × List Int) : Nat → Int → List Nat
  | 0, _ => []
  | n + 1, k => if t.1.getD k.toNat 0 < 0 then [] else (t.1.getD k.toNat 0).toNat :: walk R t n (gA R (t.1.getD k.toNat 0).toNat).from_
theorem Srch.pos {R : List Arc} {N : Nat} {f : Int} {t : List Int × List Int} (h : Srch R N f t) {j : Nat} {v : Int} (hv : t.2[j]? = some v) : (j = 0 ∧ v = f) ∨ (0 < j ∧ v ≠ f) := by
  cases j with
  | zero => rw [h.root.1] at hv; simp at hv; exact .inl ⟨rfl, hv.symm⟩
  | succ j =>
    refine .inr ⟨by omega, fun he => ?_⟩
    subst he
    have h0 := h.root.1
    have := h.nod
    rw [List.nodup_iff_pairwise_ne, List.pairwise_iff_getElem] at this
    rw [List.getElem?_eq_some_iff] at h0 hv
    obtain ⟨a, ha⟩ := h0
    obtain ⟨b, hb⟩ := hv
    exact this 0 (j + 1) a b (by omega) (by rw [ha, hb])
theorem walk_root {R : List Arc} {N : Nat} {f : Int} {t : List Int × List Int} (h : Srch R N f t) (n : Nat) : walk R t n f = [] := by
  cases n with
  | zero => rfl
  | succ n => unfold walk; rw [h.root.2]; simp
/-- One step back. -/
theorem walk_step {R : List Arc} {N : Nat} {f : Int} {t : List Int × List Int} (h : Srch R N f t) {j : Nat} {v : Int} (hj : 0 < j) (hv : t.2[j]? = some v) (n : Nat) :
    ∃ i, i < R.length ∧ t.1.getD v.toNat 0 = (i : Int) ∧ (gA R i).to = v ∧ 0 < (gA R i).cap ∧ (∃ j', j' < j ∧ t.2[j']? = some (gA R i).from_) ∧ walk R t (n + 1) v = i :: walk R t n (gA R i).from_ := by
  obtain ⟨i, h1, h2, h3, h4, h5⟩ := h.par j v hj hv
  refine ⟨i, h1, h2, h3, h4, h5, ?_⟩
  conv => lhs; unfold walk
  rw [h2, if_neg (by omega)]
  simp
/-- More fuel than steps changes nothing. -/
theorem walk_fuel {R : List Arc} {N : Nat} {f : Int} {t : List Int × List Int} (h : Srch R N f t) : ∀ (j : Nat) (v : Int) (n : Nat), t.2[j]? = some v → j ≤ n → walk R t n v = walk R t j v := by
  intro j
  induction j using Nat.strongRecOn with
  | _ j ih =>
    intro v n hv hn
    rcases h.pos hv with ⟨rfl, rfl⟩ | ⟨hj, _⟩
    · rw [walk_root h, walk_root h]
    · cases j with
      | zero => omega
      | succ j =>
        cases n with
        | zero => omega
        | succ n =>
          obtain ⟨i, h1, h2, h3, h4, ⟨j', h5, h6⟩, h7⟩ := walk_step h (by omega) hv n
          obtain ⟨i', g1, g2, g3, g4, _, g7⟩ := walk_step h (by omega) hv j
          have : i = i' := by omega
          subst this
          rw [h7, g7, ih j' h5 _ n h6 (by omega), ih j' h5 _ j h6 (by omega)]
end Go.Fx.F
namespace Go.Fx.F
open Go Go.Fx Go.Proofs
theorem restA_len (arcs : List Arc) (fl : List Int) : ∀ k, (restA arcs fl k).length = 2 * k
  | 0 => rfl
  | k + 1 => by simp [restA, restA_len arcs fl k]; omega
theorem getD_app {l r : List Arc} {i : Nat} {d : Arc} : (l ++ r).getD i d = if i < l.length then l.getD i d else r.getD (i - l.length) d := by
  simp only [List.getD_eq_getElem?_getD]
  by_cases h : i < l.length
  · rw [List.getElem?_append_left h, if_pos h]
  · rw [List.getElem?_append_right (by omega), if_neg h]
theorem restA_even (arcs : List Arc) (fl : List Int) : ∀ k q, q < k → gA (restA arcs fl k) (2 * q) = ⟨(gA arcs q).from_, (gA arcs q).to, (gA arcs q).cap - fl.getD q 0, (gA arcs q).cost⟩
  | 0, q, h => by omega
  | k + 1, q, h => by
    unfold gA restA
    rw [getD_app, restA_len]
    by_cases h2 : q = k
    · subst h2; simp
    · rw [if_pos (by omega)]
      exact restA_even arcs fl k q (by omega)
theorem restA_odd (arcs : List Arc) (fl : List Int) : ∀ k q, q < k → gA (restA arcs fl k) (2 * q + 1) = ⟨(gA arcs q).to, (gA arcs q).from_, fl.getD q 0, IntKind.wrap .i64 (-(gA arcs q).cost)⟩
  | 0, q, h => by omega
  | k + 1, q, h => by
    unfold gA restA
    rw [getD_app, restA_len]
    by_cases h2 : q = k
    · subst h2; simp; intro h; omega
    · rw [if_pos (by omega)]
      exact restA_odd arcs fl k q (by omega)
/-- The flow is changed on one arc of what is left. -/
def push1 (d : Int) (fl : List Int) (i : Nat) : List Int := if i % 2 = 0 then fl.set (i / 2) (fl.getD (i / 2) 0 + d) else fl.set (i / 2) (fl.getD (i / 2) 0 - d)
def pushAll (d : Int) (fl : List Int) (p : List Nat) : List Int := p.foldl (push1 d) fl
def leastOf (R : List Arc) (p : List Nat) (m : Int) : Int := p.foldl (fun m i => min m (gA R i).cap) m
/-- One round: none, if the target is not found. -/
def round (arcs : List Arc) (N : Nat) (f t : Int) (fl : List Int) : Option (List Int) :=
  if (srch (restA arcs fl arcs.length) N f).1.getD t.toNat 0 = -2 then none
  else some (pushAll (leastOf (restA arcs fl arcs.length) (walk (restA arcs fl arcs.length) (srch (restA arcs fl arcs.length) N f) N t) 1073741824) fl (walk (restA arcs fl arcs.length) (srch (restA arcs fl arcs.length) N f) N t))
inductive Run (arcs : List Arc) (N : Nat) (f t : Int) : List Int → List Int → Prop where
  | stop {fl : List Int} (h : round arcs N f t fl = none) : Run arcs N f t fl fl
  | go {fl fl' r : List Int} (h : round arcs N f t fl = some fl') (h2 : Run arcs N f t fl' r) : Run arcs N f t fl r
theorem valTo_set (arcs : List Arc) (x : Int) (fl : List Int) (q : Nat) (e : Int) (hq : q < fl.length) : ∀ k, valTo arcs x (fl.set q (fl.getD q 0 + e)) k = valTo arcs x fl k + (if q < k then (if (gA arcs q).from_ = x then e else 0) - (if (gA arcs q).to = x then e else 0) else 0)
  | 0 => by simp [valTo]
  | k + 1 => by
    have ih := valTo_set arcs x fl q e hq k
    simp only [valTo, ih, getD_set hq]
    by_cases h : k = q
    · subst h
      simp only [if_true, Nat.lt_irrefl, if_false, Nat.lt_succ_self, gA]
      split <;> split <;> omega
    · simp only [h, if_false]
      by_cases h2 : q < k
      · simp only [h2, if_true, show q < k + 1 by omega]
        omega
      · simp only [h2, if_false, show ¬ q < k + 1 by omega]
        omega
theorem push1_len {d : Int} {fl : List Int} {i : Nat} : (push1 d fl i).length = fl.length := by
  unfold push1; split <;> simp
/-- What a node gives, after a push on one arc. -/
theorem valTo_push (arcs : List Arc) (x : Int) (fl : List Int) (d : Int) (i : Nat) (hl : fl.length = arcs.length) (hi : i < 2 * arcs.length) (fl0 : List Int) :
    valTo arcs x (push1 d fl i) arcs.length = valTo arcs x fl arcs.length + (if (gA (restA arcs fl0 arcs.length) i).from_ = x then d else 0) - (if (gA (restA arcs fl0 arcs.length) i).to = x then d else 0) := by
  have hq : i / 2 < arcs.length := by omega
  unfold push1
  by_cases h : i % 2 = 0
  · have hi2 : i = 2 * (i / 2) := by omega
    rw [if_pos h, valTo_set arcs x fl (i / 2) d (by omega), if_pos hq]
    conv => rhs; rw [hi2]
    simp only [restA_even arcs fl0 _ _ hq]
    omega
  · have hi2 : i = 2 * (i / 2) + 1 := by omega
    have : fl.getD (i / 2) 0 - d = fl.getD (i / 2) 0 + (-d) := by omega
    rw [if_neg h, this, valTo_set arcs x fl (i / 2) (-d) (by omega), if_pos hq]
    conv => rhs; rw [hi2]
    simp only [restA_odd arcs fl0 _ _ hq]
    split <;> split <;> omega
end Go.Fx.F
namespace Go.Fx.F
open Go Go.Fx Go.Proofs
theorem pushAll_len {d : Int} : ∀ {p : List Nat} {fl : List Int}, (pushAll d fl p).length = fl.length
  | [], fl => rfl
  | i :: p, fl => by
    show (pushAll d (push1 d fl i) p).length = _
    rw [pushAll_len, push1_len]
/-- What a node gives, after a push on the whole way. -/
theorem valTo_pushAll (arcs : List Arc) (N : Nat) (f : Int) (fl0 : List Int) {t : List Int × List Int} (h : Srch (restA arcs fl0 arcs.length) N f t) (x d : Int) : ∀ (j : Nat) (v : Int) (fl : List Int), t.2[j]? = some v → fl.length = arcs.length →
    valTo arcs x (pushAll d fl (walk (restA arcs fl0 arcs.length) t j v)) arcs.length = valTo arcs x fl arcs.length + (if f = x then d else 0) - (if v = x then d else 0) := by
  intro j
  induction j using Nat.strongRecOn with
  | _ j ih =>
    intro v fl hv hl
    rcases h.pos hv with ⟨rfl, rfl⟩ | ⟨hj, _⟩
    · rw [walk_root h]
      show valTo arcs x fl _ = _
      omega
    · cases j with
      | zero => omega
      | succ j =>
        obtain ⟨i, h1, h2, h3, h4, ⟨j', h5, h6⟩, h7⟩ := walk_step h (by omega) hv j
        rw [h7, ← walk_fuel h j' _ j h6 (by omega) |>.symm]
        show valTo arcs x (pushAll d (push1 d fl i) _) _ = _
        rw [ih j' h5 _ (push1 d fl i) h6 (by rw [push1_len]; exact hl), valTo_push arcs x fl d i hl (by rw [restA_len] at h1; exact h1) fl0, h3]
        omega
end Go.Fx.F
namespace Go.Fx.F
open Go Go.Fx Go.Proofs
theorem Srch.uni {R : List Arc} {N : Nat} {f : Int} {t : List Int × List Int} (h : Srch R N f t) {a b : Nat} {v : Int} (ha : t.2[a]? = some v) (hb : t.2[b]? = some v) : a = b := by
  have hn := h.nod
  rw [List.nodup_iff_pairwise_ne, List.pairwise_iff_getElem] at hn
  rw [List.getElem?_eq_some_iff] at ha hb
  obtain ⟨q1, q2⟩ := ha
  obtain ⟨q3, q4⟩ := hb
  rcases Nat.lt_trichotomy a b with h1 | h1 | h1
  · exact absurd (q2.trans q4.symm) (hn a b q1 q3 h1)
  · exact h1
  · exact absurd (q4.trans q2.symm) (hn b a q3 q1 h1)
/-- Each arc of a way leads from an earlier node to a later one. -/
theorem walk_arcs {R : List Arc} {N : Nat} {f : Int} {t : List Int × List Int} (h : Srch R N f t) : ∀ (j : Nat) (v : Int), t.2[j]? = some v → ∀ i ∈ walk R t j v,
    i < R.length ∧ 0 < (gA R i).cap ∧ ∃ a b, a < b ∧ b ≤ j ∧ t.2[a]? = some (gA R i).from_ ∧ t.2[b]? = some (gA R i).to := by
  intro j
  induction j using Nat.strongRecOn with
  | _ j ih =>
    intro v hv i hi
    rcases h.pos hv with ⟨rfl, rfl⟩ | ⟨hj, _⟩
    · rw [walk_root h] at hi; simp at hi
    · cases j with
      | zero => omega
      | succ j =>
        obtain ⟨i0, h1, h2, h3, h4, ⟨j', h5, h6⟩, h7⟩ := walk_step h (by omega) hv j
        rw [h7, List.mem_cons] at hi
        rcases hi with rfl | hi
        · exact ⟨h1, h4, j', j + 1, h5, Nat.le_refl _, h6, by rw [h3]; exact hv⟩
        · rw [walk_fuel h j' _ j h6 (by omega)] at hi
          obtain ⟨q1, q2, a, b, q3, q4, q5, q6⟩ := ih j' h5 _ h6 i hi
          exact ⟨q1, q2, a, b, q3, by omega, q5, q6⟩
/-- No arc comes twice in a way, in neither direction. -/
theorem walk_halves (arcs : List Arc) (N : Nat) (f : Int) (fl0 : List Int) {t : List Int × List Int} (h : Srch (restA arcs fl0 arcs.length) N f t) : ∀ (j : Nat) (v : Int), t.2[j]? = some v → ((walk (restA arcs fl0 arcs.length) t j v).map (· / 2)).Nodup := by
  intro j
  induction j using Nat.strongRecOn with
  | _ j ih =>
    intro v hv
    rcases h.pos hv with ⟨rfl, rfl⟩ | ⟨hj, _⟩
    · rw [walk_root h]; simp
    · cases j with
      | zero => omega
      | succ j =>
        obtain ⟨i, h1, h2, h3, h4, ⟨j', h5, h6⟩, h7⟩ := walk_step h (by omega) hv j
        rw [h7, walk_fuel h j' _ j h6 (by omega), List.map_cons, List.nodup_cons]
        refine ⟨fun hm => ?_, ih j' h5 _ h6⟩
        rw [List.mem_map] at hm
        obtain ⟨i2, q1, q2⟩ := hm
        obtain ⟨q3, q4, a, b, q5, q6, q7, q8⟩ := walk_arcs h j' _ h6 i2 q1
        have hq : i / 2 < arcs.length := by rw [restA_len] at h1; omega
        rw [← h3] at hv
        by_cases he : i2 % 2 = i % 2
        · have : i2 = i := by omega
          subst this
          have := h.uni hv q8
          omega
        · by_cases hp : i % 2 = 0
          · have e1 : i = 2 * (i / 2) := by omega
            have e2 : i2 = 2 * (i / 2) + 1 := by omega
            rw [e1, restA_even arcs fl0 _ _ hq] at hv
            rw [e2, restA_odd arcs fl0 _ _ hq] at q7
            have := h.uni hv q7
            omega
          · have e1 : i = 2 * (i / 2) + 1 := by omega
            have e2 : i2 = 2 * (i / 2) := by omega
            rw [e1, restA_odd arcs fl0 _ _ hq] at hv
            rw [e2, restA_even arcs fl0 _ _ hq] at q7
            have := h.uni hv q7
            omega
/-- The flow after a push on a way. -/
theorem pushAll_get {d : Int} : ∀ {p : List Nat} {fl : List Int}, (p.map (· / 2)).Nodup → (∀ i ∈ p, i / 2 < fl.length) → ∀ q, (pushAll d fl p).getD q 0 = fl.getD q 0 + (if 2 * q ∈ p then d else 0) - (if 2 * q + 1 ∈ p then d else 0)
  | [], fl, _, _, q => by simp [pushAll]
  | i :: p, fl, hn, hi, q => by
    show (pushAll d (push1 d fl i) p).getD q 0 = _
    rw [List.map_cons, List.nodup_cons] at hn
    have hlt := hi i List.mem_cons_self
    rw [pushAll_get hn.2 (fun i h => by rw [push1_len]; exact hi i (List.mem_cons_of_mem _ h))]
    have hno : ∀ i2, i2 / 2 = i / 2 → i2 ∉ p := fun i2 h2 hm => hn.1 (by rw [List.mem_map]; exact ⟨i2, hm, h2⟩)
    by_cases hq : q = i / 2
    · subst hq
      have n1 := hno (2 * (i / 2)) (by omega)
      have n2 := hno (2 * (i / 2) + 1) (by omega)
      simp only [n1, n2, if_false, List.mem_cons, or_false]
      unfold push1
      by_cases hp : i % 2 = 0
      · rw [if_pos hp, getD_set hlt, if_pos rfl, if_pos (by omega), if_neg (by omega)]; omega
      · rw [if_neg hp, getD_set hlt, if_pos rfl, if_neg (by omega), if_pos (by omega)]; omega
    · have m1 : 2 * q ∈ i :: p ↔ 2 * q ∈ p := by
        rw [List.mem_cons]; exact ⟨fun h => h.resolve_left (by omega), .inr⟩
      have m2 : 2 * q + 1 ∈ i :: p ↔ 2 * q + 1 ∈ p := by
        rw [List.mem_cons]; exact ⟨fun h => h.resolve_left (by omega), .inr⟩
      have : (push1 d fl i).getD q 0 = fl.getD q 0 := by
        unfold push1
        split <;> rw [getD_set hlt, if_neg hq]
      rw [this]
      simp only [m1, m2]
end Go.Fx.F
namespace Go.Fx.F
open Go Go.Fx Go.Proofs
theorem leastOf_le (R : List Arc) : ∀ (p : List Nat) (m : Int), leastOf R p m ≤ m ∧ ∀ i ∈ p, leastOf R p m ≤ (gA R i).cap
  | [], m => ⟨Int.le_refl _, by simp⟩
  | i :: p, m => by
    have h := leastOf_le R p (min m (gA R i).cap)
    have e : leastOf R (i :: p) m = leastOf R p (min m (gA R i).cap) := rfl
    rw [e]
    refine ⟨by omega, fun i2 h2 => ?_⟩
    rw [List.mem_cons] at h2
    rcases h2 with rfl | h2
    · omega
    · exact h.2 i2 h2
theorem leastOf_pos (R : List Arc) : ∀ (p : List Nat) (m : Int), 0 < m → (∀ i ∈ p, 0 < (gA R i).cap) → 0 < leastOf R p m
  | [], m, h, _ => h
  | i :: p, m, h, hp => leastOf_pos R p _ (by have := hp i List.mem_cons_self; show 0 < min m (gA R i).cap; omega) (fun i h => hp i (List.mem_cons_of_mem _ h))
theorem getD_nil {a : Arc} {arcs : List Arc} {q : Nat} (h : q < arcs.length) : gA arcs q = arcs[q] := by
  simp [gA, List.getD_eq_getElem?_getD, List.getElem?_eq_getElem h]
theorem poss_iff {arcs : List Arc} {fl : List Int} (hl : fl.length = arcs.length) : possP arcs fl ↔ ∀ q, q < arcs.length → 0 ≤ fl.getD q 0 ∧ fl.getD q 0 ≤ (gA arcs q).cap := by
  refine ⟨fun h q hq => ?_, fun h q h1 h2 => ?_⟩
  · have := h q (by omega) hq
    rw [List.getD_eq_getElem?_getD, List.getElem?_eq_getElem (by omega), getD_nil (a := ⟨0,0,0,0⟩) hq]
    exact this
  · have := h q h2
    rw [List.getD_eq_getElem?_getD, List.getElem?_eq_getElem h1, getD_nil (a := ⟨0,0,0,0⟩) h2] at this
    exact this
theorem rest_to {N : Nat} {arcs : List Arc} (hV : Val N arcs) (fl : List Int) : ∀ i, i < (restA arcs fl arcs.length).length → 0 ≤ (gA (restA arcs fl arcs.length) i).to ∧ (gA (restA arcs fl arcs.length) i).to < N := by
  intro i hi
  rw [restA_len] at hi
  have hq : i / 2 < arcs.length := by omega
  have := hV.ha arcs[i / 2] (List.getElem_mem hq)
  by_cases hp : i % 2 = 0
  · have e1 : i = 2 * (i / 2) := by omega
    rw [e1, restA_even arcs fl _ _ hq, getD_nil (a := ⟨0,0,0,0⟩) hq]
    exact this.1.2.1
  · have e1 : i = 2 * (i / 2) + 1 := by omega
    rw [e1, restA_odd arcs fl _ _ hq, getD_nil (a := ⟨0,0,0,0⟩) hq]
    exact this.1.1
/-- What one round brings. -/
theorem round_ok {N : Nat} {arcs : List Arc} (hV : Val N arcs) {f t : Int} (hf : 0 ≤ f ∧ f < N) (ht : 0 ≤ t ∧ t < N) {fl fl' : List Int} (hl : fl.length = arcs.length) (hp : possP arcs fl) (h : round arcs N f t fl = some fl') :
    fl'.length = arcs.length ∧ possP arcs fl' ∧ ∃ d, 0 < d ∧ ∀ x, valTo arcs x fl' arcs.length = valTo arcs x fl arcs.length + (if f = x then d else 0) - (if t = x then d else 0) := by
  unfold round at h
  split at h
  · simp at h
  rename_i hb
  simp only [Option.some.injEq] at h
  have hS : Srch (restA arcs fl arcs.length) N f (srch (restA arcs fl arcs.length) N f) := Srch.bfs hf (rest_to hV fl) N
  have htm : t ∈ (srch (restA arcs fl arcs.length) N f).2 := by
    have := (hS.mem t.toNat (by omega)).1 hb
    rwa [Int.toNat_of_nonneg ht.1] at this
  obtain ⟨j, hj, hjt⟩ := List.getElem_of_mem htm
  have hjt : (srch (restA arcs fl arcs.length) N f).2[j]? = some t := by rw [List.getElem?_eq_getElem hj, hjt]
  have hjN : j ≤ N := by
    have := nodup_le N hS.nod hS.rng
    omega
  rw [walk_fuel hS j t N hjt hjN] at h
  have ha := walk_arcs hS j t hjt
  have hh := walk_halves arcs N f fl hS j t hjt
  generalize hw : walk (restA arcs fl arcs.length) (srch (restA arcs fl arcs.length) N f) j t = p at h ha hh
  have hd := leastOf_le (restA arcs fl arcs.length) p 1073741824
  have hd0 := leastOf_pos (restA arcs fl arcs.length) p 1073741824 (by omega) (fun i hi => (ha i hi).2.1)
  generalize hdd : leastOf (restA arcs fl arcs.length) p 1073741824 = d at h hd hd0
  have hlen : fl'.length = arcs.length := by rw [← h, pushAll_len, hl]
  refine ⟨hlen, ?_, d, hd0, fun x => ?_⟩
  · rw [poss_iff hlen]
    intro q hq
    have h0 := (poss_iff hl).1 hp q hq
    rw [← h, pushAll_get hh (fun i hi => by have := (ha i hi).1; rw [restA_len] at this; omega)]
    have c1 : 2 * q ∈ p → d ≤ (gA arcs q).cap - fl.getD q 0 := by
      intro hm
      have := hd.2 _ hm
      rw [restA_even arcs fl _ _ hq] at this
      exact this
    have c2 : 2 * q + 1 ∈ p → d ≤ fl.getD q 0 := by
      intro hm
      have := hd.2 _ hm
      rw [restA_odd arcs fl _ _ hq] at this
      exact this
    by_cases m1 : 2 * q ∈ p
    · by_cases m2 : 2 * q + 1 ∈ p
      · have := c1 m1; have := c2 m2
        simp only [m1, m2, if_true]; omega
      · have := c1 m1
        simp only [m1, m2, if_true, if_false]; omega
    · by_cases m2 : 2 * q + 1 ∈ p
      · have := c2 m2
        simp only [m1, m2, if_true, if_false]; omega
      · simp only [m1, m2, if_false]; omega
  · rw [← h, ← hw, valTo_pushAll arcs N f fl hS x d j t fl hjt hl]
/-- The rounds come to an end. -/
theorem run_ends {N : Nat} {arcs : List Arc} (hV : Val N arcs) {f t : Int} (hf : 0 ≤ f ∧ f < N) (ht : 0 ≤ t ∧ t < N) (hft : f ≠ t) : ∀ (c : Nat) (fl : List Int), fl.length = arcs.length → possP arcs fl → (arcs.length : Int) * 1073741824 - valTo arcs f fl arcs.length ≤ c → ∃ r, Run arcs N f t fl r
  | c, fl, hl, hp, hc => by
    cases hr : round arcs N f t fl with
    | none => exact ⟨fl, .stop hr⟩
    | some fl' =>
      obtain ⟨h1, h2, d, h3, h4⟩ := round_ok hV hf ht hl hp hr
      have h5 := h4 f
      rw [if_pos rfl, if_neg (fun h => hft h.symm)] at h5
      have hb := valTo_bound arcs f fl' (hV.flow h1 h2) arcs.length
      cases c with
      | zero => omega
      | succ c =>
        obtain ⟨r, hr2⟩ := run_ends hV hf ht hft c fl' h1 h2 (by omega)
        exact ⟨r, .go hr hr2⟩
theorem Run.det {N : Nat} {arcs : List Arc} {f t : Int} {a b c : List Int} (h : Run arcs N f t a b) (h2 : Run arcs N f t a c) : b = c := by
  induction h with
  | stop h1 => cases h2 with
    | stop _ => rfl
    | go h3 _ => rw [h1] at h3; simp at h3
  | go h1 _ ih => cases h2 with
    | stop h3 => rw [h1] at h3; simp at h3
    | go h3 h4 =>
      rw [h1] at h3
      simp only [Option.some.injEq] at h3
      subst h3
      exact ih h4
end Go.Fx.F
namespace Go.Fx.F
open Go Go.Fx Go.Proofs
set_option maxRecDepth 20000
theorem mapI_set {l : List Int} {i : Nat} {x : Int} : (l.map encI).set i [.v (.int .i64 x)] = (l.set i x).map encI := by
  rw [List.map_set]; rfl
def fill (N k : Nat) : List Int := List.replicate k (-2) ++ List.replicate (N - k) 0
theorem fill_len {N k : Nat} (h : k ≤ N) : (fill N k).length = N := by simp [fill]; omega
theorem fill_set {N k : Nat} (h : k < N) : (fill N k).set k (-2) = fill N (k + 1) := by
  apply List.ext_getElem
  · simp [fill]; omega
  · intro j h1 h2
    simp only [fill, List.getElem_set, List.getElem_append, List.getElem_replicate, List.length_replicate]
    by_cases hj : k = j
    · subst hj; simp
    · simp only [hj, if_false]
      by_cases h3 : j < k
      · simp [h3, show j < k + 1 by omega]
      · simp [h3, show ¬ j < k + 1 by omega]
structure Opn (i n : Nat) (els : List (List V)) (l : List Int) : Prop where
  h1 : i + n ≤ els.length
  h2 : (els.drop i).take n = l.map encI
theorem Opn.len {i n : Nat} {els : List (List V)} {l : List Int} (h : Opn i n els l) : l.length = n := by
  have := congrArg List.length h.h2
  simp only [List.length_take, List.length_drop, List.length_map] at this
  have := h.h1
  omega
theorem Opn.head {i n : Nat} {els : List (List V)} {l : List Int} (h : Opn i n els l) {x : Int} (hx : l[0]? = some x) (hi : i < els.length) : els[i] = encI x := by
  have h2 := congrArg (fun l => l[0]?) h.h2
  have hl := h.len
  have : 0 < l.length := by
    rw [List.getElem?_eq_some_iff] at hx
    exact hx.1
  simp only [List.getElem?_map, hx, Option.map_some, List.getElem?_take, List.getElem?_drop, show 0 < n by omega, if_true, Nat.add_zero] at h2
  rw [List.getElem?_eq_getElem hi] at h2
  simpa using h2
theorem Opn.tail {i n : Nat} {els : List (List V)} {x : Int} {l : List Int} (h : Opn i (n + 1) els (x :: l)) : Opn (i + 1) n els l := by
  refine ⟨by have := h.h1; omega, ?_⟩
  have h2 := congrArg (List.drop 1) h.h2
  rw [List.drop_take, List.drop_drop] at h2
  simpa using h2
theorem Opn.add {i n : Nat} {els : List (List V)} {l : List Int} (h : Opn i n els l) (x : Int) : Opn 0 (n + 1) ((els.drop i).take n ++ [[.v (.int .i64 x)]]) (l ++ [x]) := by
  have hl := h.len
  rw [h.h2]
  refine ⟨by simp [hl], ?_⟩
  have : (List.map encI l ++ [[V.v (.int .i64 x)]]).length = n + 1 := by simp [hl]
  rw [List.drop_zero, ← this, List.take_length]
  simp [encI]
theorem ok57 (N : Nat) (R : List Arc) (f : Int) (hN : 1 ≤ N ∧ N ≤ 256) (hRl : R.length ≤ 8192) (hR : ∀ i, i < R.length → (0 ≤ (gA R i).to ∧ (gA R i).to < N)) (hf : 0 ≤ f ∧ f < N) :
    Ok 57 [net N R, .i f] (IsA (.agg [.sl 2 0 N]) [.dead, .dead, .arr 1 ((srch R N f).1.map encI)]) := by
  refine ok_of lw57 (by simp) ?_
  unfold c57
  simp -implicitDefEqProofs only [qF, qI, qK, qL, qO, qP, qR, qT, qU, qV, qX, zq, zJ, zL, zM, zP, ofConst, cells?, List.length_nil, List.length_cons, List.set_cons_zero, zQ, List.getD_eq_getElem?_getD, List.getElem?_cons_zero, ↓reduceIte, Nat.reduceEqDiff, Option.getD_some, zR, List.nil_append, List.cons_append, List.append_nil, Nat.zero_add, Nat.reduceAdd, Nat.add_zero, freshP, List.map_cons, List.map_nil, true_and, lg0, ka, kf, lg1, kg, kj, jo, ↓jp, ↓jr, ↓ju, ↓jy, ↓jE, Int.toNat_natCast, cx0_fx, args0, net]
  refine ⟨⟨⟨by omega, by omega⟩, by omega, by omega⟩, ?_⟩
  refine loopP_intro (fun k : Nat => ⟨[(6, .i k), (5, .sl 2 0 N), (4, .ptr 1 0 0), (2, .ptr 0 0 0), (1, .i f)], [.var [.i N, .bro 4 (R.map Arc.enc)], .var [.nil], .arr 1 ((fill N k).map encI)], 0⟩) (fun k => k ≤ N) (fun k => N - k) 0 (by simp) ?_ ?_
  · simp -implicitDefEqProofs only [zP, List.getElem?_cons_zero, ↓reduceIte, Nat.reduceEqDiff, List.nil_append, reduceCtorEq, zZ, leE, leH, leB, leV, leVs, keepP, liveP, wfE, wfB, wfV, wfL, Bool.and_true, Bool.and_self, true_and, and_true, and_self, lg0, lg1, jo, leVs, leV, Int.natCast_zero, fill, List.map_replicate, Nat.sub_zero]
    rfl
  intro k hk
  simp -implicitDefEqProofs only [qE, qF, qI, qJ, qK, qL, qM, qO, qP, qR, qV, qW, qX, qY, qZ, zp, zJ, zK, zL, zM, zP, ofConst, cells?, List.length_nil, List.length_cons, List.set_cons_zero, splice, zQ, List.getD_eq_getElem?_getD, List.getElem?_cons_zero, ↓reduceIte, Nat.reduceEqDiff, Option.getD_some, zR, arrSz, zT, List.nil_append, List.cons_append, List.append_nil, Nat.zero_add, Nat.reduceAdd, Nat.add_zero, freshP, litsP, zZ, leE, leH, leB, leV, leVs, keepP, liveP, wfE, wfB, wfV, wfL, List.map_cons, List.map_nil, List.take_zero, List.all_cons, List.all_nil, isD, isC, Bool.and_true, Bool.and_self, true_and, and_true, and_self, V.v.injEq, Value.int.injEq, Value.bool.injEq, List.not_mem_nil, List.length_map, not_false_eq_true, Nat.reduceLT, Nat.le_refl, lg0, ka, kf, lg1, kg, lg2, kk, jo, ↓jp, ↓jr, ↓ju, ↓jy, ↓jA, ↓jC, ↓jE, ↓jG, ↓qaJ, ↓qaR, List.length_map, List.getElem_map, Int.toNat_natCast, encI_drop, cx0_bn, cx0_fx, mapI_set, fill_len hk]
  simp only [br, decide_eq_true_eq, decide_eq_false_iff_not]
  refine ⟨fun h => ?_, fun h => ?_⟩
  · refine ⟨by omega, by omega, by simp only [lo, hi]; omega, k + 1, by omega, by simp, ?_⟩
    rw [fill_set (by omega)]
  have hkN : k = N := by omega
  subst hkN
  have hfill : (fill k k).set f.toNat (-1) = (bfsTo R k f 0).1 := by simp [fill, bfsTo]
  refine ⟨hf, by omega, ?_⟩
  rw [hfill]
  have hS := Srch.bfs hf hR
  refine loopP_intro (fun g : Nat × Nat × List (List V) => ⟨[(7, .sl 3 g.2.1 ((bfsTo R k f g.1).2.length - g.1)), (5, .sl 2 0 k), (4, .ptr 1 0 0), (2, .ptr 0 0 0)], [.var [.i k, .bro 4 (R.map Arc.enc)], .var [.nil], .arr 1 ((bfsTo R k f g.1).1.map encI), .arr 1 g.2.2], 0⟩)
    (fun g => g.1 ≤ (bfsTo R k f g.1).2.length ∧ Opn g.2.1 ((bfsTo R k f g.1).2.length - g.1) g.2.2 ((bfsTo R k f g.1).2.drop g.1)) (fun g => k - g.1) (0, 0, [encI f]) ⟨by simp [bfsTo], ⟨by simp [bfsTo], by simp [bfsTo]⟩⟩ ?_ ?_
  · simp -implicitDefEqProofs only [zP, List.getElem?_cons_zero, ↓reduceIte, Nat.reduceEqDiff, zZ, leE, leH, leB, leV, leVs, keepP, liveP, wfE, wfB, wfV, wfL, Bool.and_true, Bool.and_self, true_and, and_true, and_self, lg0, lg1, lg2, leVs, leV]
    refine ⟨by simp [bfsTo], rfl⟩
  rintro ⟨h, i, els⟩ ⟨hh, hO⟩
  simp only at hh hO
  simp -implicitDefEqProofs only [qE, qF, qI, qJ, qK, qL, qM, qN, qO, qP, qR, qV, qW, qY, qZ, zb, zj, zk, zJ, zK, zL, zM, zP, ofConst, cells?, List.length_nil, List.length_cons, List.set_cons_zero, splice, zQ, List.getD_eq_getElem?_getD, List.getElem?_cons_zero, ↓reduceIte, Nat.reduceEqDiff, Option.getD_some, zR, arrSz, zT, List.nil_append, List.append_nil, Nat.zero_add, Nat.reduceAdd, Nat.add_zero, Option.map_some, Option.map_none, slcOk, Option.getD_none, buildP, List.map_cons, List.map_nil, List.take_zero, List.drop_nil, List.all_cons, List.all_nil, isC, Bool.and_true, Bool.and_self, true_and, and_true, and_self, List.not_mem_nil, List.length_append, not_false_eq_true, Nat.le_refl, lg0, ka, kc, lg1, lg2, jo, ↓jp, ↓jr, ↓jv, ↓jy, ↓jA, ↓jB, ↓jG, ↓jL, ↓qac, ↓qad, ↓qae, ↓qaT, Int.toNat_natCast, cx0_bn, cx0_fx, Int.toNat_zero]
  simp only [br, decide_eq_true_eq, decide_eq_false_iff_not]
  have hb := nodup_le k (hS h).nod (hS h).rng
  refine fun hm => ⟨fun h0 => ?_, fun h0 => ?_⟩
  · have hlt : h < (bfsTo R k f h).2.length := by omega
    have hq : (List.drop h (bfsTo R k f h).2)[0]? = some (bfsTo R k f h).2[h] := by
      rw [List.getElem?_drop, Nat.add_zero, List.getElem?_eq_getElem hlt]
    have hi : i < els.length := by have := hO.h1; omega
    have e := hO.head hq hi
    refine ⟨⟨by omega, h0⟩, hi, ?_⟩
    generalize hkv : (bfsTo R k f h).2[h] = kv at e
    have hnext : bfsTo R k f (h + 1) = scanTo R kv (bfsTo R k f h) R.length := by
      conv => lhs; unfold bfsTo
      rw [List.getElem?_eq_getElem hlt, hkv]
    have hkm : kv ∈ (bfsTo R k f h).2 := by rw [← hkv]; exact List.getElem_mem hlt
    have hsc := Srch.scan hf hR (hS h) hkm
    have hO1 : Opn (i + 1) ((bfsTo R k f h).2.length - (h + 1)) els ((bfsTo R k f h).2.drop (h + 1)) := by
      refine Opn.tail (x := kv) ?_
      rw [← hkv, List.getElem_cons_drop, show (bfsTo R k f h).2.length - (h + 1) + 1 = (bfsTo R k f h).2.length - h by omega]
      exact hO
    simp -implicitDefEqProofs only [↓jp, encI_0, e]
    refine ⟨⟨⟨by omega, by omega⟩, by omega⟩, ?_⟩
    refine loopP_intro (fun g : Nat × Nat × List (List V) => ⟨[(9, .i g.1), (8, .i kv), (7, .sl 3 g.2.1 ((scanTo R kv (bfsTo R k f h) g.1).2.length - (h + 1))), (5, .sl 2 0 k), (4, .ptr 1 0 0), (2, .ptr 0 0 0)], [.var [.i k, .bro 4 (R.map Arc.enc)], .var [.nil], .arr 1 ((scanTo R kv (bfsTo R k f h) g.1).1.map encI), .arr 1 g.2.2], 0⟩)
      (fun g => g.1 ≤ R.length ∧ Opn g.2.1 ((scanTo R kv (bfsTo R k f h) g.1).2.length - (h + 1)) g.2.2 ((scanTo R kv (bfsTo R k f h) g.1).2.drop (h + 1))) (fun g => R.length - g.1) (0, i + 1, els) ⟨Nat.zero_le _, hO1⟩ ?_ ?_
    · simp -implicitDefEqProofs only [zP, List.getElem?_cons_zero, ↓reduceIte, Nat.reduceEqDiff, zZ, leE, leH, leB, leV, leVs, keepP, liveP, wfE, wfB, wfV, wfL, Bool.and_true, Bool.and_self, true_and, and_true, and_self, lg0, lg1, lg2, leVs, leV, Int.natCast_zero, scanTo]
      exact congrArg (V.sl 3 (i + 1)) (by omega)
    rintro ⟨j, i', els'⟩ ⟨hj, hO'⟩
    simp only at hj hO'
    have hsj := (hsc j hj).1
    have hpl := (hsc j hj).2.2.length_le
    have hbj := nodup_le k hsj.nod hsj.rng
    simp -implicitDefEqProofs only [qE, qF, qI, qJ, qK, qM, qO, qP, qQ, qR, qS, qU, qV, qW, qX, qY, qZ, zb, zp, zr, zJ, zK, zL, zM, zP, ofConst, cells?, List.length_nil, List.length_cons, List.set_cons_zero, splice, zQ, List.getD_eq_getElem?_getD, List.getElem?_cons_zero, ↓reduceIte, Nat.reduceEqDiff, Option.getD_some, zR, arrSz, zT, Bool.not_true, ↓zU, ↓zV, zW, List.nil_append, List.cons_append, List.append_nil, Nat.zero_add, Nat.reduceAdd, Nat.add_zero, reduceCtorEq, freshP, litsP, zZ, leE, leH, leB, leV, leVs, keepP, liveP, wfE, wfB, wfV, wfL, killE, killB, kill, kills, St.kill, List.map_cons, List.map_nil, List.drop_zero, List.take_zero, List.take_nil, List.drop_nil, List.all_cons, List.all_nil, isD, isC, Bool.and_true, Bool.and_self, true_and, and_true, and_self, V.v.injEq, Value.int.injEq, Value.bool.injEq, List.mem_cons, List.not_mem_nil, or_false, false_or, List.length_map, not_false_eq_true, Nat.reduceLT, Nat.le_refl, lg0, ka, kc, ke, kf, lg1, kg, kh, kj, lg2, kk, kn, lg3, kq, kr, lg4, ky, jo, ↓jp, ↓jr, ↓jt, ↓ju, ↓jv, ↓jy, ↓jz, ↓jA, ↓jB, ↓jC, ↓jE, ↓jG, ↓jI, ↓jN, ↓jW, ↓jX, ↓qan, ↓qao, ↓qaJ, ↓qaP, ↓qaR, ↓qaT, List.length_map, List.getElem_map, enc_len, enc_take, enc_0, enc_1, enc_2, enc_isC, encI_0, Int.toNat_natCast, encI_drop, cx0_bn, cx0_fx, mapI_set, hsj.len]
    simp only [br, decide_eq_true_eq, decide_eq_false_iff_not]
    refine fun hRm => ⟨fun hjl => ?_, fun hjl => ?_⟩
    · have hj2 : j < R.length := by omega
      have hg : gA R j = R[j] := by simp [gA, List.getD_eq_getElem?_getD, List.getElem?_eq_getElem hj2]
      have hto := hR j hj2
      rw [hg] at hto
      have htl : R[j].to.toNat < (scanTo R kv (bfsTo R k f h) j).1.length := by rw [hsj.len]; omega
      have hgd : (scanTo R kv (bfsTo R k f h) j).1.getD R[j].to.toNat 0 = (scanTo R kv (bfsTo R k f h) j).1[R[j].to.toNat] := by
        simp [List.getD_eq_getElem?_getD, List.getElem?_eq_getElem htl]
      have hsame : ¬ (R[j].from_ = kv ∧ 0 < R[j].cap ∧ (scanTo R kv (bfsTo R k f h) j).1[R[j].to.toNat] = -2) → scanTo R kv (bfsTo R k f h) (j + 1) = scanTo R kv (bfsTo R k f h) j := by
        intro hc
        conv => lhs; unfold scanTo
        rw [hg, hgd, if_neg hc]
      have hbd : lo IntKind.i64 ≤ (j : Int) + 1 ∧ (j : Int) + 1 ≤ Fx.hi IntKind.i64 := by simp only [lo, Fx.hi]; omega
      have same : ∀ (P : Prop), scanTo R kv (bfsTo R k f h) (j + 1) = scanTo R kv (bfsTo R k f h) j → (lo IntKind.i64 ≤ (j : Int) + 1 ∧ (j : Int) + 1 ≤ Fx.hi IntKind.i64) ∧ ∃ g' : Nat × Nat × List (List V), ((g'.1 ≤ R.length ∧ Opn g'.2.1 ((scanTo R kv (bfsTo R k f h) g'.1).2.length - (h + 1)) g'.2.2 (List.drop (h + 1) (scanTo R kv (bfsTo R k f h) g'.1).2)) ∧ R.length - g'.1 < R.length - j) ∧
          ((j : Int) + 1 = g'.1 ∧ V.sl 3 i' ((scanTo R kv (bfsTo R k f h) j).2.length - (h + 1)) = V.sl 3 g'.2.1 ((scanTo R kv (bfsTo R k f h) g'.1).2.length - (h + 1))) ∧
          Blk.arr 1 (List.map encI (scanTo R kv (bfsTo R k f h) j).1) = Blk.arr 1 (List.map encI (scanTo R kv (bfsTo R k f h) g'.1).1) ∧ Blk.arr 1 els' = Blk.arr 1 g'.2.2 := by
        intro _ hs
        refine ⟨hbd, (j + 1, i', els'), ⟨⟨by simp only; omega, by simp only [hs]; exact hO'⟩, by simp only; omega⟩, ⟨by simp, by simp only [hs]⟩, by simp only [hs], rfl⟩
      refine ⟨⟨by omega, hjl⟩, hj2, fun c1 => ⟨fun c2 => ⟨⟨hto.1, hto.2⟩, by omega, fun c3 => ?_, fun c3 => ?_⟩, fun c2 => ?_⟩, fun c1 => ?_⟩
      · have c1' : R[j].from_ = kv := by simpa using c1
        have c3' : (scanTo R kv (bfsTo R k f h) j).1[R[j].to.toNat] = -2 := by simpa using c3
        have hs : scanTo R kv (bfsTo R k f h) (j + 1) = ((scanTo R kv (bfsTo R k f h) j).1.set R[j].to.toNat j, (scanTo R kv (bfsTo R k f h) j).2 ++ [R[j].to]) := by
          conv => lhs; unfold scanTo
          rw [hg, hgd, if_pos ⟨c1', c2, c3'⟩]
        have hadd := hO'.add R[j].to
        rw [← List.drop_append_of_le_length (by omega)] at hadd
        have hn : (scanTo R kv (bfsTo R k f h) j).2.length - (h + 1) + 1 = ((scanTo R kv (bfsTo R k f h) j).2 ++ [R[j].to]).length - (h + 1) := by
          simp; omega
        refine ⟨⟨by omega, by omega⟩, by omega, ⟨hO'.h1, by omega⟩, hbd, (j + 1, 0, _), ⟨⟨by simp only; omega, ?_⟩, by simp only; omega⟩, ⟨by simp, ?_⟩, ?_, rfl⟩
        · simp only [hs]
          rw [← hn]
          exact hadd
        · simp only [hs]
          rw [hn]
        · simp only [hs]
      · exact same True (hsame fun hc => by simp [hc.2.2] at c3)
      · exact same True (hsame fun hc => c2 hc.2.1)
      · exact same True (hsame fun hc => by simp [hc.1] at c1)
    · have hjR : j = R.length := by omega
      subst hjR
      refine ⟨(h + 1, i', els'), ⟨⟨?_, ?_⟩, ?_⟩, ?_, ?_, rfl⟩
      · simp only [hnext]; omega
      · simp only [hnext]; exact hO'
      · simp only; omega
      · simp only [hnext]
      · simp only [hnext]
  · have hle : (bfsTo R k f h).2.length ≤ h := by omega
    have hfin := srch_of hf hR hle
    rw [← hfin]
    simp -implicitDefEqProofs only [zP, List.length_nil, List.length_cons, zQ, List.getD_eq_getElem?_getD, List.getElem?_cons_zero, ↓reduceIte, Nat.reduceEqDiff, Option.getD_some, List.nil_append, Nat.zero_add, Nat.reduceAdd, resP, tupV, List.reverse_cons, List.reverse_nil, leH, leB, keepP, liveP, wfB, wfV, wfL, List.drop_zero, List.take_nil, Bool.and_self, and_self, Nat.reduceLeDiff, Nat.le_refl, lg0, ke, lg1, ↓jr, ↓ju, ↓jz, retP_isA]
end Go.Fx.F
namespace Go.Fx.F
open Go Go.Fx Go.Proofs
set_option maxRecDepth 20000
theorem encB_drop (x : Bool) : List.drop 1 (encB x) = [] := rfl
theorem mapB_set {l : List Bool} {i : Nat} {x : Bool} : (l.map encB).set i [.v (.bool x)] = (l.set i x).map encB := by
  rw [List.map_set]; rfl
/-- The cut, zas far zas k. -/
def cutK (N : Nat) (b : List Int) (k : Nat) : List Bool := (List.range N).map fun q => decide (q < k) && (b.getD q 0 != -2)
theorem cutK_len {N : Nat} {b : List Int} {k : Nat} : (cutK N b k).length = N := by simp [cutK]
theorem cutK_zero {N : Nat} {b : List Int} : cutK N b 0 = List.replicate N false := by
  apply List.ext_getElem
  · simp [cutK]
  · intro j h1 h2; simp [cutK]
theorem cutK_set {N : Nat} {b : List Int} {k : Nat} (h : k < b.length) (hk : k < N) : (cutK N b k).set k (b[k] != -2) = cutK N b (k + 1) := by
  apply List.ext_getElem
  · simp [cutK]
  · intro j h1 h2
    simp only [cutK, List.getElem_set, List.getElem_map, List.getElem_range]
    by_cases hj : k = j
    · subst hj; simp [List.getD_eq_getElem?_getD, List.getElem?_eq_getElem h]
    · have : (j < k + 1) ↔ j < k := by omega
      simp [hj, this]
def cutOf (arcs : List Arc) (N : Nat) (f : Int) (fl : List Int) : List Bool := cutK N (srch (restA arcs fl arcs.length) N f).1 N
theorem ok38 (N m : Nat) (arcs : List Arc) (f t : Int) (r : List Int) (hm : arcs.length = m + 1) (hV : Val N arcs) (hf : 0 ≤ f ∧ f < N) (ht : 0 ≤ t ∧ t < N) (hft : f ≠ t) (hr : Run arcs N f t (List.replicate arcs.length 0) r) : Ok 38 [net N arcs, .i f, .i t] (IsA (.agg [.sl 2 0 arcs.length, .sl 14 0 N, .i 0]) [.dead, .dead, .arr 1 (r.map encI), .dead, .dead, .dead, .dead, .dead, .dead, .dead, .dead, .dead, .dead, .dead, .arr 1 ((cutOf arcs N f r).map encB)]) := by
  have hL := hV.hl
  have hN := hV.hn
  refine ok_of lw38 (by simp) ?_
  unfold c38
  simp -implicitDefEqProofs only [qF, qI, qK, qL, qO, qP, qR, qT, qU, qV, qX, zb, zq, zJ, zL, zP, ofConst, cells?, List.length_nil, List.length_cons, List.set_cons_zero, zQ, List.getD_eq_getElem?_getD, List.getElem?_cons_zero, ↓reduceIte, Nat.reduceEqDiff, Option.getD_some, zR, List.nil_append, List.cons_append, Nat.zero_add, Nat.reduceAdd, Nat.add_zero, freshP, List.map_cons, List.map_nil, true_and, List.length_map, lg0, ka, kf, lg1, kg, kj, jo, ↓jp, ↓jr, ↓ju, ↓jy, ↓jE, ↓jN, List.length_map, Int.toNat_natCast, cx0_fx, args0, net]
  intro hlm
  refine ⟨⟨⟨by omega, by omega⟩, by omega, by omega⟩, ?_⟩
  refine loopP_intro (fun fl : List Int => ⟨[(7, .sl 2 0 arcs.length), (6, .ptr 1 0 0), (3, .ptr 0 0 0), (2, .i t), (1, .i f)], [.var [.i N, .bro 4 (arcs.map Arc.enc)], .var [.nil, .nil, .i 0], .arr 1 (fl.map encI)], 0⟩) (fun fl => (fl.length = arcs.length ∧ possP arcs fl) ∧ Run arcs N f t fl r) (fun fl => ((arcs.length : Int) * 1073741824 - valTo arcs f fl arcs.length).toNat) (List.replicate arcs.length 0) ?_ ?_ ?_
  · refine ⟨⟨by simp, fun i h1 h2 => ?_⟩, hr⟩
    have := (hV.ha arcs[i] (List.getElem_mem h2)).2
    simp; omega
  · simp -implicitDefEqProofs only [zP, List.getElem?_cons_zero, ↓reduceIte, Nat.reduceEqDiff, reduceCtorEq, zZ, leE, leH, leB, leV, leVs, keepP, liveP, wfE, wfB, wfV, wfL, Bool.and_true, Bool.and_self, true_and, and_true, and_self, lg0, lg1, leVs, leV, List.map_replicate]
    rfl
  rintro fl ⟨⟨hl, hp⟩, hR⟩
  simp -implicitDefEqProofs only [qF, qI, qK, qP, qR, qV, zD, zJ, zL, zP, List.length_nil, List.length_cons, zQ, List.getD_eq_getElem?_getD, List.getElem?_cons_zero, ↓reduceIte, Nat.reduceEqDiff, Option.getD_some, List.nil_append, List.cons_append, Nat.zero_add, Nat.reduceAdd, List.map_cons, List.map_nil, List.drop_zero, List.take_nil, true_and, Nat.le_refl, ke, kf, ki, jo, ↓jr, ↓ju, ↓jz]
  have htk : List.take arcs.length (List.map encI fl) = List.map encI fl := List.take_of_length_le (by simp [hl])
  have e1 := ok33 N arcs fl hV hl hp
  rw [hm] at e1
  refine call_isA [net N arcs, li fl] _ (.agg [.i N, .sl 9 0 (2 * (m + 1))]) _ [.dead, .dead, .dead, .dead, .dead, .arr 4 (restTo arcs fl (m + 1))] e1 ?_ rfl rfl ?_
  · simp [net, li, lendsOk, lendOk, lends, lend, wkL, wk, wkB, blk, htk, hl]
  simp -implicitDefEqProofs only [qF, qI, qO, qP, qR, qU, qV, qW, zD, zJ, zK, zL, zP, ofConst, cells?, List.length_nil, List.length_cons, List.set_cons_zero, splice, zQ, List.getD_eq_getElem?_getD, List.getElem?_cons_zero, ↓reduceIte, Nat.reduceEqDiff, Option.getD_some, List.nil_append, List.cons_append, Nat.zero_add, Nat.reduceAdd, Nat.add_zero, freshP, List.map_cons, List.map_nil, List.drop_zero, List.take_zero, List.drop_nil, List.all_cons, List.all_nil, isC, Bool.and_true, Bool.and_self, true_and, and_true, and_self, List.not_mem_nil, List.length_append, not_false_eq_true, Nat.le_refl, lg0, ka, kc, ke, kf, lg1, kg, kh, ki, lg2, kk, jo, ↓jp, ↓jr, ↓ju, ↓jz, ↓jA, ↓jB, cx0_bn]
  have hS : Srch (restA arcs fl arcs.length) N f (srch (restA arcs fl arcs.length) N f) := Srch.bfs hf (rest_to hV fl) N
  have e2 := ok57 N (restA arcs fl arcs.length) f hN (by rw [restA_len]; omega) (rest_to hV fl) hf
  refine call_isA _ _ (.agg [.sl 13 0 N]) _ [.dead, .dead, .arr 1 ((srch (restA arcs fl arcs.length) N f).1.map encI)] e2 ?_ rfl rfl ?_
  · simp [net, lendsOk, lendOk, lends, lend, wkL, wk, wkB, blk, restTo_len, hm, ← restA_enc]
    exact restTo_take arcs fl (m + 1)
  simp -implicitDefEqProofs only [qE, qF, qI, qJ, qK, qL, qO, qP, qR, qU, qV, qW, qX, qY, qZ, zq, zJ, zK, zL, zM, zP, ofConst, cells?, List.length_nil, List.length_cons, List.set_cons_zero, splice, zQ, List.getD_eq_getElem?_getD, List.getElem?_cons_zero, ↓reduceIte, Nat.reduceEqDiff, Option.getD_some, zR, arrSz, zT, List.nil_append, List.cons_append, List.append_nil, Nat.zero_add, Nat.reduceAdd, Nat.add_zero, freshP, List.map_cons, List.map_nil, List.take_zero, List.drop_nil, List.all_cons, List.all_nil, isC, Bool.and_true, Bool.and_self, true_and, and_true, and_self, List.not_mem_nil, List.length_map, not_false_eq_true, Nat.le_refl, lg0, ka, kc, kf, lg1, kg, lg2, kk, lg3, kq, lg4, ky, lg5, kC, lg6, kG, lg7, kK, lg8, kO, lg9, kS, kW, kX, wb, wc, wh, wj, wq, wr, jo, ↓jp, ↓jr, ↓ju, ↓jv, ↓jy, ↓jA, ↓jB, ↓jE, ↓jG, ↓qaP, List.length_map, List.getElem_map, encI_0, Int.toNat_natCast, cx0_bn, cx0_fx, hS.len]
  simp only [br, decide_eq_true_eq, decide_eq_false_iff_not, beq_iff_eq, beq_eq_false_iff_ne]
  refine ⟨⟨by omega, by omega⟩, by omega, fun hb => ?_, fun hb => ?_⟩
  · have hrn : round arcs N f t fl = none := by
      unfold round
      rw [if_pos]
      rw [List.getD_eq_getElem?_getD, List.getElem?_eq_getElem (by rw [hS.len]; omega)]
      exact hb
    have hrr : r = fl := hR.det (.stop hrn)
    subst hrr
    refine ⟨by omega, ?_⟩
    refine loopP_intro (fun k : Nat => ⟨[(11, .i k), (10, .sl 14 0 N), (9, .ptr 10 0 0), (7, .sl 2 0 arcs.length), (6, .ptr 1 0 0), (3, .ptr 0 0 0)], [.var [.i N, .bro 4 (arcs.map Arc.enc)], .var [.nil, .nil, .i 0], .arr 1 (r.map encI), .dead, .dead, .dead, .dead, .dead, .dead, .dead, .var [.sl 13 0 N], .dead, .dead, .arr 1 ((srch (restA arcs r arcs.length) N f).1.map encI), .arr 1 ((cutK N (srch (restA arcs r arcs.length) N f).1 k).map encB)], 0⟩) (fun k => k ≤ N) (fun k => N - k) 0 (by simp) ?_ ?_
    · simp -implicitDefEqProofs only [zP, List.getElem?_cons_zero, ↓reduceIte, Nat.reduceEqDiff, zZ, leE, leH, leB, leV, leVs, keepP, liveP, wfE, wfB, wfV, wfL, Bool.and_true, Bool.and_self, true_and, and_true, and_self, lg0, lg1, lg2, lg3, lg4, lg5, lg6, lg7, lg8, lg9, kW, wb, wh, wq, leVs, leV, Int.natCast_zero, cutK_zero, List.map_replicate]
      rfl
    intro k hk
    simp -implicitDefEqProofs only [qE, qF, qI, qJ, qK, qM, qN, qO, qP, qR, qV, qW, qX, qY, qZ, zk, zJ, zK, zL, zM, zP, ofConst, cells?, List.length_nil, List.length_cons, List.set_cons_zero, splice, zQ, List.getD_eq_getElem?_getD, List.getElem?_cons_zero, ↓reduceIte, Nat.reduceEqDiff, Option.getD_some, zR, arrSz, zT, List.nil_append, List.cons_append, List.append_nil, Nat.zero_add, Nat.reduceAdd, Nat.add_zero, buildP, resP, tupV, List.reverse_cons, List.reverse_nil, zZ, leE, leH, leB, leV, leVs, keepP, liveP, wfE, wfB, wfV, wfL, List.map_cons, List.map_nil, List.drop_zero, List.take_zero, List.take_nil, List.drop_nil, List.all_cons, List.all_nil, isD, isC, Bool.and_true, Bool.and_self, true_and, and_true, and_self, V.v.injEq, Value.int.injEq, Value.bool.injEq, List.not_mem_nil, List.length_append, List.length_map, not_false_eq_true, Nat.reduceLeDiff, Nat.le_refl, lg0, ka, kc, ke, lg1, kg, kh, ki, lg2, kk, kn, ko, lg3, kq, lg4, ky, lg5, kC, lg6, kG, lg7, kK, lg8, kO, lg9, kS, kW, kX, wb, wc, wh, wj, wq, wr, jo, ↓jp, ↓jr, ↓ju, ↓jv, ↓jy, ↓jz, ↓jA, ↓jB, ↓jC, ↓jE, ↓jG, ↓qaJ, ↓qaQ, ↓qaR, List.length_map, List.getElem_map, encI_0, Int.toNat_natCast, cx0_bn, mapB_set, encB_drop, hS.len, cutK_len, retP_isA, leVs, leV]
    simp only [br, decide_eq_true_eq, decide_eq_false_iff_not]
    refine ⟨fun h => ⟨⟨by omega, h⟩, by omega, ⟨by omega, h⟩, by omega, by simp only [lo, hi]; omega, k + 1, by omega, by simp, ?_⟩, fun h => ?_⟩
    · rw [cutK_set (by rw [hS.len]; omega) (by omega)]
    · have : k = N := by omega
      rw [this, cutOf]
  · have htm : t ∈ (srch (restA arcs fl arcs.length) N f).2 := by
      have := (hS.mem t.toNat (by omega)).1 (by rw [List.getD_eq_getElem?_getD, List.getElem?_eq_getElem (by rw [hS.len]; omega)]; exact hb)
      rwa [Int.toNat_of_nonneg ht.1] at this
    obtain ⟨j0, hj0, hjt⟩ := List.getElem_of_mem htm
    have hjt : (srch (restA arcs fl arcs.length) N f).2[j0]? = some t := by rw [List.getElem?_eq_getElem hj0, hjt]
    refine loopP_intro (fun g : Nat × Int × Int => ⟨[(13, .i g.2.1), (12, .i g.2.2), (9, .ptr 10 0 0), (8, .ptr 3 0 0), (7, .sl 2 0 arcs.length), (6, .ptr 1 0 0), (3, .ptr 0 0 0), (2, .i t), (1, .i f)], [.var [.i N, .bro 4 (arcs.map Arc.enc)], .var [.nil, .nil, .i 0], .arr 1 (fl.map encI), .var [.i N, .sl 9 0 (2 * (m + 1))], .dead, .dead, .dead, .dead, .dead, .arr 4 ((restA arcs fl (m + 1)).map Arc.enc), .var [.sl 13 0 N], .dead, .dead, .arr 1 ((srch (restA arcs fl arcs.length) N f).1.map encI)], 0⟩)
      (fun g => (srch (restA arcs fl arcs.length) N f).2[g.1]? = some g.2.1 ∧ leastOf (restA arcs fl arcs.length) (walk (restA arcs fl arcs.length) (srch (restA arcs fl arcs.length) N f) g.1 g.2.1) g.2.2 = leastOf (restA arcs fl arcs.length) (walk (restA arcs fl arcs.length) (srch (restA arcs fl arcs.length) N f) j0 t) 1073741824) (fun g => g.1) (j0, t, 1073741824) ⟨hjt, rfl⟩ ?_ ?_
    · simp -implicitDefEqProofs only [zP, List.getElem?_cons_zero, ↓reduceIte, Nat.reduceEqDiff, zZ, leE, leH, leB, leV, leVs, keepP, liveP, wfE, wfB, wfV, wfL, Bool.and_self, and_self, lg0, lg1, lg2, lg3, lg4, lg5, lg6, lg7, lg8, lg9, kW, wb, wh, leVs, leV, restA_enc]
    rintro ⟨j, v, c⟩ ⟨hjv, hle⟩
    simp only at hjv hle
    have hvr := hS.rng v (List.mem_of_getElem? hjv)
    rcases hS.pos hjv with ⟨rfl, rfl⟩ | ⟨hj, _⟩
    · have hby : (srch (restA arcs fl arcs.length) N v).1[v.toNat]'(by rw [hS.len]; omega) = -1 := by
        have := hS.root.2
        rwa [List.getD_eq_getElem?_getD, List.getElem?_eq_getElem (by rw [hS.len]; omega)] at this
      have hdf : decide ((0 : Int) ≤ -1) = false := rfl
      simp -implicitDefEqProofs only [qE, qF, qH, qI, qJ, qK, qL, qM, qO, qP, qR, qV, qX, qY, qZ, zg, zJ, zL, zM, zP, ofConst, List.length_nil, List.length_cons, zQ, List.getD_eq_getElem?_getD, List.getElem?_cons_zero, ↓reduceIte, Nat.reduceEqDiff, Option.getD_some, zR, arrSz, zT, ↓zV, List.append_nil, Nat.zero_add, Nat.reduceAdd, Nat.add_zero, zZ, leE, leH, leB, leV, leVs, keepP, liveP, wfE, wfB, wfV, wfL, Bool.and_true, Bool.and_self, true_and, and_true, and_self, V.v.injEq, Value.int.injEq, Value.bool.injEq, List.length_map, Bool.false_eq_true, lg0, lg1, lg2, lg3, lg4, lg5, lg6, lg7, lg8, lg9, kW, wb, wh, jo, ↓jp, ↓jr, ↓ju, ↓jv, ↓jy, ↓jE, ↓jG, ↓qaU, List.length_map, List.getElem_map, enc_0, enc_2, encI_0, cx0_fx, hS.len, hby, hdf]
      refine ⟨hf, by omega, ?_⟩
      have hc : c = leastOf (restA arcs fl arcs.length) (walk (restA arcs fl arcs.length) (srch (restA arcs fl arcs.length) N v) j0 t) 1073741824 := hle
      have hj0N : j0 ≤ N := by
        have := nodup_le N hS.nod hS.rng
        omega
      have hround : round arcs N v t fl = some (pushAll c fl (walk (restA arcs fl arcs.length) (srch (restA arcs fl arcs.length) N v) j0 t)) := by
        unfold round
        rw [if_neg (by rw [List.getD_eq_getElem?_getD, List.getElem?_eq_getElem (by rw [hS.len]; omega)]; exact hb), walk_fuel hS j0 t N hjt hj0N, ← hc]
      have ha := walk_arcs hS j0 t hjt
      have hh := walk_halves arcs N v fl hS j0 t hjt
      have hcb := leastOf_le (restA arcs fl arcs.length) (walk (restA arcs fl arcs.length) (srch (restA arcs fl arcs.length) N v) j0 t) 1073741824
      have hcp := leastOf_pos (restA arcs fl arcs.length) (walk (restA arcs fl arcs.length) (srch (restA arcs fl arcs.length) N v) j0 t) 1073741824 (by omega) (fun i hi => (ha i hi).2.1)
      rw [← hc] at hcb hcp
      generalize hW : walk (restA arcs fl arcs.length) (srch (restA arcs fl arcs.length) N v) j0 t = W at hround ha hh hcb
      refine loopP_intro (fun g : Nat × Int × List Nat => ⟨[(14, .i g.2.1), (12, .i c), (9, .ptr 10 0 0), (8, .ptr 3 0 0), (7, .sl 2 0 arcs.length), (6, .ptr 1 0 0), (3, .ptr 0 0 0), (2, .i t), (1, .i v)], [.var [.i N, .bro 4 (arcs.map Arc.enc)], .var [.nil, .nil, .i 0], .arr 1 ((pushAll c fl g.2.2).map encI), .var [.i N, .sl 9 0 (2 * (m + 1))], .dead, .dead, .dead, .dead, .dead, .arr 4 ((restA arcs fl (m + 1)).map Arc.enc), .var [.sl 13 0 N], .dead, .dead, .arr 1 ((srch (restA arcs fl arcs.length) N v).1.map encI)], 0⟩)
        (fun g => (srch (restA arcs fl arcs.length) N v).2[g.1]? = some g.2.1 ∧ W = g.2.2 ++ walk (restA arcs fl arcs.length) (srch (restA arcs fl arcs.length) N v) g.1 g.2.1) (fun g => g.1) (j0, t, []) ⟨hjt, by rw [hW]; rfl⟩ ?_ ?_
      · simp -implicitDefEqProofs only [zP, List.getElem?_cons_zero, ↓reduceIte, Nat.reduceEqDiff, zZ, leE, leH, leB, leV, leVs, keepP, liveP, wfE, wfB, wfV, wfL, Bool.and_self, and_self, lg0, lg1, lg2, lg3, lg4, lg5, lg6, lg7, lg8, lg9, kW, wb, wh, leVs, leV, pushAll, List.foldl_nil]
      rintro ⟨j, v2, p1⟩ ⟨hjv2, hw⟩
      simp only at hjv2 hw
      have hvr2 := hS.rng v2 (List.mem_of_getElem? hjv2)
      rcases hS.pos hjv2 with ⟨rfl, rfl⟩ | ⟨hj, _⟩
      · simp -implicitDefEqProofs only [qE, qF, qH, qI, qJ, qK, qM, qO, qP, qR, qV, qW, qX, qY, qZ, zJ, zK, zL, zM, zP, ofConst, cells?, List.length_nil, List.length_cons, List.set_cons_zero, splice, zQ, List.getD_eq_getElem?_getD, List.getElem?_cons_zero, ↓reduceIte, Nat.reduceEqDiff, Option.getD_some, zR, arrSz, zT, ↓zV, List.nil_append, List.append_nil, Nat.zero_add, Nat.reduceAdd, Nat.add_zero, zZ, leE, leH, leB, leV, leVs, keepP, liveP, wfE, wfB, wfV, wfL, List.take_zero, List.all_cons, List.all_nil, isD, isC, Bool.and_true, Bool.and_self, true_and, and_true, and_self, V.v.injEq, Value.int.injEq, Value.bool.injEq, List.not_mem_nil, List.length_map, not_false_eq_true, Nat.le_refl, lg0, ka, lg1, kg, lg2, lg3, lg4, lg5, lg6, lg7, lg8, lg9, kW, wb, wh, jo, ↓jp, ↓jr, ↓ju, ↓jv, ↓jy, ↓jA, ↓jC, ↓jE, ↓jG, ↓qaJ, ↓qaL, ↓qaP, ↓qaU, ↓qaV, ↓qaX, List.length_map, List.getElem_map, enc_0, encI_0, encI_drop, cx0_bn, hS.len, hby, hdf]
        rw [walk_root hS, List.append_nil] at hw
        subst hw
        obtain ⟨q1, q2, d, q3, q4⟩ := round_ok hV hf ht hl hp hround
        refine ⟨hf, by omega, pushAll c fl W, ⟨⟨⟨q1, q2⟩, ?_⟩, ?_⟩, rfl⟩
        · cases hR with
          | stop h => rw [h] at hround; simp at hround
          | go h h2 => rw [h] at hround; simp only [Option.some.injEq] at hround; rw [← hround]; exact h2
        · have := q4 v2
          rw [if_pos rfl, if_neg (fun h => hft h.symm)] at this
          have hb2 := valTo_bound arcs v2 (pushAll c fl W) (hV.flow q1 q2) arcs.length
          omega
      · cases j with
        | zero => omega
        | succ j =>
        obtain ⟨i, h1, h2, h3, h4, ⟨j', h5, h6⟩, h7⟩ := walk_step hS (by omega) hjv2 j
        have hby2 : (srch (restA arcs fl arcs.length) N v).1[v2.toNat]'(by rw [hS.len]; omega) = (i : Int) := by
          rwa [List.getD_eq_getElem?_getD, List.getElem?_eq_getElem (by rw [hS.len]; omega)] at h2
        have hdt : decide ((0 : Int) ≤ (i : Int)) = true := by simp
        have hmod : (i : Int).tmod 2 = ((i % 2 : Nat) : Int) := by rw [Int.tmod_eq_emod_of_nonneg (by omega)]; omega
        have hdiv : (i : Int).tdiv 2 = ((i / 2 : Nat) : Int) := by rw [Int.tdiv_eq_ediv_of_nonneg (by omega)]; omega
        have hrl := h1
        rw [restA_len] at hrl
        have hq : i / 2 < arcs.length := by omega
        have hcl : (pushAll c fl p1).length = arcs.length := by rw [pushAll_len, hl]
        have hgi : gA (restA arcs fl arcs.length) i = (restA arcs fl (m + 1))[i]'(by rw [restA_len]; omega) := by
          rw [hm]; exact getD_nil (a := ⟨0,0,0,0⟩) (by rw [restA_len]; omega)
        have hp1 : (p1.map (· / 2)).Nodup := by
          rw [hw, List.map_append] at hh
          exact (List.nodup_append.1 hh).1
        have hval := pushAll_get (d := c) (fl := fl) hp1 (fun i2 hi2 => by
          have := (ha i2 (by rw [hw]; exact List.mem_append_left _ hi2)).1
          rw [restA_len] at this; omega) (i / 2)
        have hvq := (poss_iff hl).1 hp (i / 2) hq
        have hcap := (hV.ha arcs[i / 2] (List.getElem_mem hq)).2
        rw [getD_nil (a := ⟨0,0,0,0⟩) hq] at hvq
        have hbd : -1073741824 ≤ (pushAll c fl p1).getD (i / 2) 0 ∧ (pushAll c fl p1).getD (i / 2) 0 ≤ 2147483648 := by
          rw [hval]
          split <;> split <;> omega
        have hge : (pushAll c fl p1).getD (i / 2) 0 = (pushAll c fl p1)[i / 2]'(by rw [hcl]; omega) := by
          rw [List.getD_eq_getElem?_getD, List.getElem?_eq_getElem (by rw [hcl]; omega)]; rfl
        simp -implicitDefEqProofs only [qE, qF, qH, qI, qJ, qK, qM, qO, qP, qR, qV, qW, qX, qY, qZ, zJ, zK, zL, zM, zP, ofConst, cells?, List.length_nil, List.length_cons, List.set_cons_zero, splice, zQ, List.getD_eq_getElem?_getD, List.getElem?_cons_zero, ↓reduceIte, Nat.reduceEqDiff, Option.getD_some, zR, arrSz, zT, ↓zU, List.nil_append, List.append_nil, Nat.zero_add, Nat.reduceAdd, Nat.add_zero, zZ, leE, leH, leB, leV, leVs, keepP, liveP, wfE, wfB, wfV, wfL, List.take_zero, List.all_cons, List.all_nil, isD, isC, Bool.and_true, Bool.and_self, true_and, and_true, and_self, V.v.injEq, Value.int.injEq, Value.bool.injEq, List.not_mem_nil, List.length_map, not_false_eq_true, Nat.le_refl, lg0, ka, lg1, kg, lg2, lg3, lg4, lg5, lg6, lg7, lg8, lg9, kW, wb, wh, jo, ↓jp, ↓jr, ↓ju, ↓jv, ↓jy, ↓jA, ↓jC, ↓jE, ↓jG, ↓qaJ, ↓qaL, ↓qaP, ↓qaU, ↓qaV, ↓qaX, List.length_map, List.getElem_map, enc_0, encI_0, Int.toNat_natCast, encI_drop, cx0_bn, hS.len, hby2, hdt, hmod, hdiv, mapI_set, hcl]
        simp only [br, beq_iff_eq, beq_eq_false_iff_ne]
        rw [hge] at hbd
        have hstep : pushAll c fl (p1 ++ [i]) = push1 c (pushAll c fl p1) i := by simp [pushAll, List.foldl_append]
        have hwn : W = (p1 ++ [i]) ++ walk (restA arcs fl arcs.length) (srch (restA arcs fl arcs.length) N v) j' (gA (restA arcs fl arcs.length) i).from_ := by
          rw [hw, h7, walk_fuel hS j' _ j h6 (by omega)]; simp
        have hi1 : i < 2 * (m + 1) := by omega
        refine ⟨hvr2, by omega, hvr2, by omega, by omega, fun hpar => ?_, fun hpar => ?_⟩
        · refine ⟨by omega, ⟨by simp only [lo]; omega, by simp only [hi]; omega⟩, by omega, ⟨by simp only [lo]; omega, by simp only [hi]; omega⟩, ⟨by omega, by omega⟩, hq, ⟨by simp only [lo]; omega, by simp only [hi]; omega⟩, ⟨by omega, by omega⟩, hq, hvr2, by omega, ⟨by omega, by omega⟩, by rw [restA_len]; exact hi1, (j', (gA (restA arcs fl arcs.length) i).from_, p1 ++ [i]), ⟨⟨h6, hwn⟩, h5⟩, by rw [hgi], ?_⟩
          simp only [hstep, push1]
          rw [if_pos (by omega), hge]
        · refine ⟨by omega, ⟨by simp only [lo]; omega, by simp only [hi]; omega⟩, by omega, ⟨by simp only [lo]; omega, by simp only [hi]; omega⟩, ⟨by omega, by omega⟩, hq, ⟨by simp only [lo]; omega, by simp only [hi]; omega⟩, ⟨by omega, by omega⟩, hq, hvr2, by omega, ⟨by omega, by omega⟩, by rw [restA_len]; exact hi1, (j', (gA (restA arcs fl arcs.length) i).from_, p1 ++ [i]), ⟨⟨h6, hwn⟩, h5⟩, by rw [hgi], ?_⟩
          simp only [hstep, push1]
          rw [if_neg (by omega), hge]
    · cases j with
      | zero => omega
      | succ j =>
      obtain ⟨i, h1, h2, h3, h4, ⟨j', h5, h6⟩, h7⟩ := walk_step hS (by omega) hjv j
      have hby : (srch (restA arcs fl arcs.length) N f).1[v.toNat]'(by rw [hS.len]; omega) = (i : Int) := by
        rwa [List.getD_eq_getElem?_getD, List.getElem?_eq_getElem (by rw [hS.len]; omega)] at h2
      have hdt : decide ((0 : Int) ≤ (i : Int)) = true := by simp
      simp -implicitDefEqProofs only [qE, qF, qH, qI, qJ, qK, qL, qM, qO, qP, qR, qV, qX, qY, qZ, zg, zJ, zL, zM, zP, ofConst, List.length_nil, List.length_cons, zQ, List.getD_eq_getElem?_getD, List.getElem?_cons_zero, ↓reduceIte, Nat.reduceEqDiff, Option.getD_some, zR, arrSz, zT, ↓zU, List.append_nil, Nat.zero_add, Nat.reduceAdd, Nat.add_zero, zZ, leE, leH, leB, leV, leVs, keepP, liveP, wfE, wfB, wfV, wfL, Bool.and_true, Bool.and_self, true_and, and_true, and_self, V.v.injEq, Value.int.injEq, Value.bool.injEq, List.length_map, Bool.false_eq_true, lg0, lg1, lg2, lg3, lg4, lg5, lg6, lg7, lg8, lg9, kW, wb, wh, jo, ↓jp, ↓jr, ↓ju, ↓jv, ↓jy, ↓jE, ↓jG, ↓qaU, List.length_map, List.getElem_map, enc_0, enc_2, encI_0, Int.toNat_natCast, cx0_fx, hS.len, hby, hdt]
      have hrl := h1
      rw [restA_len, hm] at hrl
      have hgi : gA (restA arcs fl arcs.length) i = (restA arcs fl (m + 1))[i]'(by rw [restA_len]; omega) := by
        rw [hm]; exact getD_nil (a := ⟨0,0,0,0⟩) (by rw [restA_len]; omega)
      refine ⟨hvr, by omega, hvr, by omega, ⟨by omega, by omega⟩, by rw [restA_len]; omega, hvr, by omega, ⟨by omega, by omega⟩, by rw [restA_len]; omega, (j', (gA (restA arcs fl arcs.length) i).from_, min c (gA (restA arcs fl arcs.length) i).cap), ⟨⟨h6, ?_⟩, h5⟩, ?_, ?_⟩
      · simp only
        rw [← hle, h7, walk_fuel hS j' _ j h6 (by omega)]
        rfl
      · rw [hgi]
      · rw [hgi]
end Go.Fx.F
namespace Go.Fx.F
open Go Go.Fx Go.Proofs
set_option maxRecDepth 20000
theorem ok38z (N : Nat) (f t : Int) (hV : Val N []) (hf : 0 ≤ f ∧ f < N) (ht : 0 ≤ t ∧ t < N) (hft : f ≠ t) : Ok 38 [net N [], .i f, .i t] (IsA (.agg [.sl 2 0 0, .sl 8 0 N, .i 0]) [.dead, .dead, .arr 1 [], .dead, .dead, .dead, .dead, .dead, .arr 1 ((cutOf [] N f []).map encB)]) := by
  have hN := hV.hn
  refine ok_of lw38 (by simp) ?_
  unfold c38
  simp -implicitDefEqProofs only [qF, qI, qK, qL, qO, qP, qR, qT, qU, qV, qX, zb, zq, zJ, zL, zP, ofConst, cells?, List.length_nil, List.length_cons, List.set_cons_zero, zQ, List.getD_eq_getElem?_getD, List.getElem?_cons_zero, ↓reduceIte, Nat.reduceEqDiff, Option.getD_some, zR, List.nil_append, List.cons_append, Nat.zero_add, Nat.reduceAdd, Nat.add_zero, freshP, List.map_cons, List.map_nil, Bool.and_self, true_and, and_self, lg0, ka, kf, lg1, kg, kj, jo, ↓jp, ↓jr, ↓ju, ↓jy, ↓jE, ↓jN, cx0_fx, args0, net, List.map_nil, Int.natCast_zero, Int.toNat_zero]
  refine fun hlm => ⟨⟨by omega, by omega⟩, ?_⟩
  refine loopP_intro (fun _ : Unit => ⟨[(7, .sl 2 0 0), (6, .ptr 1 0 0), (3, .ptr 0 0 0), (2, .i t), (1, .i f)], [.var [.i N, .bro 4 []], .var [.nil, .nil, .i 0], .arr 1 []], 0⟩) (fun _ => True) (fun _ => 0) () trivial ?_ ?_
  · simp -implicitDefEqProofs only [zP, List.getElem?_cons_zero, ↓reduceIte, Nat.reduceEqDiff, reduceCtorEq, zZ, leE, leH, leB, leV, leVs, keepP, liveP, wfE, wfB, wfV, wfL, Bool.and_self, and_self, lg0, lg1, leVs, leV]
  rintro _ _
  simp -implicitDefEqProofs only [qF, qI, qK, qP, qR, qV, zD, zJ, zL, zP, List.length_nil, List.length_cons, zQ, List.getD_eq_getElem?_getD, List.getElem?_cons_zero, ↓reduceIte, Nat.reduceEqDiff, Option.getD_some, List.nil_append, List.cons_append, Nat.zero_add, Nat.reduceAdd, List.map_cons, List.map_nil, List.drop_zero, List.take_nil, true_and, Nat.reduceLT, Nat.le_refl, ke, kf, ki, jo, ↓jr, ↓ju, ↓jz]
  have e1 := ok33 N [] [] hV rfl (fun i h1 h2 => by simp at h1)
  refine call_isA [net N [], li []] _ (.agg [.i N, .nil]) _ [] e1 ?_ rfl rfl ?_
  · simp [net, li, lendsOk, lendOk, lends, lend, wkL, wk, wkB, blk]
  simp -implicitDefEqProofs only [qF, qI, qO, qP, qR, qU, qV, qW, zD, zJ, zK, zL, zP, ofConst, cells?, List.length_nil, List.length_cons, List.set_cons_zero, splice, zQ, List.getD_eq_getElem?_getD, List.getElem?_cons_zero, ↓reduceIte, Nat.reduceEqDiff, Option.getD_some, List.nil_append, List.cons_append, List.append_nil, Nat.zero_add, Nat.reduceAdd, Nat.add_zero, freshP, List.map_cons, List.map_nil, List.drop_zero, List.take_zero, List.drop_nil, List.all_cons, List.all_nil, isC, Bool.and_true, Bool.and_self, true_and, and_true, and_self, List.not_mem_nil, List.length_append, not_false_eq_true, Nat.le_refl, lg0, ka, kc, ke, kf, lg1, kg, kh, ki, lg2, kk, jo, ↓jp, ↓jr, ↓ju, ↓jz, ↓jA, ↓jB, cx0_bn]
  have hrest : ∀ i, i < ([] : List Arc).length → 0 ≤ (gA [] i).to ∧ (gA [] i).to < N := fun i h => by simp at h
  have hS : Srch [] N f (srch [] N f) := Srch.bfs hf hrest N
  have e2 := ok57 N [] f hN (by simp) hrest hf
  refine call_isA _ _ (.agg [.sl 7 0 N]) _ [.dead, .dead, .arr 1 ((srch [] N f).1.map encI)] e2 ?_ rfl rfl ?_
  · simp [net, lendsOk, lendOk, lends, lend, wkL, wk, wkB, blk]
  have hb : (srch [] N f).1[t.toNat]'(by rw [hS.len]; omega) = -2 := by
    apply Classical.byContradiction
    intro hb
    have htm : t ∈ (srch [] N f).2 := by
      have := (hS.mem t.toNat (by omega)).1 (by rw [List.getD_eq_getElem?_getD, List.getElem?_eq_getElem (by rw [hS.len]; omega)]; exact hb)
      rwa [Int.toNat_of_nonneg ht.1] at this
    obtain ⟨j, hj, hjt⟩ := List.getElem_of_mem htm
    have hjt : (srch [] N f).2[j]? = some t := by rw [List.getElem?_eq_getElem hj, hjt]
    rcases hS.pos hjt with ⟨_, h⟩ | ⟨h, _⟩
    · exact hft h.symm
    · obtain ⟨i, h1, _⟩ := hS.par j t h hjt
      simp at h1
  have hbt : (((-2 : Int)) == -2) = true := rfl
  simp -implicitDefEqProofs only [qE, qF, qI, qJ, qK, qL, qO, qP, qR, qU, qV, qW, qX, qY, qZ, zq, zJ, zK, zL, zM, zP, ofConst, cells?, List.length_nil, List.length_cons, List.set_cons_zero, splice, zQ, List.getD_eq_getElem?_getD, List.getElem?_cons_zero, ↓reduceIte, Nat.reduceEqDiff, Option.getD_some, zR, arrSz, zT, ↓zU, List.nil_append, List.cons_append, List.append_nil, Nat.zero_add, Nat.reduceAdd, Nat.add_zero, freshP, List.map_cons, List.map_nil, List.take_zero, List.drop_nil, List.all_cons, List.all_nil, isC, Bool.and_true, Bool.and_self, true_and, and_true, and_self, List.not_mem_nil, List.length_map, not_false_eq_true, Nat.le_refl, lg0, ka, kc, kf, lg1, kg, lg2, kk, lg3, kq, lg4, ky, lg5, kC, lg6, kG, lg7, kK, jo, ↓jp, ↓jr, ↓ju, ↓jv, ↓jy, ↓jA, ↓jB, ↓jE, ↓jG, ↓qaP, List.length_map, List.getElem_map, encI_0, Int.toNat_natCast, cx0_bn, cx0_fx, hS.len, hb, hbt]
  refine ⟨ht, by omega, by omega, ?_⟩
  refine loopP_intro (fun k : Nat => ⟨[(11, .i k), (10, .sl 8 0 N), (9, .ptr 4 0 0), (7, .sl 2 0 0), (6, .ptr 1 0 0), (3, .ptr 0 0 0)], [.var [.i N, .bro 4 []], .var [.nil, .nil, .i 0], .arr 1 [], .dead, .var [.sl 7 0 N], .dead, .dead, .arr 1 ((srch [] N f).1.map encI), .arr 1 ((cutK N (srch [] N f).1 k).map encB)], 0⟩) (fun k => k ≤ N) (fun k => N - k) 0 (by simp) ?_ ?_
  · simp -implicitDefEqProofs only [zP, List.getElem?_cons_zero, ↓reduceIte, Nat.reduceEqDiff, zZ, leE, leH, leB, leV, leVs, keepP, liveP, wfE, wfB, wfV, wfL, Bool.and_true, Bool.and_self, true_and, and_true, and_self, lg0, lg1, lg2, lg3, lg4, lg5, lg6, lg7, leVs, leV, Int.natCast_zero, cutK_zero, List.map_replicate]
    rfl
  intro k hk
  simp -implicitDefEqProofs only [qE, qF, qI, qJ, qK, qM, qN, qO, qP, qR, qV, qW, qX, qY, qZ, zk, zJ, zK, zL, zM, zP, ofConst, cells?, List.length_nil, List.length_cons, List.set_cons_zero, splice, zQ, List.getD_eq_getElem?_getD, List.getElem?_cons_zero, ↓reduceIte, Nat.reduceEqDiff, Option.getD_some, zR, arrSz, zT, List.nil_append, List.cons_append, List.append_nil, Nat.zero_add, Nat.reduceAdd, Nat.add_zero, buildP, resP, tupV, List.reverse_cons, List.reverse_nil, zZ, leE, leH, leB, leV, leVs, keepP, liveP, wfE, wfB, wfV, wfL, List.map_cons, List.map_nil, List.drop_zero, List.take_zero, List.take_nil, List.drop_nil, List.all_cons, List.all_nil, isD, isC, Bool.and_true, Bool.and_self, true_and, and_true, and_self, V.v.injEq, Value.int.injEq, Value.bool.injEq, List.not_mem_nil, List.length_append, List.length_map, not_false_eq_true, Nat.reduceLeDiff, Nat.le_refl, lg0, ka, kc, ke, lg1, kg, kh, ki, lg2, kk, kn, ko, lg3, kq, lg4, ky, lg5, kC, lg6, kG, lg7, kK, jo, ↓jp, ↓jr, ↓ju, ↓jv, ↓jy, ↓jz, ↓jA, ↓jB, ↓jC, ↓jE, ↓jG, ↓qaJ, ↓qaQ, ↓qaR, List.length_map, List.getElem_map, encI_0, Int.toNat_natCast, cx0_bn, mapB_set, encB_drop, hS.len, cutK_len, retP_isA, leVs, leV]
  simp only [br, decide_eq_true_eq, decide_eq_false_iff_not]
  refine ⟨fun h => ⟨⟨by omega, h⟩, by omega, ⟨by omega, h⟩, by omega, by simp only [lo, hi]; omega, k + 1, by omega, by simp, ?_⟩, fun h => ?_⟩
  · rw [cutK_set (by rw [hS.len]; omega) (by omega)]
  · have : k = N := by omega
    rw [this]; rfl
end Go.Fx.F
namespace Go.Fx.F
open Go Go.Fx Go.Proofs
set_option maxRecDepth 20000
theorem ok12n (n : Int) (arcs : List Arc) (f t : Int) (he : endsB n f t = false) : Ok 12 [net n arcs, .i f, .i t] (IsA (.agg [.nil, .nil, .i 1]) []) := by
  refine ok_of lw12 (by simp) ?_
  unfold c12
  simp -implicitDefEqProofs only [qF, qI, qO, qP, qR, qT, qU, qV, zD, zJ, zL, zP, ofConst, cells?, List.length_nil, List.length_cons, List.set_cons_zero, zQ, List.getD_eq_getElem?_getD, List.getElem?_cons_zero, ↓reduceIte, Nat.reduceEqDiff, Option.getD_some, List.nil_append, List.append_nil, Nat.zero_add, Nat.reduceAdd, Nat.add_zero, reduceCtorEq, freshP, List.map_cons, List.map_nil, List.drop_zero, List.take_nil, true_and, Nat.le_refl, lg0, ka, ke, kf, ki, kj, jo, ↓jp, ↓jr, ↓ju, ↓jz, args0, net]
  refine call_is (ok37 n arcs f t) ?_ rfl ?_
  · simp [net, lendsOk, lendOk, lends, lend, wkL, wk, wkB, pos]
  simp -implicitDefEqProofs only [qF, qI, qJ, qN, qO, qP, qW, zd, zk, zJ, zK, zL, zM, zP, ofConst, cells?, List.length_nil, List.length_cons, List.set_cons_zero, splice, zQ, List.getD_eq_getElem?_getD, List.getElem?_cons_zero, ↓reduceIte, Nat.reduceEqDiff, Option.getD_some, zS, zT, Bool.not_false, ↓zU, List.nil_append, List.cons_append, List.append_nil, Nat.zero_add, Nat.reduceAdd, Nat.add_zero, buildP, resP, tupV, List.reverse_cons, List.reverse_nil, leH, keepP, wfB, wfV, wfL, List.map_cons, List.map_nil, List.drop_zero, List.take_zero, List.take_nil, List.drop_nil, List.all_cons, List.all_nil, isC, Bool.and_true, Bool.and_self, true_and, and_true, and_self, List.not_mem_nil, List.length_append, not_false_eq_true, Nat.le_refl, lg0, ka, kc, ke, kh, ki, kn, ko, jo, ↓jp, ↓jr, ↓ju, ↓jz, ↓jA, ↓jB, cx0_bn, he, retP_isA]
theorem ok12 (N m : Nat) (arcs : List Arc) (f t : Int) (r : List Int) (hm : arcs.length = m + 1) (hV : Val N arcs) (he : endsB N f t = true) (hr : Run arcs N f t (List.replicate arcs.length 0) r) : Ok 12 [net N arcs, .i f, .i t] (IsA (.agg [.sl 4 0 arcs.length, .sl 16 0 N, .i 0]) [.dead, .dead, .dead, .dead, .arr 1 (r.map encI), .dead, .dead, .dead, .dead, .dead, .dead, .dead, .dead, .dead, .dead, .dead, .arr 1 ((cutOf arcs N f r).map encB)]) := by
  have hE : (0 ≤ f ∧ f < N) ∧ (0 ≤ t ∧ t < N) ∧ f ≠ t := by simpa [endsB] using he
  refine ok_of lw12 (by simp) ?_
  unfold c12
  simp -implicitDefEqProofs only [qF, qI, qO, qP, qR, qT, qU, qV, zD, zJ, zL, zP, ofConst, cells?, List.length_nil, List.length_cons, List.set_cons_zero, zQ, List.getD_eq_getElem?_getD, List.getElem?_cons_zero, ↓reduceIte, Nat.reduceEqDiff, Option.getD_some, List.nil_append, List.append_nil, Nat.zero_add, Nat.reduceAdd, Nat.add_zero, reduceCtorEq, freshP, List.map_cons, List.map_nil, List.drop_zero, List.take_nil, true_and, Nat.le_refl, lg0, ka, ke, kf, ki, kj, jo, ↓jp, ↓jr, ↓ju, ↓jz, args0, net]
  refine call_is (ok37 N arcs f t) ?_ rfl ?_
  · simp [net, lendsOk, lendOk, lends, lend, wkL, wk, wkB, pos]
  simp -implicitDefEqProofs only [qE, qF, qI, qJ, qO, qP, qR, qV, zd, zD, zJ, zL, zP, List.length_nil, List.length_cons, zQ, List.getD_eq_getElem?_getD, List.getElem?_cons_zero, ↓reduceIte, Nat.reduceEqDiff, Option.getD_some, zS, zT, Bool.not_true, ↓zV, List.append_nil, Nat.zero_add, Nat.reduceAdd, reduceCtorEq, List.map_cons, List.map_nil, List.drop_zero, List.take_nil, true_and, Nat.le_refl, ke, ki, jo, ↓jr, ↓ju, ↓jz, he]
  refine call_isA [net N arcs, .i f, .i t] _ (.agg [.sl 4 0 arcs.length, .sl 16 0 N, .i 0]) _ [.dead, .dead, .arr 1 (r.map encI), .dead, .dead, .dead, .dead, .dead, .dead, .dead, .dead, .dead, .dead, .dead, .arr 1 ((cutOf arcs N f r).map encB)] (ok38 N m arcs f t r hm hV hE.1 hE.2.1 hE.2.2 hr) ?_ rfl rfl ?_
  · simp [net, lendsOk, lendOk, lends, lend, wkL, wk, wkB, pos]
  simp -implicitDefEqProofs only [qN, qO, qP, qW, zJ, zK, zL, zP, cells?, List.length_nil, List.length_cons, List.set_cons_zero, splice, zQ, List.getD_eq_getElem?_getD, List.getElem?_cons_zero, ↓reduceIte, Nat.reduceEqDiff, Option.getD_some, List.nil_append, List.cons_append, List.append_nil, Nat.zero_add, Nat.reduceAdd, Nat.add_zero, resP, tupV, List.reverse_cons, List.reverse_nil, leH, leB, keepP, liveP, wfB, wfV, wfL, List.drop_zero, List.take_zero, List.take_nil, List.drop_nil, List.all_cons, List.all_nil, isC, Bool.and_true, Bool.and_self, true_and, and_true, and_self, List.not_mem_nil, List.length_append, not_false_eq_true, Nat.reduceLeDiff, Nat.le_refl, lg0, ka, kc, ke, lg1, kh, ki, lg2, kn, ko, lg3, lg4, lg5, lg6, lg7, lg8, lg9, kW, wb, wh, wq, wx, wC, ↓jp, ↓jr, ↓ju, ↓jz, ↓jA, ↓jB, cx0_bn, retP_isA]
theorem ok12z (N : Nat) (f t : Int) (hV : Val N []) (he : endsB N f t = true) : Ok 12 [net N [], .i f, .i t] (IsA (.agg [.sl 4 0 0, .sl 10 0 N, .i 0]) [.dead, .dead, .dead, .dead, .arr 1 [], .dead, .dead, .dead, .dead, .dead, .arr 1 ((cutOf [] N f []).map encB)]) := by
  have hE : (0 ≤ f ∧ f < N) ∧ (0 ≤ t ∧ t < N) ∧ f ≠ t := by simpa [endsB] using he
  refine ok_of lw12 (by simp) ?_
  unfold c12
  simp -implicitDefEqProofs only [qF, qI, qO, qP, qR, qT, qU, qV, zD, zJ, zL, zP, ofConst, cells?, List.length_nil, List.length_cons, List.set_cons_zero, zQ, List.getD_eq_getElem?_getD, List.getElem?_cons_zero, ↓reduceIte, Nat.reduceEqDiff, Option.getD_some, List.nil_append, List.append_nil, Nat.zero_add, Nat.reduceAdd, Nat.add_zero, reduceCtorEq, freshP, List.map_cons, List.map_nil, List.drop_zero, List.take_nil, true_and, Nat.le_refl, lg0, ka, ke, kf, ki, kj, jo, ↓jp, ↓jr, ↓ju, ↓jz, args0, net]
  refine call_is (ok37 N [] f t) ?_ rfl ?_
  · simp [net, lendsOk, lendOk, lends, lend, wkL, wk, wkB, pos]
  simp -implicitDefEqProofs only [qE, qF, qI, qJ, qO, qP, qR, qV, zd, zD, zJ, zL, zP, List.length_nil, List.length_cons, zQ, List.getD_eq_getElem?_getD, List.getElem?_cons_zero, ↓reduceIte, Nat.reduceEqDiff, Option.getD_some, zS, zT, Bool.not_true, ↓zV, List.append_nil, Nat.zero_add, Nat.reduceAdd, reduceCtorEq, List.map_cons, List.map_nil, List.drop_zero, List.take_nil, true_and, Nat.le_refl, ke, ki, jo, ↓jr, ↓ju, ↓jz, he]
  refine call_isA [net N [], .i f, .i t] _ (.agg [.sl 4 0 0, .sl 10 0 N, .i 0]) _ [.dead, .dead, .arr 1 [], .dead, .dead, .dead, .dead, .dead, .arr 1 ((cutOf [] N f []).map encB)] (ok38z N f t hV hE.1 hE.2.1 hE.2.2) ?_ rfl rfl ?_
  · simp [net, lendsOk, lendOk, lends, lend, wkL, wk, wkB, pos]
  simp -implicitDefEqProofs only [qN, qO, qP, qW, zJ, zK, zL, zP, cells?, List.length_nil, List.length_cons, List.set_cons_zero, splice, zQ, List.getD_eq_getElem?_getD, List.getElem?_cons_zero, ↓reduceIte, Nat.reduceEqDiff, Option.getD_some, List.nil_append, List.cons_append, List.append_nil, Nat.zero_add, Nat.reduceAdd, Nat.add_zero, resP, tupV, List.reverse_cons, List.reverse_nil, leH, leB, keepP, liveP, wfB, wfV, wfL, List.drop_zero, List.take_zero, List.take_nil, List.drop_nil, List.all_cons, List.all_nil, isC, Bool.and_true, Bool.and_self, true_and, and_true, and_self, List.not_mem_nil, List.length_append, not_false_eq_true, Nat.reduceLeDiff, Nat.le_refl, lg0, ka, kc, ke, lg1, kh, ki, lg2, kn, ko, lg3, lg4, lg5, lg6, lg7, lg8, lg9, ↓jp, ↓jr, ↓ju, ↓jz, ↓jA, ↓jB, cx0_bn, retP_isA]
end Go.Fx.F
namespace Go.Fx.F
open Go Go.Fx Go.Proofs
theorem get12 {α : Type} {a b c d e f g h i j k m : α} {l : List α} {q : Nat} : (a :: b :: c :: d :: e :: f :: g :: h :: i :: j :: k :: m :: l)[q + 12]? = l[q]? := rfl
theorem set12 {α : Type} {a b c d e f g h i j k m x : α} {l : List α} {q : Nat} : (a :: b :: c :: d :: e :: f :: g :: h :: i :: j :: k :: m :: l).set (q + 12) x = a :: b :: c :: d :: e :: f :: g :: h :: i :: j :: k :: m :: l.set q x := rfl
theorem app_get {α : Type} {bs l : List α} {q : Nat} : (bs ++ l)[bs.length + q]? = l[q]? := by
  rw [List.getElem?_append_right (by omega)]; congr 1; omega
theorem app_get0 {α : Type} {bs l : List α} : (bs ++ l)[bs.length]? = l[0]? := app_get (q := 0)
theorem app_set {α : Type} {bs l : List α} {q : Nat} {x : α} : (bs ++ l).set (bs.length + q) x = bs ++ l.set q x := by
  rw [List.set_append_right _ _ (by omega)]; congr 2; omega
theorem app_set0 {α : Type} {bs l : List α} {x : α} : (bs ++ l).set bs.length x = bs ++ l.set 0 x := app_set (q := 0)
theorem n12_0 {q : Nat} : (0 = q + 12) = False := by simp
theorem n12_1 {q : Nat} : (1 = q + 12) = False := by simp
theorem n12_2 {q : Nat} : (2 = q + 12) = False := by simp
theorem n12_3 {q : Nat} : (3 = q + 12) = False := by simp
theorem n12_4 {q : Nat} : (4 = q + 12) = False := by simp
theorem n12_5 {q : Nat} : (5 = q + 12) = False := by simp
theorem n12_6 {q : Nat} : (6 = q + 12) = False := by simp
theorem n12_7 {q : Nat} : (7 = q + 12) = False := by simp
theorem n12_8 {q : Nat} : (8 = q + 12) = False := by simp
theorem n12_9 {q : Nat} : (9 = q + 12) = False := by simp
theorem n12_10 {q : Nat} : (10 = q + 12) = False := by simp
theorem n12_11 {q : Nat} : (11 = q + 12) = False := by simp
end Go.Fx.F
namespace Go.Fx.F
open Go Go.Fx Go.Proofs
/-! The arcs that begin at a node, zas they are gathered in blocks behind the first twelve. -/
def fromK (R : List Arc) (v : Int) (k : Nat) : List Int := ((List.range k).filter fun i => decide ((gA R i).from_ = v)).map Int.ofNat
theorem fromK_zero {R : List Arc} {v : Int} : fromK R v 0 = [] := rfl
theorem fromK_yes {R : List Arc} {v : Int} {k : Nat} (h : (gA R k).from_ = v) : fromK R v (k + 1) = fromK R v k ++ [(k : Int)] := by
  simp [fromK, List.range_succ, List.filter_append, h]
theorem fromK_no {R : List Arc} {v : Int} {k : Nat} (h : (gA R k).from_ ≠ v) : fromK R v (k + 1) = fromK R v k := by
  simp [fromK, List.range_succ, List.filter_append, h]
structure Beg (R : List Arc) (N k : Nat) (cs : List V) (bs : List Blk) : Prop where
  len : cs.length = N
  cell : ∀ v : Nat, v < N → (cs[v]? = some V.nil ∧ fromK R v k = []) ∨ ∃ j, cs[v]? = some (.sl (j + 12) 0 (fromK R v k).length) ∧ bs[j]? = some (.arr 1 ((fromK R v k).map encI)) ∧ fromK R v k ≠ []
  inj : ∀ (v w j n n' : Nat), cs[v]? = some (.sl (j + 12) 0 n) → cs[w]? = some (.sl (j + 12) 0 n') → v = w
  sh : ∀ b ∈ bs, b = .dead ∨ ∃ els, b = .arr 1 els
theorem Beg.zero {R : List Arc} {N : Nat} : Beg R N 0 (List.replicate N V.nil) [] := by
  refine ⟨by simp, fun v hv => .inl ⟨?_, rfl⟩, fun v w j n n' h => ?_, by simp⟩
  · rw [List.getElem?_replicate, if_pos hv]
  · rw [List.getElem?_replicate] at h
    split at h <;> simp at h
theorem Beg.new {R : List Arc} {N k : Nat} {cs : List V} {bs : List Blk} (h : Beg R N k cs bs) {v : Nat} (hv : v < N) (hf : (gA R k).from_ = v) (hc : cs[v]? = some V.nil) :
    Beg R N (k + 1) (cs.set v (.sl (bs.length + 2 + 12) 0 1)) (bs ++ [.dead, .dead, .arr 1 [encI k]]) := by
  have hk : fromK R v k = [] := by
    rcases h.cell v hv with ⟨_, h2⟩ | ⟨j, h2, _⟩
    · exact h2
    · rw [hc] at h2; simp at h2
  have hl : v < cs.length := by rw [h.len]; exact hv
  have hlt : ∀ w j n : Nat, cs[w]? = some (V.sl (j + 12) 0 n) → j < bs.length := by
    intro w j n hw
    have hwl : w < N := by
      rw [← h.len]
      exact (List.getElem?_eq_some_iff.1 hw).1
    rcases h.cell w hwl with ⟨h2, _⟩ | ⟨j', h2, h3, _⟩
    · rw [hw] at h2; simp at h2
    · rw [hw] at h2
      simp only [Option.some.injEq, V.sl.injEq] at h2
      have : j = j' := by omega
      subst this
      exact (List.getElem?_eq_some_iff.1 h3).1
  refine ⟨by simp [h.len], ?_, ?_, ?_⟩
  · intro w hw
    by_cases he : w = v
    · subst he
      refine .inr ⟨bs.length + 2, ?_, ?_, ?_⟩
      · rw [List.getElem?_set_self hl, fromK_yes hf, hk]; rfl
      · rw [fromK_yes hf, hk, List.getElem?_append_right (by omega)]
        rw [show bs.length + 2 - bs.length = 2 by omega]; rfl
      · rw [fromK_yes hf]; simp
    · have hne : (gA R k).from_ ≠ w := by rw [hf]; omega
      rw [List.getElem?_set_ne (by omega), fromK_no hne]
      refine (h.cell w hw).imp id ?_
      rintro ⟨j, h2, h3, h4⟩
      exact ⟨j, h2, by rw [List.getElem?_append_left (List.getElem?_eq_some_iff.1 h3).1]; exact h3, h4⟩
  · intro a b j n n' ha hb
    by_cases e1 : a = v
    · by_cases e2 : b = v
      · omega
      · rw [e1, List.getElem?_set_self hl] at ha
        rw [List.getElem?_set_ne (by omega)] at hb
        simp only [Option.some.injEq, V.sl.injEq] at ha
        have := hlt _ _ _ hb
        omega
    · rw [List.getElem?_set_ne (by omega)] at ha
      by_cases e2 : b = v
      · rw [e2, List.getElem?_set_self hl] at hb
        simp only [Option.some.injEq, V.sl.injEq] at hb
        have := hlt _ _ _ ha
        omega
      · rw [List.getElem?_set_ne (by omega)] at hb
        exact h.inj _ _ _ _ _ ha hb
  · intro b hb
    rw [List.mem_append] at hb
    rcases hb with hb | hb
    · exact h.sh b hb
    · simp only [List.mem_cons, List.not_mem_nil, or_false] at hb
      rcases hb with rfl | rfl | rfl
      · exact .inl rfl
      · exact .inl rfl
      · exact .inr ⟨_, rfl⟩
theorem Beg.old {R : List Arc} {N k : Nat} {cs : List V} {bs : List Blk} (h : Beg R N k cs bs) {v j n : Nat} (hv : v < N) (hf : (gA R k).from_ = v) (hc : cs[v]? = some (.sl (j + 12) 0 n)) :
    Beg R N (k + 1) ((cs.map (kill [j + 12])).set v (.sl (j + 12) 0 (n + 1))) (bs.set j (.arr 1 ((fromK R v k).map encI ++ [encI k]))) := by
  have hl : v < (cs.map (kill [j + 12])).length := by rw [List.length_map, h.len]; exact hv
  have hk : n = (fromK R v k).length ∧ j < bs.length := by
    rcases h.cell v hv with ⟨h2, _⟩ | ⟨j', h2, h3, _⟩
    · rw [hc] at h2; simp at h2
    · rw [hc] at h2
      simp only [Option.some.injEq, V.sl.injEq] at h2
      have : j = j' := by omega
      subst this
      exact ⟨by omega, (List.getElem?_eq_some_iff.1 h3).1⟩
  have hoth : ∀ w, w ≠ v → ∀ j' n', (cs.map (kill [j + 12]))[w]? = some (.sl (j' + 12) 0 n') → cs[w]? = some (.sl (j' + 12) 0 n') ∧ j' ≠ j := by
    intro w hw j' n' h1
    rw [List.getElem?_map, Option.map_eq_some_iff] at h1
    obtain ⟨x, h2, h3⟩ := h1
    have hwl : w < N := by
      rw [← h.len]
      exact (List.getElem?_eq_some_iff.1 h2).1
    rcases h.cell w hwl with ⟨h4, _⟩ | ⟨j2, h4, h5, _⟩
    · rw [h4] at h2
      simp only [Option.some.injEq] at h2
      subst h2
      simp [kill] at h3
    · rw [h4] at h2
      simp only [Option.some.injEq] at h2
      subst h2
      simp only [kill, List.mem_singleton] at h3
      split at h3
      · simp at h3
      · rename_i hne
        simp only [V.sl.injEq] at h3
        have e : j2 = j' := by omega
        subst e
        refine ⟨by rw [h4, h3.2.2], fun he => hne (by rw [he])⟩
  refine ⟨by simp [h.len], ?_, ?_, ?_⟩
  · intro w hw
    by_cases he : w = v
    · subst he
      refine .inr ⟨j, ?_, ?_, ?_⟩
      · rw [List.getElem?_set_self hl, fromK_yes hf, List.length_append, ← hk.1]; rfl
      · rw [fromK_yes hf, List.getElem?_set_self hk.2, List.map_append]; rfl
      · rw [fromK_yes hf]; simp
    · have hne : (gA R k).from_ ≠ w := by rw [hf]; omega
      rw [List.getElem?_set_ne (by omega), fromK_no hne, List.getElem?_map]
      rcases h.cell w hw with ⟨h4, h5⟩ | ⟨j2, h4, h5, h6⟩
      · rw [h4]
        exact .inl ⟨by simp [kill], h5⟩
      · have hj : j2 ≠ j := fun e => he (h.inj w v j2 _ _ h4 (by rw [e]; exact hc))
        refine .inr ⟨j2, ?_, ?_, h6⟩
        · rw [h4]
          have : ¬ (j2 + 12 = j + 12) := by omega
          simp [kill, this, hj]
        · rw [List.getElem?_set_ne (fun e => hj e.symm)]; exact h5
  · intro a b j' n1 n2 ha hb
    by_cases e1 : a = v
    · by_cases e2 : b = v
      · omega
      · rw [e1, List.getElem?_set_self hl] at ha
        rw [List.getElem?_set_ne (by omega)] at hb
        simp only [Option.some.injEq, V.sl.injEq] at ha
        have := hoth _ e2 _ _ hb
        omega
    · rw [List.getElem?_set_ne (by omega)] at ha
      by_cases e2 : b = v
      · rw [e2, List.getElem?_set_self hl] at hb
        simp only [Option.some.injEq, V.sl.injEq] at hb
        have := hoth _ e1 _ _ ha
        omega
      · rw [List.getElem?_set_ne (by omega)] at hb
        exact h.inj _ _ _ _ _ (hoth _ e1 _ _ ha).1 (hoth _ e2 _ _ hb).1
  · intro b hb
    rcases List.mem_or_eq_of_mem_set hb with hb | hb
    · exact h.sh b hb
    · exact .inr ⟨_, hb⟩
theorem Beg.kill {R : List Arc} {N k : Nat} {cs : List V} {bs : List Blk} (h : Beg R N k cs bs) (M : List Nat) : bs.map (killB M) = bs := by
  refine (List.map_congr_left fun b hb => ?_).trans (List.map_id _)
  rcases h.sh b hb with rfl | ⟨els, rfl⟩ <;> rfl
theorem Beg.wf {R : List Arc} {N k : Nat} {cs : List V} {bs : List Blk} (h : Beg R N k cs bs) {q : List Blk} : wfB q bs := by
  have hs := h.sh
  clear h
  induction bs with
  | nil => trivial
  | cons b r ih =>
    rcases hs b List.mem_cons_self with rfl | ⟨els, rfl⟩ <;> exact ih fun b hb => hs b (List.mem_cons_of_mem _ hb)
theorem wfL_all {h : List Blk} : ∀ {cs : List V}, (∀ x ∈ cs, wfV h x) → wfL h cs
  | [], _ => trivial
  | x :: r, hx => ⟨hx x List.mem_cons_self, wfL_all fun y hy => hx y (List.mem_cons_of_mem _ hy)⟩
theorem flat1 : ∀ cs : List V, (cs.map fun x => [x]).flatten = cs
  | [] => rfl
  | x :: r => by rw [List.map_cons, List.flatten_cons, flat1 r]; rfl
theorem Beg.wfc {R : List Arc} {N k : Nat} {cs : List V} {bs : List Blk} (h : Beg R N k cs bs) {a b c d e f g i j l m o : Blk} : wfL (a :: b :: c :: d :: e :: f :: g :: i :: j :: l :: m :: o :: bs) (cs.map fun x => [x]).flatten := by
  rw [flat1]
  refine wfL_all fun x hx => ?_
  obtain ⟨v, hv, rfl⟩ := List.getElem_of_mem hx
  rcases h.cell v (by rw [← h.len]; exact hv) with ⟨h1, _⟩ | ⟨q, h1, h2, _⟩
  · rw [List.getElem?_eq_getElem hv] at h1
    simp only [Option.some.injEq] at h1
    rw [h1]; trivial
  · rw [List.getElem?_eq_getElem hv] at h1
    simp only [Option.some.injEq] at h1
    rw [h1]
    simp only [wfV, liveP, get12, h2]
theorem leH_app {bs l p : List Blk} (hs : ∀ b ∈ bs, b = .dead ∨ ∃ els, b = .arr 1 els) (hl : leH l p) : leH (bs ++ l) (bs ++ p) := by
  induction bs with
  | nil => exact hl
  | cons b r ih =>
    refine ⟨?_, ih fun b hb => hs b (List.mem_cons_of_mem _ hb)⟩
    rcases hs b List.mem_cons_self with rfl | ⟨els, rfl⟩
    · trivial
    · rfl
end Go.Fx.F
namespace Go.Fx.F
open Go Go.Fx Go.Proofs
/-! The map of the search: for each node that was found the arc by which, in the order of finding. -/
def ent1 (b : List Int) (e : Int × Nat) : Value × V × Nat := (.int .i64 e.1, V.i (b.getD e.1.toNat 0), e.2)
def ents (b ord : List Int) : List (Value × V × Nat) := ord.zipIdx.map (ent1 b)
theorem sameNow_i {a c : Int} : Instr.sameNow (.int .i64) (.int .i64 a) (.int .i64 c) = some (decide (a = c)) := by
  unfold Instr.sameNow
  simp
  rfl
theorem mfind_not (b : List Int) {x : Int} : ∀ (ord : List Int) (n m : Nat), x ∉ ord → mfind (.int .i64) (.int .i64 x) ((ord.zipIdx n).map (ent1 b)) m = some none
  | [], _, _, _ => rfl
  | y :: r, n, m, h => by
    rw [List.mem_cons, not_or] at h
    simp only [List.zipIdx_cons, List.map_cons, ent1, mfind, sameNow_i, decide_eq_false h.1]
    exact mfind_not b r (n + 1) (m + 1) h.2
theorem mfind_yes (b : List Int) {x : Int} : ∀ (ord : List Int) (n m : Nat), x ∈ ord → ∃ j, mfind (.int .i64) (.int .i64 x) ((ord.zipIdx n).map (ent1 b)) m = some (some (j, V.i (b.getD x.toNat 0)))
  | [], _, _, h => by simp at h
  | y :: r, n, m, h => by
    simp only [List.zipIdx_cons, List.map_cons, ent1, mfind, sameNow_i]
    by_cases he : x = y
    · subst he
      exact ⟨m, by simp [ent1]⟩
    · rw [List.mem_cons] at h
      simp only [decide_eq_false he]
      exact mfind_yes b r (n + 1) (m + 1) (h.resolve_left he)
theorem find_not {b ord : List Int} {x : Int} (h : x ∉ ord) : mfind (.int .i64) (.int .i64 x) (ents b ord) 0 = some none := mfind_not b ord 0 0 h
theorem find_yes {b ord : List Int} {x : Int} (h : x ∈ ord) : ∃ j, mfind (.int .i64) (.int .i64 x) (ents b ord) 0 = some (some (j, V.i (b.getD x.toNat 0))) := mfind_yes b ord 0 0 h
theorem ents_add {b ord : List Int} {x y : Int} (hx : 0 ≤ x ∧ x.toNat < b.length) (hn : x ∉ ord) (hr : ∀ v ∈ ord, 0 ≤ v) : ents (b.set x.toNat y) (ord ++ [x]) = ents b ord ++ [(.int .i64 x, V.i y, ord.length)] := by
  unfold ents
  rw [List.zipIdx_append, List.map_append]
  congr 1
  · refine List.map_congr_left fun e he => ?_
    have hm : e.1 ∈ ord := by
      have h := List.mem_zipIdx he
      rw [h.2.2]; exact List.getElem_mem _
    have h0 := hr _ hm
    have : ¬ e.1.toNat = x.toNat := fun h => hn (by rwa [show x = e.1 by omega])
    unfold ent1
    rw [getD_set hx.2, if_neg this]
  · simp only [List.zipIdx_cons, List.zipIdx_nil, List.map_cons, List.map_nil, ent1, getD_set hx.2, if_true, Nat.zero_add]
theorem ents_len {b ord : List Int} : (ents b ord).length = ord.length := by simp [ents]
theorem scanTo_skip {R : List Arc} {k : Int} {s : List Int × List Int} {i : Nat} : ∀ i', i ≤ i' → (∀ j, i ≤ j → j < i' → (gA R j).from_ ≠ k) → scanTo R k s i' = scanTo R k s i
  | 0, h, _ => by rw [show i = 0 by omega]
  | i' + 1, h, hn => by
    by_cases he : i = i' + 1
    · rw [he]
    · rw [← scanTo_skip i' (by omega) fun j h1 h2 => hn j h1 (by omega)]
      conv => lhs; unfold scanTo
      rw [if_neg]
      exact fun hc => hn i' (by omega) (by omega) hc.1
theorem fromK_pre {R : List Arc} {k : Int} {i : Nat} : ∀ n, i ≤ n → ∃ l, fromK R k n = fromK R k i ++ l
  | 0, h => by rw [show i = 0 by omega]; exact ⟨[], by simp⟩
  | n + 1, h => by
    by_cases he : i = n + 1
    · rw [he]; exact ⟨[], by simp⟩
    · obtain ⟨l, hl⟩ := fromK_pre (R := R) (k := k) n (show i ≤ n by omega)
      by_cases hk : (gA R n).from_ = k
      · exact ⟨l ++ [(n : Int)], by rw [fromK_yes hk, hl, List.append_assoc]⟩
      · exact ⟨l, by rw [fromK_no hk, hl]⟩
theorem fromK_next {R : List Arc} {k : Int} {n : Nat} : ∀ (d i : Nat), n - i = d → i ≤ n → (fromK R k i).length < (fromK R k n).length →
    ∃ i', i ≤ i' ∧ i' < n ∧ (gA R i').from_ = k ∧ (∀ j, i ≤ j → j < i' → (gA R j).from_ ≠ k) ∧ fromK R k i' = fromK R k i ∧ (fromK R k n)[(fromK R k i).length]? = some (i' : Int)
  | 0, i, hd, hi, hl => by
    have : i = n := by omega
    rw [this] at hl; omega
  | d + 1, i, hd, hi, hl => by
    by_cases hk : (gA R i).from_ = k
    · refine ⟨i, Nat.le_refl _, by omega, hk, fun j h1 h2 => by omega, rfl, ?_⟩
      obtain ⟨l, hl2⟩ := fromK_pre (R := R) (k := k) n (show i + 1 ≤ n by omega)
      rw [hl2, fromK_yes hk, List.append_assoc, List.getElem?_append_right (Nat.le_refl _)]
      simp
    · obtain ⟨i', h1, h2, h3, h4, h5, h6⟩ := fromK_next (n := n) (R := R) (k := k) d (i + 1) (by omega) (by omega) (by rw [fromK_no hk]; exact hl)
      rw [fromK_no hk] at h5 h6
      refine ⟨i', by omega, h2, h3, fun j h7 h8 => ?_, h5, h6⟩
      by_cases he : j = i
      · rw [he]; exact hk
      · exact h4 j (by omega) h8
theorem fromK_end {R : List Arc} {k : Int} {i n : Nat} (hi : i ≤ n) (h : (fromK R k n).length ≤ (fromK R k i).length) : ∀ j, i ≤ j → j < n → (gA R j).from_ ≠ k := by
  intro j h1 h2 h3
  obtain ⟨l1, e1⟩ := fromK_pre (R := R) (k := k) j h1
  obtain ⟨l2, e2⟩ := fromK_pre (R := R) (k := k) n (show j + 1 ≤ n by omega)
  rw [fromK_yes h3] at e2
  have := congrArg List.length e2
  have := congrArg List.length e1
  simp at *
  omega
theorem fromK_mem {R : List Arc} {k : Int} {n : Nat} {x : Int} (h : x ∈ fromK R k n) : ∃ i : Nat, x = i ∧ i < n := by
  unfold fromK at h
  rw [List.mem_map] at h
  obtain ⟨i, hi, rfl⟩ := h
  rw [List.mem_filter, List.mem_range] at hi
  exact ⟨i, rfl, hi.1⟩
/-- The arcs that begin at the nodes, zas they are seen. -/
def begV (R : List Arc) (v : Nat) : V := if fromK R v R.length = [] then .nil else .ro 1 ((fromK R v R.length).map encI)
def begC (R : List Arc) (N : Nat) : List (List V) := (List.range N).map fun v => [begV R v]
theorem begC_len {R : List Arc} {N : Nat} : (begC R N).length = N := by simp [begC]
theorem begC_get {R : List Arc} {N v : Nat} (h : v < (begC R N).length) : (begC R N)[v] = [begV R v] := by simp [begC]
theorem begC_congr {R R' : List Arc} {N : Nat} (hl : R.length = R'.length) (h : ∀ i, i < R.length → (gA R i).from_ = (gA R' i).from_) : begC R N = begC R' N := by
  have : ∀ v : Int, fromK R v R.length = fromK R' v R'.length := by
    intro v
    rw [← hl]
    unfold fromK
    congr 1
    refine List.filter_congr fun i hi => ?_
    rw [List.mem_range] at hi
    rw [h i hi]
  unfold begC begV
  simp only [this]
theorem Beg.given {R : List Arc} {N : Nat} {cs : List V} {bs : List Blk} (h : Beg R N R.length cs bs) {a b c d e f g i j l m o : Blk} : ((cs.map fun x => [x]).map (gvL (fun k => decide (12 ≤ k)) (a :: b :: c :: d :: e :: f :: g :: i :: j :: l :: m :: o :: bs))) = begC R N := by
  apply List.ext_getElem
  · simp [begC, h.len]
  · intro v h1 h2
    have hv : v < N := by simpa [begC] using h2
    have hl : v < cs.length := by rw [h.len]; exact hv
    simp only [List.getElem_map, begC_get, gvL]
    rcases h.cell v hv with ⟨h3, h4⟩ | ⟨q, h3, h4, h5⟩
    · rw [List.getElem?_eq_getElem hl] at h3
      simp only [Option.some.injEq] at h3
      rw [h3]
      simp [begV, h4, gvV]
    · rw [List.getElem?_eq_getElem hl] at h3
      simp only [Option.some.injEq] at h3
      rw [h3]
      have hb : blk (a :: b :: c :: d :: e :: f :: g :: i :: j :: l :: m :: o :: bs) (q + 12) = .arr 1 ((fromK R v R.length).map encI) := by
        unfold blk
        rw [List.getD_eq_getElem?_getD, get12, h4]; rfl
      simp only [gvV, hb, begV, if_neg h5]
      simp
      exact List.take_of_length_le (by simp)
theorem begC_wf {R : List Arc} {N : Nat} {h : List Blk} : wfL h (begC R N).flatten := by
  refine wfL_all fun x hx => ?_
  rw [List.mem_flatten] at hx
  obtain ⟨l, h1, h2⟩ := hx
  unfold begC at h1
  rw [List.mem_map] at h1
  obtain ⟨v, _, rfl⟩ := h1
  rw [List.mem_singleton] at h2
  subst h2
  unfold begV
  split <;> trivial
theorem ents_wf {h : List Blk} {b ord : List Int} : wfL h ((ents b ord).map fun x => x.2.1) := by
  refine wfL_all fun x hx => ?_
  rw [List.mem_map] at hx
  obtain ⟨e, h1, rfl⟩ := hx
  unfold ents at h1
  rw [List.mem_map] at h1
  obtain ⟨e', _, rfl⟩ := h1
  trivial
theorem ents_kill {b ord : List Int} {M : List Nat} : (ents b ord).map (fun e => (e.1, kill M e.2.1, e.2.2)) = ents b ord := by
  unfold ents
  rw [List.map_map]
  rfl
theorem ents_ren {b ord : List Int} {g : Nat → Option Nat} : (ents b ord).map (fun e => (e.1, ren g e.2.1, e.2.2)) = ents b ord := by
  unfold ents
  rw [List.map_map]
  rfl
theorem begC_kill {R : List Arc} {N : Nat} {M : List Nat} : (begC R N).map (kills M) = begC R N := by
  unfold begC
  rw [List.map_map]
  refine List.map_congr_left fun v _ => ?_
  simp only [Function.comp, kills, begV]
  split <;> rfl
end Go.Fx.F
namespace Go.Fx.F
open Go Go.Fx Go.Proofs
set_option maxRecDepth 20000
def k12 (N m : Nat) (arcs R : List Arc) (f t : Int) (begin_ : List (List V)) (bs : List Blk) : List Blk :=
  .var [.i N, .bro 4 (arcs.map Arc.enc)] :: .var [.i f] :: .var [.i t] :: .dead :: .var [.i N, .sl 10 0 (2 * (m + 1))] :: .dead :: .dead :: .dead :: .dead :: .dead :: .arr 4 (R.map Arc.enc) :: .arv 1 begin_ :: bs
def pat1 (N m : Nat) (arcs R : List Arc) (f t : Int) (g : Nat × List V × List Blk) : St :=
  ⟨[(40, .i g.1), (39, .i (2 * (m + 1) : Nat)), (38, .sl 10 0 (2 * (m + 1))), (9, .sl 11 0 N), (8, .ptr 4 0 0), (5, .ptr 2 0 0), (4, .ptr 1 0 0), (3, .ptr 0 0 0)], k12 N m arcs R f t (g.2.1.map fun x => [x]) g.2.2, 0⟩
theorem body36a (N m : Nat) (arcs R : List Arc) (f t : Int) (hm : m < 2048) (hR : R.length = 2 * (m + 1)) (hF : ∀ i, i < R.length → 0 ≤ (gA R i).from_ ∧ (gA R i).from_ < N) {RR : St → Prop} {X : Nat → St → Prop}
    (hX : ∀ cs bs b y, Beg R N (2 * (m + 1)) cs bs → X 0 ⟨(41, y) :: (pat1 N m arcs R f t (2 * (m + 1), cs, bs)).e, (pat1 N m arcs R f t (2 * (m + 1), cs, bs)).h, b⟩)
    (g : Nat × List V × List Blk) (hI : g.1 ≤ 2 * (m + 1) ∧ Beg R N g.1 g.2.1 g.2.2) :
    aw cx0 c36l0 (fun s' => ∃ g' : Nat × List V × List Blk, ((g'.1 ≤ 2 * (m + 1) ∧ Beg R N g'.1 g'.2.1 g'.2.2) ∧ 2 * (m + 1) - g'.1 < 2 * (m + 1) - g.1) ∧ leS cx0.fx s' (pat1 N m arcs R f t g')) X RR (pat1 N m arcs R f t g) := by
  obtain ⟨k, cs, bs⟩ := g
  simp only at hI
  obtain ⟨hk, hB⟩ := hI
  unfold c36l0 pat1 k12
  simp -implicitDefEqProofs only [qa, qc, qd, qw, rdK, qx, qz, qA, qC, qE, qF, qI, qJ, qK, qM, qO, qP, qR, qU, qV, qW, qX, qY, qZ, zp, zr, zJ, zK, zL, zP, ofConst, cells?, List.length_nil, List.length_cons, List.set_cons_zero, splice, zQ, List.getD_eq_getElem?_getD, List.getElem?_cons_zero, ↓reduceIte, Nat.reduceEqDiff, Option.getD_some, zR, arrSz, zT, List.nil_append, List.cons_append, List.append_nil, Nat.zero_add, Nat.reduceAdd, Nat.add_zero, reduceCtorEq, freshP, litsP, List.map_cons, List.map_nil, List.drop_zero, List.take_zero, List.take_nil, List.drop_nil, List.all_cons, List.all_nil, isD, Bool.and_true, Bool.and_self, true_and, and_true, and_self, List.not_mem_nil, false_or, List.length_append, List.length_map, not_false_eq_true, Nat.reduceLT, Nat.le_refl, lg0, ka, kc, ke, kf, lg1, kh, kj, lg2, kn, lg3, kr, lg4, lg5, lg6, lg7, lg8, lg9, kW, jo, ↓jp, ↓jr, ↓ju, ↓jv, ↓jx, ↓jy, ↓jz, ↓jA, ↓jB, ↓jE, ↓jG, ↓jW, ↓jX, ↓qaR, List.length_map, List.getElem_map, enc_len, enc_take, enc_0, enc_isC, Int.toNat_natCast, cx0_bn, cx0_fx, get12, set12, app_get, app_get0, app_set, app_set0, List.append_assoc]
  simp only [br, decide_eq_true_eq, decide_eq_false_iff_not]
  refine ⟨fun h => ?_, fun h => ?_⟩
  · have hk1 : k < R.length := by omega
    have hgk : gA R k = R[k] := getD_nil (a := ⟨0,0,0,0⟩) hk1
    have hf := hF k hk1
    rw [hgk] at hf
    have hv : R[k].from_ = ((R[k].from_.toNat : Nat) : Int) := by omega
    have hcl : R[k].from_.toNat < cs.length := by rw [hB.len]; omega
    refine ⟨⟨by omega, h⟩, by omega, hf, by omega, ?_⟩
    rcases hB.cell R[k].from_.toNat (by omega) with ⟨h1, h2⟩ | ⟨j, h1, h2, h3⟩
    · have hcv : cs[R[k].from_.toNat] = V.nil := by rw [List.getElem?_eq_getElem hcl] at h1; simpa using h1
      simp -implicitDefEqProofs only [hcv, qd, qy, qz, qA, qC, qF, qO, qP, qR, qW, qY, qZ, zJ, zK, zL, zM, zP, ofConst, cells?, List.length_nil, List.length_cons, List.set_cons_zero, splice, zQ, List.getD_eq_getElem?_getD, List.getElem?_cons_zero, ↓reduceIte, Nat.reduceEqDiff, Option.getD_some, zR, arrSz, List.nil_append, List.append_nil, Nat.zero_add, Nat.reduceAdd, freshP, zZ, leE, leH, leB, leV, leVs, keepP, liveP, wfE, wfB, wfV, wfL, List.take_zero, List.drop_nil, List.all_cons, List.all_nil, isC, Bool.and_true, Bool.and_self, true_and, and_true, and_self, V.v.injEq, Value.int.injEq, Value.bool.injEq, List.not_mem_nil, List.length_append, List.length_map, not_false_eq_true, Bool.false_eq_true, Nat.le_refl, lg0, ka, kc, lg1, kg, lg2, kk, lg3, kq, lg4, ky, lg5, kC, lg6, kG, lg7, kK, lg8, kO, lg9, kS, kW, kX, jo, ↓jp, ↓jA, ↓jD, ↓jG, ↓qam, ↓qap, ↓qaJ, List.length_map, List.getElem_map, cx0_fx, get12, set12, app_get, app_set]
      refine ⟨by omega, by omega, by omega, by simp only [lo, hi]; omega, (k + 1, cs.set R[k].from_.toNat (.sl (bs.length + 2 + 12) 0 1), bs ++ [.dead, .dead, .arr 1 [encI k]]), ⟨⟨by omega, hB.new (by omega) (by rw [hgk]; exact hv) h1⟩, by omega⟩, by simp, ⟨by rw [List.map_set], leH_app hB.sh ?_⟩, (hB.new (by omega) (by rw [hgk]; exact hv) h1).wfc, (hB.new (by omega) (by rw [hgk]; exact hv) h1).wf⟩
      exact ⟨trivial, trivial, rfl, trivial⟩
    · have hcv : cs[R[k].from_.toNat] = V.sl (j + 12) 0 (fromK R (R[k].from_.toNat : Nat) k).length := by rw [List.getElem?_eq_getElem hcl] at h1; simpa using h1
      have hj : j < bs.length := (List.getElem?_eq_some_iff.1 h2).1
      have g1 : ∀ l, (bs ++ l)[j]? = some (.arr 1 ((fromK R (R[k].from_.toNat : Nat) k).map encI)) := fun l => by rw [List.getElem?_append_left hj]; exact h2
      have g2 : ∀ l x, (bs ++ l).set j x = bs.set j x ++ l := fun l x => by rw [List.set_append_left _ _ hj]
      have g3 : bs.map (killB [j + 12]) = bs := hB.kill _
      simp -implicitDefEqProofs only [hcv, qd, qy, qz, qA, qC, qF, qO, qP, qR, qW, qY, qZ, zJ, zK, zL, zM, zP, ofConst, cells?, List.length_nil, List.length_cons, List.set_cons_zero, splice, zQ, List.getD_eq_getElem?_getD, List.getElem?_cons_zero, ↓reduceIte, Nat.reduceEqDiff, Option.getD_some, zR, arrSz, List.nil_append, List.append_nil, Nat.zero_add, Nat.reduceAdd, reduceCtorEq, zZ, leE, leH, leB, leV, leVs, keepP, liveP, wfE, wfB, wfV, wfL, killE, killB, kill, kills, St.kill, List.map_cons, List.map_nil, List.drop_zero, List.take_zero, List.drop_nil, List.all_cons, List.all_nil, isC, Bool.and_true, Bool.and_self, true_and, and_true, and_self, V.v.injEq, Value.int.injEq, Value.bool.injEq, List.mem_cons, List.not_mem_nil, or_false, false_or, List.length_append, List.length_map, not_false_eq_true, Bool.false_eq_true, Nat.le_refl, lg0, ka, kc, lg1, kg, lg2, kk, lg3, kq, lg4, ky, lg5, kC, lg6, kG, lg7, kK, lg8, kO, lg9, kS, kW, kX, jo, ↓jp, ↓jA, ↓jD, ↓jG, ↓qan, ↓qao, ↓qaJ, List.length_map, List.getElem_map, cx0_fx, get12, set12, g1, g2, g3, List.map_append]
      have hle : (fromK R (R[k].from_.toNat : Nat) k).length ≤ k := by
        have := List.length_filter_le (fun i => decide ((gA R i).from_ = ((R[k].from_.toNat : Nat) : Int))) (List.range k)
        rw [List.length_range] at this
        rwa [fromK, List.length_map]
      have hO := hB.old (by omega) (by rw [hgk]; exact hv) h1
      have e1 : List.map (kills [j + 12]) (List.map (fun x => [x]) cs) = List.map (fun x => [x]) (cs.map (kill [j + 12])) := by
        simp only [List.map_map]; rfl
      have e2 : List.take (fromK R (R[k].from_.toNat : Nat) k).length (List.map encI (fromK R (R[k].from_.toNat : Nat) k)) = List.map encI (fromK R (R[k].from_.toNat : Nat) k) := List.take_of_length_le (by simp)
      rw [e1, e2]
      refine ⟨by omega, by omega, by omega, by omega, by simp only [lo, hi]; omega, (k + 1, _, _), ⟨⟨by omega, hO⟩, by omega⟩, by simp, ⟨by rw [List.map_set], ?_⟩, hO.wfc, hO.wf⟩
      have := leH_app hO.sh (l := [Blk.var (kills [j + 12] R[k].enc), Blk.arr 1 [[V.v (Value.int IntKind.i64 ↑k)]], Blk.dead]) (p := []) (by unfold leH; trivial)
      rwa [List.append_nil] at this
  · have hk2 : k = 2 * (m + 1) := by omega
    subst hk2
    exact hX cs bs _ _ hB
end Go.Fx.F
