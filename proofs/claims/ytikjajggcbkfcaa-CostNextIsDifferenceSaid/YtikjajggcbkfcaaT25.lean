import Derived.Test.YtikjajggcbkfcaaFxFrz
import Derived.Test.YtikjajggcbkfcaaFxRun
import Derived.Test.YtikjajggcbkfcaaCLow
set_option linter.unusedVariables false
set_option linter.unusedSimpArgs false
set_option linter.unusedSectionVars false
namespace Go.Fx
def rdK (x : V) (bn : List Nat) : List Nat :=
  match x with
  | .ptr k _ _ => k :: bn
  | _ => bn
def tupK (x : V) (K : List V → Prop) : Prop :=
  match x with
  | .tup vs => K vs
  | _ => False
def nilK (x : V) (K : V → Prop) : Prop :=
  match x with
  | .ptr k i f => K (.ptr k i f)
  | .clo f cs => K (.clo f cs)
  | _ => False
def cloK (x : V) (K : FuncId → List V → Prop) : Prop :=
  match x with
  | .clo g cs => K g cs
  | _ => False
def lookM (h : List Blk) (kd : TypeDesc) (key : Value) (z : Value) (ok : Bool) (m : V) (K : V → Prop) : Prop :=
  match m with
  | .v (.map none) => lookK (some none) z ok K
  | m => mapK h m fun _ es _ => lookK (mfind kd key es 0) z ok K
mutual
theorem kill_nil : ∀ x : V, kill [] x = x
  | .any => rfl
  | .v _ => rfl
  | .ro _ _ => rfl
  | .bro _ _ => rfl
  | .full _ _ => rfl
  | .rp _ _ _ _ => rfl
  | .sl _ _ _ => by simp [kill]
  | .ptr _ _ _ => by simp [kill]
  | .mp _ => by simp [kill]
  | .itr _ => by simp [kill]
  | .agg cs => by simp [kill, kills_nil cs]
  | .tup cs => by simp [kill, kills_nil cs]
  | .clo _ cs => by simp [kill, kills_nil cs]
theorem kills_nil : ∀ xs : List V, kills [] xs = xs
  | [] => rfl
  | x :: r => by simp [kills, kill_nil x, kills_nil r]
end
theorem killE_nil : ∀ e : Env, killE [] e = e
  | [] => rfl
  | (_, x) :: r => by simp [killE, kill_nil x, killE_nil r]
theorem killB_nil (l : List Blk) : l.map (killB []) = l := by
  have : killB [] = id := by
    funext b
    cases b <;> simp [killB, kills_nil, kill_nil, killE_nil, funext kills_nil]
  simp [this]
section
variable {cx : Cx} {e : Env} {h : List Blk} {b : Nat} {K : V → St → Prop} {Ks : St → Prop} {N R : St → Prop} {X : Nat → St → Prop} {d : Option Nat} {op : LOp}
theorem zH {d : Nat} {x : V} : St.put ⟨e, h, b⟩ (some d) x = ⟨(d, x) :: e, h, b⟩ := rfl
theorem zI {x : V} : St.put ⟨e, h, b⟩ none x = ⟨e, h, b⟩ := rfl
theorem qO : aOps cx [] ⟨e, h, b⟩ Ks = Ks ⟨e, h, b⟩ := rfl
theorem qP {r : List LOper} : aOps cx (⟨d, op, none⟩ :: r) ⟨e, h, b⟩ Ks = aOp cx op ⟨e, h, b⟩ fun x s' => aOps cx r (s'.put d x) Ks := rfl
theorem qQ {g : Nat} {w : Bool} {r : List LOper} : aOps cx (⟨d, op, some (g, w)⟩ :: r) ⟨e, h, b⟩ Ks = guardP (get e g) w
      (aOp cx op ⟨(g, .b w) :: e, h, b⟩ fun x s' => aOps cx r (s'.put d x) Ks)
      (aOps cx r (St.put ⟨(g, .b !w) :: e, h, b⟩ d (.v (.tuple #[]))) Ks)
      (aOps cx r (St.put ⟨e, h, b⟩ d (.v (.tuple #[]))) Ks) := rfl
theorem qa {x : Operand} {bn : List Nat} : rdB (.mov x) e bn = bn := rfl
theorem qR {x : Operand} : aOp cx (.mov x) ⟨e, h, b⟩ K = K (ev e x) ⟨e, h, b⟩ := rfl
theorem qb {c x y : Operand} {bn : List Nat} : rdB (.pick c x y) e bn = bn := rfl
theorem qS {c x y : Operand} : aOp cx (.pick c x y) ⟨e, h, b⟩ K = brV (ev e c) (K (ev e x) ⟨e, h, b⟩) (K (ev e y) ⟨e, h, b⟩) := rfl
theorem qT {j : Nat} {x : Operand} : aOp cx (.box j x) ⟨e, h, b⟩ K = optK (cells? (ev e x)) fun cs => freshP h (b + j) ∧ K (.ptr (b + j) 0 0) ⟨e, h.set (b + j) (.var cs), b⟩ := rfl
theorem qU {j : Nat} {z : Value} : aOp cx (.alloc j z) ⟨e, h, b⟩ K = optK (cells? (ofConst z)) fun cs => freshP h (b + j) ∧ K (.ptr (b + j) 0 0) ⟨e, h.set (b + j) (.var cs), b⟩ := rfl
theorem qV {n : Option Nat} {x : Operand} : aOp cx (.load n x) ⟨e, h, b⟩ K = loadP h n (ev e x) fun y => K y ⟨e, h, b⟩ := rfl
theorem qW {n : Nat} {x y : Operand} : aOp cx (.store n x y) ⟨e, h, b⟩ K = optK (cells? (ev e y)) fun cs => storeP cx.bn h n (ev e x) cs fun h => K (.v (.tuple #[])) ⟨e, h, b⟩ := rfl
theorem qc {n : Nat} {x : Operand} {bn : List Nat} : rdB (.fld n x) e bn = bn := rfl
theorem qX {n : Nat} {x : Operand} : aOp cx (.fld n x) ⟨e, h, b⟩ K = fldP n (ev e x) fun y => K y ⟨e, h, b⟩ := rfl
theorem qd {n : Nat} {x i : Operand} {bn : List Nat} : rdB (.idx n x i) e bn = bn := rfl
theorem qY {n : Nat} {x i : Operand} : aOp cx (.idx n x i) ⟨e, h, b⟩ K = intK (ev e i) fun _ m => idxP h n m (ev e x) fun y => K y ⟨e, h, b⟩ := rfl
theorem qe {o : BinOp} {ex : Bool} {x y : Operand} {bn : List Nat} : rdB (.bin o ex x y) e bn = bn := rfl
theorem qZ {o : BinOp} {ex : Bool} {x y : Operand} : aOp cx (.bin o ex x y) ⟨e, h, b⟩ K = intK (ev e x) fun k a => intK (ev e y) fun k' c => k' = k ∧ binInt o ex k a c fun z => K z ⟨e, h, b⟩ := rfl
theorem qf {x : Operand} {bn : List Nat} : rdB (.len x) e bn = bn := rfl
theorem zb {x : Operand} : aOp cx (.len x) ⟨e, h, b⟩ K = lenP (ev e x) fun y => K y ⟨e, h, b⟩ := rfl
theorem qh {x : Operand} {bn : List Nat} : rdB (.lens x) e bn = bn := rfl
theorem zc {x : Operand} : aOp cx (.lens x) ⟨e, h, b⟩ K = lensP (ev e x) fun y => K y ⟨e, h, b⟩ := rfl
theorem qi {x : Operand} {bn : List Nat} : rdB (.not x) e bn = bn := rfl
theorem zd {x : Operand} : aOp cx (.not x) ⟨e, h, b⟩ K = boolK (ev e x) fun t => K (.b (!t)) ⟨e, h, b⟩ := rfl
theorem qj {x : Operand} {bn : List Nat} : rdB (.neg x) e bn = bn := rfl
theorem ze {x : Operand} : aOp cx (.neg x) ⟨e, h, b⟩ K = intK (ev e x) fun k a => K (.v (.int k (k.wrap (-a)))) ⟨e, h, b⟩ := rfl
theorem qk {ex : Bool} {k : IntKind} {x : Operand} {bn : List Nat} : rdB (.conv ex k x) e bn = bn := rfl
theorem zf {ex : Bool} {k : IntKind} {x : Operand} : aOp cx (.conv ex k x) ⟨e, h, b⟩ K = intK (ev e x) fun _ a => if ex then (lo k ≤ a ∧ a ≤ hi k) ∧ K (.v (.int k a)) ⟨e, h, b⟩ else K (.v (.int k (k.wrap a))) ⟨e, h, b⟩ := rfl
theorem ql {mx : Bool} {x y : Operand} {bn : List Nat} : rdB (.minmax mx x y) e bn = bn := rfl
theorem zg {mx : Bool} {x y : Operand} : aOp cx (.minmax mx x y) ⟨e, h, b⟩ K = intK (ev e x) fun k a => intK (ev e y) fun k' c => k' = k ∧ K (.v (.int k (if mx then max a c else min a c))) ⟨e, h, b⟩ := rfl
theorem qm {f : FuncId} {cs : List Operand} {bn : List Nat} : rdB (.fn f cs) e bn = bn := rfl
theorem zh {f : FuncId} {cs : List Operand} : aOp cx (.fn f cs) ⟨e, h, b⟩ K = K (.clo f (cs.map (ev e))) ⟨e, h, b⟩ := rfl
theorem qn {off : Nat} {n : Option Nat} {x : Operand} {bn : List Nat} : rdB (.field off n x) e bn = bn := rfl
theorem zi {off : Nat} {n : Option Nat} {x : Operand} : aOp cx (.field off n x) ⟨e, h, b⟩ K = aggK (ev e x) fun cs => loadCs n off cs fun y => K y ⟨e, h, b⟩ := rfl
theorem qo {z : Nat} {x : Operand} {l u m : Option Operand} {bn : List Nat} : rdB (.slice z x l u m) e bn = bn := rfl
theorem zj {z : Nat} {x : Operand} {l u m : Option Operand} : aOp cx (.slice z x l u m) ⟨e, h, b⟩ K = optI (l.map (ev e)) fun l => optI (u.map (ev e)) fun u => optI (m.map (ev e)) fun m => slcP h z (ev e x) l u m fun y => K y ⟨e, h, b⟩ := rfl
theorem qp {z : List Value} {ps : List (Nat × Nat × Operand)} {bn : List Nat} : rdB (.build z ps) e bn = bn := rfl
theorem zk {z : List Value} {ps : List (Nat × Nat × Operand)} : aOp cx (.build z ps) ⟨e, h, b⟩ K = buildP e (z.map .v) ps fun y => K y ⟨e, h, b⟩ := rfl
theorem qq {neg : Bool} {x y : Operand} {bn : List Nat} : rdB (.eqb neg x y) e bn = bn := rfl
theorem zl {neg : Bool} {x y : Operand} : aOp cx (.eqb neg x y) ⟨e, h, b⟩ K = boolK (ev e x) fun a => boolK (ev e y) fun c => K (.b (if neg then a != c else a == c)) ⟨e, h, b⟩ := rfl
theorem qr {neg : Bool} {ks : List (Nat × TypeDesc)} {x y : Operand} {bn : List Nat} : rdB (.eqf neg ks x y) e bn = bn := rfl
theorem zm {neg : Bool} {ks : List (Nat × TypeDesc)} {x y : Operand} : aOp cx (.eqf neg ks x y) ⟨e, h, b⟩ K = optK (aggC (ev e x)) fun xs => optK (aggC (ev e y)) fun ys => eqFs xs ys ks fun t => K (.b (if neg then !t else t)) ⟨e, h, b⟩ := rfl
theorem qs {o : BinOp} {x y : Operand} {bn : List Nat} : rdB (.shift o x y) e bn = bn := rfl
theorem zn {o : BinOp} {x y : Operand} : aOp cx (.shift o x y) ⟨e, h, b⟩ K = intK (ev e x) fun k a => intK (ev e y) fun _ c => shiftInt o k a c fun z => K z ⟨e, h, b⟩ := rfl
theorem zo {neg : Bool} {x : Operand} {v : Value} : aOp cx (.eqn neg x (.const v)) ⟨e, h, b⟩ K = match ofConst v with | .v _ => eqnP (ev e x) fun t => K (.b (if neg then !t else t)) ⟨e, h, b⟩ | _ => False := rfl
theorem zp {j sz n : Nat} {z : List Value} {ps : List (Nat × Operand)} : aOp cx (.lits j sz n z ps) ⟨e, h, b⟩ K = litsP e sz (List.replicate n (z.map .v)) ps fun els => freshP h (b + j) ∧ K (.sl (b + j) 0 n) ⟨e, h.set (b + j) (.arr sz els), b⟩ := rfl
theorem zq {j sz bytes : Nat} {z : List Value} {l c : Operand} : aOp cx (.mk j sz bytes z l c) ⟨e, h, b⟩ K = intK (ev e l) fun _ a => intK (ev e c) fun _ d => ((0 ≤ a ∧ a ≤ d) ∧ (bytes : Int) * d ≤ 281474976710656 ∧ d ≤ 9223372036854775807) ∧ freshP h (b + j) ∧ K (.sl (b + j) 0 a.toNat) ⟨e, h.set (b + j) (.arr sz (List.replicate a.toNat (z.map .v))), b⟩ := rfl
theorem zr {j sz bytes : Nat} {x y : Operand} : aOp cx (.append j sz bytes x y) ⟨e, h, b⟩ K = viewK h (ev e y) fun sz' new => (new = [] ∨ sz' = sz) ∧ appP cx.fx cx.bn (b + j) sz bytes ⟨e, h, b⟩ (ev e x) new K := rfl
theorem zt {sz : Nat} {x y : Operand} : aOp cx (.copy sz x y) ⟨e, h, b⟩ K = viewK h (ev e y) fun sz' new => (new = [] ∨ sz' = sz) ∧ copyP cx.bn sz ⟨e, h, b⟩ (ev e x) new K := rfl
theorem zu {j sz bytes : Nat} {z : List Value} {l c : Operand} : aOp cx (.mkv j sz bytes z l c) ⟨e, h, b⟩ K = intK (ev e l) fun _ a => intK (ev e c) fun _ c => ((0 ≤ a ∧ a ≤ c) ∧ (bytes : Int) * c ≤ 281474976710656 ∧ c ≤ 9223372036854775807) ∧ freshP h (b + j) ∧ K (.sl (b + j) 0 a.toNat) ⟨e, h.set (b + j) (.arv sz (List.replicate a.toNat (z.map .v))), b⟩ := rfl
theorem zv {kd : TypeDesc} {m k x : Operand} : aOp cx (.mset kd m k x) ⟨e, h, b⟩ K = keyK kd (ev e k) fun key => mapK h (ev e m) fun c es t => c ∉ cx.bn ∧ msetK (mfind kd key es 0) key (ev e x) es t fun B => K (.v (.tuple #[])) ⟨e, h.set c B, b⟩ := rfl
theorem zw {j : Nat} : aOp cx (.mkmap j none) ⟨e, h, b⟩ K = (True ∧ freshP h (b + j) ∧ K (.mp (b + j)) ⟨e, h.set (b + j) (.map [] 0), b⟩) := rfl
theorem zx {kd : TypeDesc} {z : Value} {ok : Bool} {m k : Operand} : aOp cx (.lookup kd z ok m k) ⟨e, h, b⟩ K = keyK kd (ev e k) fun key => lookM h kd key z ok (ev e m) fun x => K x ⟨e, h, b⟩ := rfl
theorem zy {m : Operand} : aOp cx (.mlen m) ⟨e, h, b⟩ K = mapK h (ev e m) fun _ es _ => K (.i es.length) ⟨e, h, b⟩ := rfl
theorem zA {j : Nat} {m : Operand} : aOp cx (.range j m) ⟨e, h, b⟩ K = mapK h (ev e m) fun _ _ c => freshP h (b + j) ∧ K (.ptr (b + j) 0 0) ⟨e, h.set (b + j) (.it (ev e m) c [] c), b⟩ := rfl
theorem zB {i : Operand} : aOp cx (.next i) ⟨e, h, b⟩ K = itK h (ev e i) fun c m since seen last => mapK h m fun _ es t => c ∉ cx.bn ∧ nextK es since seen last (K (.tup [.b false]) ⟨e, h, b⟩) fun key x born => K (.tup [.b true, .v key, x]) ⟨e, h.set c (.it m since (seen ++ [born]) t), b⟩ := rfl
theorem zC {i : Operand} : aOp cx (.entry i) ⟨e, h, b⟩ K = itK h (ev e i) fun _ m _ seen last => mapK h m fun _ es c => last = c ∧ optK seen.getLast? fun st => entK (es.find? fun q => q.2.2 == st) fun x => K x ⟨e, h, b⟩ := rfl
theorem zD {f : FuncId} {xs : List Operand} : aOp cx (.call f xs) ⟨e, h, b⟩ K = callP cx f (xs.map (ev e)) ⟨e, h, b⟩ K := rfl
theorem qt {x : Operand} {i : Nat} {bn : List Nat} : rdB (.ext x i) e bn = bn := rfl
theorem qu {x : Operand} {bn : List Nat} : rdB (.nilc x) e bn = bn := rfl
theorem qv {t : Bool} {x y : Operand} {bn : List Nat} : rdB (.eqn t x y) e bn = bn := rfl
theorem qw {n : Option Nat} {x : Operand} {bn : List Nat} : rdB (.load n x) e bn = rdK (ev e x) bn := by
  show (match ev e x with | .ptr k _ _ => k :: bn | _ => bn) = _
  unfold rdK
  cases ev e x <;> rfl
theorem zE {x : Operand} {i : Nat} : aOp cx (.ext x i) ⟨e, h, b⟩ K = tupK (ev e x) fun vs => optK vs[i]? fun y => K y ⟨e, h, b⟩ := by
  simp only [aOp, tupK]; split <;> simp_all
theorem zF {x : Operand} : aOp cx (.nilc x) ⟨e, h, b⟩ K = nilK (ev e x) fun y => K y ⟨e, h, b⟩ := by
  simp only [aOp, nilK]; split <;> simp_all
theorem zG {f : Operand} {xs : List Operand} : aOp cx (.callv f xs) ⟨e, h, b⟩ K = cloK (ev e f) fun g cs => callP cx g (xs.map (ev e) ++ cs) ⟨e, h, b⟩ K := by
  simp only [aOp, cloK]; split <;> simp_all
theorem qE : aw cx .skip N X R ⟨e, h, b⟩ = N ⟨e, h, b⟩ := rfl
theorem qF {n : Nat} {l : List LOper} : aw cx (.reg n l) N X R ⟨e, h, b⟩ = aOps cx l ⟨e, h ++ List.replicate n .dead, h.length⟩ N := rfl
theorem qG {m n : Nat} {l : List LOper} : aw cx (.tail m n l) N X R ⟨e, h, b⟩ = aOps cx l ⟨e, h ++ List.replicate n .dead, h.length⟩ N := rfl
theorem qH {n : Nat} {l : List LOper} : aw cx (.qui n l) N X R ⟨e, h, b⟩ = aOps cx l ⟨e, h ++ List.replicate n .dead, h.length⟩ N := rfl
theorem qx {n : Nat} {p : LPlan} : aw cx (.tree n p) N X R ⟨e, h, b⟩ = awP cx p [] N ⟨e, h ++ List.replicate n .dead, h.length⟩ := rfl
theorem qy {bn : List Nat} : awP cx .done bn Ks ⟨e, h, b⟩ = Ks ⟨e, h, b⟩ := rfl
theorem qz {bn : List Nat} : awP cx .none bn Ks ⟨e, h, b⟩ = True := rfl
theorem qA {i : Nat} {D bn : List Nat} {p : LPlan} : awP cx (.take i D ⟨d, op, none⟩ p) bn Ks ⟨e, h, b⟩ = aOp cx op ⟨e, h, b⟩ fun x s' => awP cx p (rdB op e bn) Ks (s'.put d x) := rfl
theorem qB {i g : Nat} {w : Bool} {D bn : List Nat} {p : LPlan} : awP cx (.take i D ⟨d, op, some (g, w)⟩ p) bn Ks ⟨e, h, b⟩ = guardP (get e g) w
      (aOp cx op ⟨(g, .b w) :: e, h, b⟩ fun x s' => awP cx p (rdB op e bn) Ks (s'.put d x))
      (awP cx p (rdB op e bn) Ks (St.put ⟨(g, .b !w) :: e, h, b⟩ d (.v (.tuple #[]))))
      (awP cx p (rdB op e bn) Ks (St.put ⟨e, h, b⟩ d (.v (.tuple #[])))) := rfl
theorem qC {i : Nat} {r : Bool} {bn : List Nat} {p q : LPlan} : awP cx (.alt i ⟨d, op, none⟩ r p q) bn Ks ⟨e, h, b⟩ =
      ((aOp ⟨cx.C, cx.fx, if r then bn else [], cx.it, cx.y, cx.rk⟩ op ⟨e, h, b⟩ fun x s' => awP cx p (if r then bn else []) Ks (s'.put d x)) ∧ awP cx q bn Ks ⟨e, h, b⟩) := rfl
theorem qD {i g : Nat} {w r : Bool} {bn : List Nat} {p q : LPlan} : awP cx (.alt i ⟨d, op, some (g, w)⟩ r p q) bn Ks ⟨e, h, b⟩ =
      ((guardP (get e g) w
        (aOp ⟨cx.C, cx.fx, if r then bn else [], cx.it, cx.y, cx.rk⟩ op ⟨(g, .b w) :: e, h, b⟩ fun x s' => awP cx p (if r then bn else []) Ks (s'.put d x))
        (awP cx p (if r then bn else []) Ks (St.put ⟨(g, .b !w) :: e, h, b⟩ d (.v (.tuple #[]))))
        (awP cx p (if r then bn else []) Ks (St.put ⟨e, h, b⟩ d (.v (.tuple #[]))))) ∧ awP cx q bn Ks ⟨e, h, b⟩) := rfl
theorem qI {x y : LCode} : aw cx (.seq x y) N X R ⟨e, h, b⟩ = aw cx x (fun s' => aw cx y N X R s') X R ⟨e, h, b⟩ := rfl
theorem qJ {c : Operand} {x y : LCode} : aw cx (.cond c x y) N X R ⟨e, h, b⟩ = brV (ev e c) (aw cx x N X R ⟨e, h, b⟩) (aw cx y N X R ⟨e, h, b⟩) := rfl
theorem qK {i : Nat} {x : LCode} : aw cx (.block i x) N X R ⟨e, h, b⟩ = aw cx x N (fun j s' => if j = i then N s' else X j s') R ⟨e, h, b⟩ := rfl
theorem qL {x : LCode} : aw cx (.loop x) N X R ⟨e, h, b⟩ = loopP cx.fx (fun N => aw cx x N X R) ⟨e, h, b⟩ := rfl
theorem qM {i : Nat} : aw cx (.exit i) N X R ⟨e, h, b⟩ = X i ⟨e, h, b⟩ := rfl
theorem qN : aw cx .ret N X R ⟨e, h, b⟩ = R ⟨e, h, b⟩ := rfl
theorem zS {A B : Prop} : br true A B = A := by simp [br]
theorem zT {A B : Prop} : br false A B = B := by simp [br]
theorem zR {t : Bool} {A B : Prop} : brV (.v (.bool t)) A B = br t A B := rfl
theorem zU {t : Bool} {w : Bool} {A B C : Prop} : guardP (.v (.bool t)) w A B C = if w then br t A B else br t B A := rfl
theorem zV {w : Bool} {A B C : Prop} : guardP (.v (.tuple #[])) w A B C = C := rfl
theorem zP {k : IntKind} {a : Int} {K : IntKind → Int → Prop} : intK (.v (.int k a)) K = K k a := rfl
theorem zQ {a : Bool} {K : Bool → Prop} : boolK (.v (.bool a)) K = K a := rfl
theorem retP_eq {fx : List Nat} {n : Nat} {rs : List LRes} {R : V → List Blk → Prop} : retP fx n rs R ⟨e, h, b⟩ = resP h e rs [] fun xs => ∃ p, (leH h p ∧ keepP fx p ∧ n ≤ p.length ∧ wfV p (tupV xs) ∧ wfB p p) ∧ R (tupV xs) p := rfl
theorem zX {fx : List Nat} {p : Env} {q : List Blk} {b' : Nat} : leS fx ⟨e, h, b⟩ ⟨p, q, b'⟩ = (leE e p ∧ leH h q ∧ keepP fx q ∧ wfE q p ∧ wfB q q) := rfl
end
section
variable {cx : Cx} {h : List Blk} {e : Env} {s : St} {fx bn : List Nat}
def Is (x : V) : V → List Blk → Prop := fun r h => r = x ∧ h = []
theorem zW {e : Env} {h : List Blk} {b : Nat} {rs : List LRes} {x : V} : retP [] 0 rs (Is x) ⟨e, h, b⟩ = resP h e rs [] fun xs => wfV [] (tupV xs) ∧ tupV xs = x := by
  unfold retP Is
  simp only
  congr 1
  funext xs
  apply propext
  constructor
  · rintro ⟨p, ⟨_, _, _, h4, _⟩, h5, rfl⟩
    exact ⟨h4, h5⟩
  · rintro ⟨h4, h5⟩
    exact ⟨[], ⟨by unfold leH; trivial, trivial, Nat.le_refl _, h4, trivial⟩, h5, rfl⟩
theorem zJ {t : Nat} : ev e (.tmp t) = get e t := rfl
theorem zK {c : Value} : ev e (.const c) = ofConst c := rfl
theorem zL {f : FuncId} : ev e (.func f) = .clo f [] := rfl
theorem zM {i : Nat} : get [] i = .any := rfl
theorem zN {j i : Nat} {x : V} {r : Env} : get ((j, x) :: r) i = if i = j then x else get r i := rfl
theorem zO {k : Nat} : blk h k = h.getD k .dead := rfl
@[congr] theorem c_optK {α : Type} {o o' : Option α} {K : α → Prop} (q : o = o') : optK o K = optK o' K := by rw [q]
@[congr] theorem c_intK {x x' : V} {K : IntKind → Int → Prop} (q : x = x') : intK x K = intK x' K := by rw [q]
@[congr] theorem c_boolK {x x' : V} {K : Bool → Prop} (q : x = x') : boolK x K = boolK x' K := by rw [q]
@[congr] theorem c_brV {x x' : V} {A B : Prop} (q : x = x') : brV x A B = brV x' A B := by rw [q]
@[congr] theorem c_guardP {x x' : V} {w : Bool} {A B C : Prop} (q : x = x') : guardP x w A B C = guardP x' w A B C := by rw [q]
@[congr] theorem c_loadP {n : Option Nat} {p p' : V} {K : V → Prop} (q : p = p') : loadP h n p K = loadP h n p' K := by rw [q]
@[congr] theorem c_loadB {n : Option Nat} {i f : Nat} {b b' : Blk} {K : V → Prop} (q : b = b') : loadB n i f b K = loadB n i f b' K := by rw [q]
@[congr] theorem c_loadCs {n : Option Nat} {f : Nat} {cs cs' : List V} {K : V → Prop} (q : cs = cs') : loadCs n f cs K = loadCs n f cs' K := by rw [q]
@[congr] theorem c_storeP {n : Nat} {p p' : V} {cs cs' : List V} {K : List Blk → Prop} (q : p = p') (q2 : cs = cs') : storeP bn h n p cs K = storeP bn h n p' cs' K := by rw [q, q2]
@[congr] theorem c_storeB {n i f : Nat} {cs : List V} {b b' : Blk} {K : Blk → Prop} (q : b = b') : storeB n i f cs b K = storeB n i f cs b' K := by rw [q]
@[congr] theorem c_fldP {n : Nat} {x x' : V} {K : V → Prop} (q : x = x') : fldP n x K = fldP n x' K := by rw [q]
@[congr] theorem c_idxP {z : Nat} {n n' : Int} {x x' : V} {K : V → Prop} (q : x = x') (q2 : n = n') : idxP h z n x K = idxP h z n' x' K := by rw [q, q2]
@[congr] theorem c_lenP {x x' : V} {K : V → Prop} (q : x = x') : lenP x K = lenP x' K := by rw [q]
@[congr] theorem c_lensP {x x' : V} {K : V → Prop} (q : x = x') : lensP x K = lensP x' K := by rw [q]
@[congr] theorem c_viewK {x x' : V} {K : Nat → List (List V) → Prop} (q : x = x') : viewK h x K = viewK h x' K := by rw [q]
@[congr] theorem c_optI {x x' : Option V} {K : Option Int → Prop} (q : x = x') : optI x K = optI x' K := by rw [q]
@[congr] theorem c_slcP {z : Nat} {x x' : V} {l u m : Option Int} {K : V → Prop} (q : x = x') : slcP h z x l u m K = slcP h z x' l u m K := by rw [q]
@[congr] theorem c_buildP {acc acc' : List V} {ps : List (Nat × Nat × Operand)} {K : V → Prop} (q : acc = acc') : buildP e acc ps K = buildP e acc' ps K := by rw [q]
@[congr] theorem c_litsP {sz : Nat} {acc acc' : List (List V)} {ps : List (Nat × Operand)} {K : List (List V) → Prop} (q : acc = acc') : litsP e sz acc ps K = litsP e sz acc' ps K := by rw [q]
@[congr] theorem c_eqnP {x x' : V} {K : Bool → Prop} (q : x = x') : eqnP x K = eqnP x' K := by rw [q]
@[congr] theorem c_appP {id sz bytes : Nat} {x x' : V} {new new' : List (List V)} {K : V → St → Prop} (q : x = x') (q2 : new = new') : appP fx bn id sz bytes s x new K = appP fx bn id sz bytes s x' new' K := by rw [q, q2]
@[congr] theorem c_appB {k i n sz bytes : Nat} {new : List (List V)} {b b' : Blk} {K : V → St → Prop} (q : b = b') : appB fx bn k i n sz bytes s new b K = appB fx bn k i n sz bytes s new b' K := by rw [q]
@[congr] theorem c_appNew {id sz bytes : Nat} {old old' new : List (List V)} {K : V → St → Prop} (q : old = old') : appNew id sz bytes s old new K = appNew id sz bytes s old' new K := by rw [q]
@[congr] theorem c_copyP {sz : Nat} {x x' : V} {new : List (List V)} {K : V → St → Prop} (q : x = x') : copyP bn sz s x new K = copyP bn sz s x' new K := by rw [q]
@[congr] theorem c_tupK {x x' : V} {K : List V → Prop} (q : x = x') : tupK x K = tupK x' K := by rw [q]
@[congr] theorem c_nilK {x x' : V} {K : V → Prop} (q : x = x') : nilK x K = nilK x' K := by rw [q]
@[congr] theorem c_cloK {x x' : V} {K : FuncId → List V → Prop} (q : x = x') : cloK x K = cloK x' K := by rw [q]
@[congr] theorem c_aggK {x x' : V} {K : List V → Prop} (q : x = x') : aggK x K = aggK x' K := by rw [q]
@[congr] theorem c_callP {f : FuncId} {xs xs' : List V} {s s' : St} {K : V → St → Prop} (q : xs = xs') (q2 : s = s') : callP cx f xs s K = callP cx f xs' s' K := by rw [q, q2]
@[congr] theorem c_binInt {op : BinOp} {ex : Bool} {k : IntKind} {a a' b b' : Int} {K : V → Prop} (q : a = a') (q2 : b = b') : binInt op ex k a b K = binInt op ex k a' b' K := by rw [q, q2]
@[congr] theorem c_eqFs {xs xs' ys ys' : List V} {ks : List (Nat × TypeDesc)} {K : Bool → Prop} (q : xs = xs') (q2 : ys = ys') : eqFs xs ys ks K = eqFs xs' ys' ks K := by rw [q, q2]
@[congr] theorem c_eqC {kd : TypeDesc} {x x' y y' : Option V} {K : Bool → Prop} (q : x = x') (q2 : y = y') : eqC kd x y K = eqC kd x' y' K := by rw [q, q2]
@[congr] theorem c_resP {ls : List LRes} {acc acc' : List V} {K : List V → Prop} (q : acc = acc') : resP h e ls acc K = resP h e ls acc' K := by rw [q]
@[congr] theorem c_awP {p : LPlan} {s s' : St} {Ks : St → Prop} (q : s = s') : awP cx p bn Ks s = awP cx p bn Ks s' := by rw [q]
@[congr] theorem c_aOps {l : List LOper} {s s' : St} {Ks : St → Prop} (q : s = s') : aOps cx l s Ks = aOps cx l s' Ks := by rw [q]
@[congr] theorem c_aw {c : LCode} {s s' : St} {N R : St → Prop} {X : Nat → St → Prop} (q : s = s') : aw cx c N X R s = aw cx c N X R s' := by rw [q]
@[congr] theorem c_aOp {o : LOp} {s s' : St} {K : V → St → Prop} (q : s = s') : aOp cx o s K = aOp cx o s' K := by rw [q]
end
theorem loopP_intro {fx : List Nat} {f : (St → Prop) → St → Prop} {s : St} {G : Type} (pat : G → St) (I : G → Prop) (μ : G → Nat) (g : G) (h0 : I g) (h1 : leS fx s (pat g))
    (h : ∀ g, I g → f (fun s' => ∃ g', (I g' ∧ μ g' < μ g) ∧ leS fx s' (pat g')) (pat g)) : loopP fx f s :=
  ⟨G, pat, I, μ, leS fx, fun a _ h => ⟨a, .refl a, h⟩, ⟨g, h0, _, .refl s, h1⟩, h⟩
theorem loopP_ghost {fx : List Nat} {f : (St → Prop) → St → Prop} {s s0 : St} {G : Type} (hg : Ghost fx s s0) (pat : G → St) (I : G → Prop) (μ : G → Nat) (g : G) (h0 : I g) (h1 : leS fx s0 (pat g))
    (h : ∀ g, I g → f (fun s' => ∃ g', (I g' ∧ μ g' < μ g) ∧ leS fx s' (pat g')) (pat g)) : loopP fx f s :=
  ⟨G, pat, I, μ, leS fx, fun a _ h => ⟨a, .refl a, h⟩, ⟨g, h0, s0, hg, h1⟩, h⟩
theorem loopP_back {fx : List Nat} {f : (St → Prop) → St → Prop} {s : St} {G : Type} (pat : G → St) (I : G → Prop) (μ : G → Nat) (g : G) (h0 : I g) (h1 : leG fx s (pat g))
    (h : ∀ g, I g → f (fun s' => ∃ g', (I g' ∧ μ g' < μ g) ∧ leG fx s' (pat g')) (pat g)) : loopP fx f s :=
  ⟨G, pat, I, μ, leG fx, fun _ _ h => h, ⟨g, h0, h1⟩, h⟩
theorem loopP_give {fx : List Nat} {f : (St → Prop) → St → Prop} {s : St} {G : Type} (M : Nat → Bool) (pat : G → St) (I : G → Prop) (μ : G → Nat) (g : G) (hM : ∀ k ∈ fx, M k = false) (h0 : I g) (h1 : leS fx (s.give M) (pat g))
    (h : ∀ g, I g → f (fun s' => ∃ g', (I g' ∧ μ g' < μ g) ∧ leS fx s' (pat g')) (pat g)) : loopP fx f s :=
  loopP_ghost (.give M hM (.refl _)) pat I μ g h0 h1 h
theorem callP_pure {cx : Cx} {f : FuncId} {args : List V} {e : Env} {h : List Blk} {b : Nat} {K : V → St → Prop} (zas : List V) (R : V → List Blk → Prop) (h1 : lendsOk h (fun _ => none) args ∧ wkL zas (lends h (fun _ => none) args)) (h2 : cx.C f zas [] [] R)
    (h3 : ∀ r h', R r h' → keepP cx.fx (h ++ h'.map (renB (fun j => some (h.length + j)))) ∧ K (ren (fun j => some (h.length + j)) r) ⟨e, h ++ h'.map (renB (fun j => some (h.length + j))), b⟩) : callP cx f args ⟨e, h, b⟩ K := by
  have hp : pos [] = fun _ => none := rfl
  have hb : back [] h.length = fun j => some (h.length + j) := by funext j; simp [back]
  have hk : ∀ l : List Blk, l.map (killB []) = l := killB_nil
  refine ⟨[], zas, [], R, ⟨⟨List.nodup_nil, by simp⟩, by simp⟩, ?_, ?_, by simpa using h2, ?_⟩
  · rw [hp]; exact h1.1
  · rw [hp]; exact h1.2
  · intro r h' hR _
    have := h3 r h' hR
    simp only [hb, setAll, List.filterMap_nil, hk, killE_nil]
    exact this
section
variable {h : List Blk} {e : Env} {s : St} {fx bn : List Nat} {b : Nat}
def viewB (b : Blk) (i n : Nat) (K : Nat → List (List V) → Prop) : Prop :=
  match b with
  | .arr sz els => i + n ≤ els.length ∧ K sz ((els.drop i).take n)
  | _ => False
theorem jr {α : Type} {x : α} {K : α → Prop} : optK (some x) K = K x := rfl
theorem jt {α : Type} {K : α → Prop} : optK none K = False := rfl
theorem ju {n : Option Nat} {k i f : Nat} {K : V → Prop} : loadP h n (.ptr k i f) K = loadB n i f (blk h k) K := rfl
theorem jv {n : Option Nat} {z i f : Nat} {els : List (List V)} {K : V → Prop} : loadP h n (.rp z els i f) K = ∃ hi : i < els.length, loadCs n f (els[i]'hi) K := rfl
theorem jx {n : Option Nat} {i f : Nat} {cs : List V} {K : V → Prop} : loadB n i f (.var cs) K = loadCs n f cs K := rfl
theorem jy {n : Option Nat} {i f z : Nat} {els : List (List V)} {K : V → Prop} : loadB n i f (.arr z els) K = ∃ hi : i < els.length, loadCs n f (els[i]'hi) K := rfl
theorem jz {n : Option Nat} {i f z : Nat} {els : List (List V)} {K : V → Prop} : loadB n i f (.arv z els) K = ∃ hi : i < els.length, loadCs n f (els[i]'hi) K := rfl
theorem jA {f : Nat} {cs : List V} {K : V → Prop} : loadCs none f cs K = optK cs[f]? K := rfl
theorem jB {m f : Nat} {cs : List V} {K : V → Prop} : loadCs (some m) f cs K = (f + m ≤ cs.length ∧ K (.agg ((cs.drop f).take m))) := rfl
theorem jC {n k i f : Nat} {cs : List V} {K : List Blk → Prop} : storeP bn h n (.ptr k i f) cs K = ((cs.length = n ∧ k ∉ bn) ∧ cs.all isC = true ∧ storeB n i f cs (blk h k) fun b => K (h.set k b)) := rfl
theorem jD {n i f : Nat} {cs old : List V} {K : Blk → Prop} : storeB n i f cs (.var old) K = ((f + n ≤ old.length) ∧ K (.var (splice old f cs))) := rfl
theorem jE {n i f z : Nat} {cs : List V} {els : List (List V)} {K : Blk → Prop} : storeB n i f cs (.arr z els) K = ((f + n ≤ z ∧ cs.all isD = true) ∧ ∃ hi : i < els.length, K (.arr z (els.set i (splice (els[i]'hi) f cs)))) := rfl
theorem jF {n i f z : Nat} {cs : List V} {els : List (List V)} {K : Blk → Prop} : storeB n i f cs (.arv z els) K = ((f + n ≤ z) ∧ ∃ hi : i < els.length, K (.arv z (els.set i (splice (els[i]'hi) f cs)))) := rfl
theorem jG {o k i f : Nat} {K : V → Prop} : fldP o (.ptr k i f) K = K (.ptr k i (f + o)) := rfl
theorem jH {o z i f : Nat} {els : List (List V)} {K : V → Prop} : fldP o (.rp z els i f) K = K (.rp z els i (f + o)) := rfl
theorem jI {z k i m : Nat} {n : Int} {K : V → Prop} : idxP h z n (.sl k i m) K = (arrSz z (blk h k) ∧ (0 ≤ n ∧ n < m) ∧ K (.ptr k (i + n.toNat) 0)) := rfl
theorem jJ {z y : Nat} {els : List (List V)} {n : Int} {K : V → Prop} : idxP h z n (.ro y els) K = (y = z ∧ (0 ≤ n ∧ n < els.length) ∧ K (.rp y els n.toNat 0)) := rfl
theorem jK {z y : Nat} {els : List (List V)} {n : Int} {K : V → Prop} : idxP h z n (.bro y els) K = (y = z ∧ (0 ≤ n ∧ n < els.length) ∧ K (.rp y els n.toNat 0)) := rfl
theorem jL {z y : Nat} {els : List (List V)} {n : Int} {K : V → Prop} : idxP h z n (.full y els) K = (y = z ∧ (0 ≤ n ∧ n < els.length) ∧ K (.rp y els n.toNat 0)) := rfl
theorem jM {z : Nat} {n : Int} {K : V → Prop} : idxP h z n (.v (.slice none 0 0)) K = False := rfl
theorem jN {k i n : Nat} {K : V → Prop} : lenP (.sl k i n) K = (n ≤ maxLen → K (.i n)) := rfl
theorem jO {y : Nat} {els : List (List V)} {K : V → Prop} : lenP (.ro y els) K = (els.length ≤ maxLen → K (.i els.length)) := rfl
theorem jP {y : Nat} {els : List (List V)} {K : V → Prop} : lenP (.bro y els) K = (els.length ≤ maxLen → K (.i els.length)) := rfl
theorem jQ {y : Nat} {els : List (List V)} {K : V → Prop} : lenP (.full y els) K = (els.length ≤ maxLen → K (.i els.length)) := rfl
theorem jR {K : V → Prop} : lenP (.v (.slice none 0 0)) K = K (.i 0) := rfl
theorem jS {t : ByteArray} {K : V → Prop} : lensP (.v (.string t)) K = K (.i t.size) := rfl
theorem jT {vs : List V} {K : List V → Prop} : tupK (.tup vs) K = K vs := rfl
theorem jU {k i f : Nat} {K : V → Prop} : nilK (.ptr k i f) K = K (.ptr k i f) := rfl
theorem jV {f : FuncId} {cs : List V} {K : V → Prop} : nilK (.clo f cs) K = K (.clo f cs) := rfl
theorem jW {f : FuncId} {cs : List V} {K : FuncId → List V → Prop} : cloK (.clo f cs) K = K f cs := rfl
theorem jX {cs : List V} {K : List V → Prop} : aggK (.agg cs) K = K cs := rfl
theorem jY {k i n : Nat} {K : Nat → List (List V) → Prop} : viewK h (.sl k i n) K = viewB (blk h k) i n K := rfl
theorem jZ {i n z : Nat} {els : List (List V)} {K : Nat → List (List V) → Prop} : viewB (.arr z els) i n K = (i + n ≤ els.length ∧ K z ((els.drop i).take n)) := rfl
theorem qaa {z : Nat} {els : List (List V)} {K : Nat → List (List V) → Prop} : viewK h (.ro z els) K = K z els := rfl
theorem qab {z : Nat} {els : List (List V)} {K : Nat → List (List V) → Prop} : viewK h (.bro z els) K = K z els := rfl
theorem qac {z : Nat} {els : List (List V)} {K : Nat → List (List V) → Prop} : viewK h (.full z els) K = K z els := rfl
theorem qad {K : Nat → List (List V) → Prop} : viewK h (.v (.slice none 0 0)) K = K 0 [] := rfl
theorem qae {K : Option Int → Prop} : optI none K = K none := rfl
theorem qaf {k : IntKind} {n : Int} {K : Option Int → Prop} : optI (some (.v (.int k n))) K = K (some n) := rfl
theorem qag {z k i n : Nat} {l u m : Option Int} {K : V → Prop} : slcP h z (.sl k i n) l u m K = (arrSz z (blk h k) ∧ slcOk n l u m ∧ K (.sl k (i + (l.getD 0).toNat) ((u.getD n).toNat - (l.getD 0).toNat))) := rfl
theorem qah {z y : Nat} {els : List (List V)} {l u m : Option Int} {K : V → Prop} : slcP h z (.ro y els) l u m K = (y = z ∧ slcOk els.length l u m ∧ K (.ro y ((els.drop (l.getD 0).toNat).take ((u.getD els.length).toNat - (l.getD 0).toNat)))) := rfl
theorem qai {z y : Nat} {els : List (List V)} {l u m : Option Int} {K : V → Prop} : slcP h z (.bro y els) l u m K = (y = z ∧ slcOk els.length l u m ∧ K (.bro y ((els.drop (l.getD 0).toNat).take ((u.getD els.length).toNat - (l.getD 0).toNat)))) := rfl
theorem qaj {z : Nat} {l u m : Option Int} {K : V → Prop} : slcP h z (.v (.slice none 0 0)) l u m K = (slcOk 0 l u m ∧ K (.v (.slice none 0 0))) := rfl
theorem qak {k i n : Nat} {K : Bool → Prop} : eqnP (.sl k i n) K = ((0 < n → K false) ∧ (n = 0 → K true ∧ K false)) := rfl
theorem qal {z : Nat} {els : List (List V)} {K : Bool → Prop} : eqnP (.ro z els) K = ((els ≠ [] → K false) ∧ (els = [] → K true ∧ K false)) := rfl
theorem qam {z : Nat} {els : List (List V)} {K : Bool → Prop} : eqnP (.bro z els) K = ((els ≠ [] → K false) ∧ (els = [] → K true ∧ K false)) := rfl
theorem qan {K : Bool → Prop} : eqnP (.v (.slice none 0 0)) K = K true := rfl
theorem qao {id sz bytes : Nat} {old new : List (List V)} {K : V → St → Prop} : appNew id sz bytes ⟨e, h, b⟩ old new K = ((old.length + new.length) * bytes ≤ 140737488355328 ∧ freshP h id ∧ K (.sl id 0 (old.length + new.length)) ⟨e, h.set id (.arr sz (old ++ new)), b⟩) := rfl
theorem qap {k i n sz bytes z : Nat} {new els : List (List V)} {K : V → St → Prop} : appB fx bn k i n sz bytes ⟨e, h, b⟩ new (.arr z els) K = ((z = sz ∧ i + n ≤ els.length ∧ (n + new.length) * bytes ≤ 140737488355328) ∧ (k ∉ fx ∧ k ∉ bn) ∧ K (.sl k 0 (n + new.length)) ⟨killE [k] e, (h.map (killB [k])).set k (.arr sz ((els.drop i).take n ++ new)), b⟩) := rfl
theorem qaq {k i n id sz bytes : Nat} {new : List (List V)} {K : V → St → Prop} : appP fx bn id sz bytes ⟨e, h, b⟩ (.sl k i n) new K = appB fx bn k i n sz bytes ⟨e, h, b⟩ new (blk h k) K := rfl
theorem qar {id sz bytes : Nat} {new : List (List V)} {K : V → St → Prop} : appP fx bn id sz bytes s (.v (.slice none 0 0)) new K = appNew id sz bytes s [] new K := rfl
theorem qas {id sz bytes z : Nat} {els new : List (List V)} {K : V → St → Prop} : appP fx bn id sz bytes s (.full z els) new K = ((z = sz ∧ new ≠ []) ∧ appNew id sz bytes s els new K) := rfl
theorem qat {k i n sz z : Nat} {new els : List (List V)} {K : V → St → Prop} : copyB bn k i n sz ⟨e, h, b⟩ new (.arr z els) K = ((z = sz ∧ i + n ≤ els.length ∧ k ∉ bn) ∧ K (.i (min new.length n : Nat)) ⟨e, h.set k (.arr sz (els.take i ++ new.take n ++ els.drop (i + min new.length n))), b⟩) := rfl
theorem qau {k i n sz : Nat} {new : List (List V)} {K : V → St → Prop} : copyP bn sz ⟨e, h, b⟩ (.sl k i n) new K = copyB bn k i n sz ⟨e, h, b⟩ new (blk h k) K := rfl
theorem qav {kd : TypeDesc} {y : Value} {K : Value → Prop} : keyK kd (.v y) K = (isKey kd y = true ∧ K y) := rfl
theorem qaw {k : Nat} {K : Nat → List (Value × V × Nat) → Nat → Prop} : mapK h (.mp k) K = mapB (blk h k) (K k) := rfl
theorem qax {es : List (Value × V × Nat)} {c : Nat} {K : List (Value × V × Nat) → Nat → Prop} : mapB (.map es c) K = K es c := rfl
theorem qay {kd : TypeDesc} {key z : Value} {ok : Bool} {k : Nat} {K : V → Prop} : lookM h kd key z ok (.mp k) K = mapB (blk h k) fun es _ => lookK (mfind kd key es 0) z ok K := rfl
theorem qaz {kd : TypeDesc} {key z : Value} {ok : Bool} {K : V → Prop} : lookM h kd key z ok (.v (.map none)) K = lookK (some none) z ok K := rfl
theorem qaA {i : Nat} {x : V} {z : Value} {K : V → Prop} : lookK (some (some (i, x))) z true K = K (.tup [x, .b true]) := rfl
theorem qaB {i : Nat} {x : V} {z : Value} {K : V → Prop} : lookK (some (some (i, x))) z false K = K x := rfl
theorem qaC {z : Value} {K : V → Prop} : lookK (some none) z true K = K (.tup [ofConst z, .b false]) := rfl
theorem qaD {z : Value} {K : V → Prop} : lookK (some none) z false K = K (ofConst z) := rfl
theorem qaE {i c : Nat} {y x : V} {key : Value} {es : List (Value × V × Nat)} {K : Blk → Prop} : msetK (some (some (i, y))) key x es c K = K (.map (es.modify i fun e => (key, x, e.2.2)) c) := rfl
theorem qaF {c : Nat} {x : V} {key : Value} {es : List (Value × V × Nat)} {K : Blk → Prop} : msetK (some none) key x es c K = K (.map (es ++ [(key, x, c)]) (c + 1)) := rfl
theorem qaG {q : Value × V × Nat} {K : V → Prop} : entK (some q) K = K (.tup [.v q.1, q.2.1]) := rfl
theorem qaH {kd : TypeDesc} {key : Value} {i : Nat} : mfind kd key [] i = some none := rfl
theorem qaI {k : IntKind} {a : Int} : isKey (.int k) (.int k a) = true := by simp [isKey]
theorem qaJ {k : Nat} {K : Nat → V → Nat → List Nat → Nat → Prop} : itK h (.ptr k 0 0) K = itB (blk h k) (K k) := rfl
theorem qaK {m : V} {si la : Nat} {se : List Nat} {K : V → Nat → List Nat → Nat → Prop} : itB (.it m si se la) K = K m si se la := rfl
section
variable {k : IntKind} {a c : Int} {K : V → Prop}
theorem qaL : binInt .add true k a c K = ((lo k ≤ a + c ∧ a + c ≤ hi k) ∧ K (.v (.int k (a + c)))) := rfl
theorem qaM : binInt .add false k a c K = K (.v (.int k (k.wrap (a + c)))) := rfl
theorem qaN : binInt .sub true k a c K = ((lo k ≤ a - c ∧ a - c ≤ hi k) ∧ K (.v (.int k (a - c)))) := rfl
theorem qaO : binInt .sub false k a c K = K (.v (.int k (k.wrap (a - c)))) := rfl
theorem qaP : binInt .mul true k a c K = ((lo k ≤ a * c ∧ a * c ≤ hi k) ∧ K (.v (.int k (a * c)))) := rfl
theorem qaQ : binInt .mul false k a c K = K (.v (.int k (k.wrap (a * c)))) := rfl
theorem qaR {x : Bool} : binInt .eql x k a c K = K (.b (a == c)) := rfl
theorem qaS {x : Bool} : binInt .neq x k a c K = K (.b (a != c)) := rfl
theorem qaT {x : Bool} : binInt .lss x k a c K = K (.b (decide (a < c))) := rfl
theorem qaU {x : Bool} : binInt .leq x k a c K = K (.b (decide (a ≤ c))) := rfl
theorem qaV {x : Bool} : binInt .gtr x k a c K = K (.b (decide (c < a))) := rfl
theorem qaW {x : Bool} : binInt .geq x k a c K = K (.b (decide (c ≤ a))) := rfl
theorem qaX : binInt .quo true k a c K = (c ≠ 0 ∧ (lo k ≤ a.tdiv c ∧ a.tdiv c ≤ hi k) ∧ K (.v (.int k (a.tdiv c)))) := rfl
theorem qaY : binInt .quo false k a c K = (c ≠ 0 ∧ K (.v (.int k (k.wrap (a.tdiv c))))) := rfl
theorem qaZ {x : Bool} : binInt .rem x k a c K = (c ≠ 0 ∧ K (.v (.int k (a.tmod c)))) := rfl
end
@[congr] theorem c_keyK {kd : TypeDesc} {x x' : V} {K : Value → Prop} (q : x = x') : keyK kd x K = keyK kd x' K := by rw [q]
@[congr] theorem c_mapK {x x' : V} {K : Nat → List (Value × V × Nat) → Nat → Prop} (q : x = x') : mapK h x K = mapK h x' K := by rw [q]
@[congr] theorem c_mapB {x x' : Blk} {K : List (Value × V × Nat) → Nat → Prop} (q : x = x') : mapB x K = mapB x' K := by rw [q]
@[congr] theorem c_lookM {kd : TypeDesc} {key key' z : Value} {ok : Bool} {m m' : V} {K : V → Prop} (q : m = m') (q2 : key = key') : lookM h kd key z ok m K = lookM h kd key' z ok m' K := by rw [q, q2]
@[congr] theorem c_lookK {r r' : Option (Option (Nat × V))} {z : Value} {ok : Bool} {K : V → Prop} (q : r = r') : lookK r z ok K = lookK r' z ok K := by rw [q]
@[congr] theorem c_msetK {r r' : Option (Option (Nat × V))} {key key' : Value} {x x' : V} {es es' : List (Value × V × Nat)} {c c' : Nat} {K : Blk → Prop} (q : r = r') (q1 : key = key') (q2 : x = x') (q3 : es = es') (q4 : c = c') : msetK r key x es c K = msetK r' key' x' es' c' K := by rw [q, q1, q2, q3, q4]
@[congr] theorem c_nextK {es es' : List (Value × V × Nat)} {si si' la la' : Nat} {se se' : List Nat} {D : Prop} {K : Value → V → Nat → Prop} (q : es = es') (q1 : si = si') (q2 : se = se') (q3 : la = la') : nextK es si se la D K = nextK es' si' se' la' D K := by rw [q, q1, q2, q3]
@[congr] theorem c_entK {r r' : Option (Value × V × Nat)} {K : V → Prop} (q : r = r') : entK r K = entK r' K := by rw [q]
@[congr] theorem c_itK {x x' : V} {K : Nat → V → Nat → List Nat → Nat → Prop} (q : x = x') : itK h x K = itK h x' K := by rw [q]
@[congr] theorem c_itB {x x' : Blk} {K : V → Nat → List Nat → Nat → Prop} (q : x = x') : itB x K = itB x' K := by rw [q]
@[congr] theorem c_viewB {i n : Nat} {x x' : Blk} {K : Nat → List (List V) → Prop} (q : x = x') : viewB x i n K = viewB x' i n K := by rw [q]
end
section
variable {α : Type} {a : α} {l : List α} {x : α} {y : Nat}
theorem lg0 : (a :: l)[1]? = l[0]? := rfl
theorem zY : (a :: l).set 1 x = a :: l.set 0 x := rfl
theorem zZ : (a :: l).drop 1 = l.drop 0 := rfl
theorem ka : (a :: l).take 1 = a :: l.take 0 := rfl
theorem kc : List.replicate 1 x = x :: List.replicate 0 x := rfl
theorem lg1 : (a :: l)[2]? = l[1]? := rfl
theorem kg : (a :: l).set 2 x = a :: l.set 1 x := rfl
theorem kh : (a :: l).drop 2 = l.drop 1 := rfl
theorem ki : (a :: l).take 2 = a :: l.take 1 := rfl
theorem kj : List.replicate 2 x = x :: List.replicate 1 x := rfl
theorem lg2 : (a :: l)[3]? = l[2]? := rfl
theorem kk : (a :: l).set 3 x = a :: l.set 2 x := rfl
theorem kn : (a :: l).drop 3 = l.drop 2 := rfl
theorem ko : (a :: l).take 3 = a :: l.take 2 := rfl
theorem kq : List.replicate 3 x = x :: List.replicate 2 x := rfl
theorem lg3 : (a :: l)[4]? = l[3]? := rfl
theorem kr : (a :: l).set 4 x = a :: l.set 3 x := rfl
theorem kw : (a :: l).drop 4 = l.drop 3 := rfl
theorem kx : (a :: l).take 4 = a :: l.take 3 := rfl
theorem ky : List.replicate 4 x = x :: List.replicate 3 x := rfl
theorem lg4 : (a :: l)[5]? = l[4]? := rfl
theorem kz : (a :: l).set 5 x = a :: l.set 4 x := rfl
theorem kA : (a :: l).drop 5 = l.drop 4 := rfl
theorem kB : (a :: l).take 5 = a :: l.take 4 := rfl
theorem kC : List.replicate 5 x = x :: List.replicate 4 x := rfl
theorem lg5 : (a :: l)[6]? = l[5]? := rfl
theorem kD : (a :: l).set 6 x = a :: l.set 5 x := rfl
theorem kF : (a :: l).drop 6 = l.drop 5 := rfl
theorem kG : (a :: l).take 6 = a :: l.take 5 := rfl
theorem kH : List.replicate 6 x = x :: List.replicate 5 x := rfl
theorem lg6 : (a :: l)[7]? = l[6]? := rfl
theorem kI : (a :: l).set 7 x = a :: l.set 6 x := rfl
theorem kJ : (a :: l).drop 7 = l.drop 6 := rfl
theorem kK : (a :: l).take 7 = a :: l.take 6 := rfl
theorem kL : List.replicate 7 x = x :: List.replicate 6 x := rfl
theorem lg7 : (a :: l)[8]? = l[7]? := rfl
theorem kM : (a :: l).set 8 x = a :: l.set 7 x := rfl
theorem kN : (a :: l).drop 8 = l.drop 7 := rfl
theorem kO : (a :: l).take 8 = a :: l.take 7 := rfl
theorem kP : List.replicate 8 x = x :: List.replicate 7 x := rfl
theorem lg8 : (a :: l)[9]? = l[8]? := rfl
theorem kQ : (a :: l).set 9 x = a :: l.set 8 x := rfl
theorem kR : (a :: l).drop 9 = l.drop 8 := rfl
theorem kS : (a :: l).take 9 = a :: l.take 8 := rfl
theorem kT : List.replicate 9 x = x :: List.replicate 8 x := rfl
theorem lg9 : (a :: l)[10]? = l[9]? := rfl
theorem kU : (a :: l).set 10 x = a :: l.set 9 x := rfl
theorem kV : (a :: l).drop 10 = l.drop 9 := rfl
theorem kW : (a :: l).take 10 = a :: l.take 9 := rfl
theorem kX : List.replicate 10 x = x :: List.replicate 9 x := rfl
theorem kY : (a :: l)[11]? = l[10]? := rfl
theorem kZ : (a :: l).set 11 x = a :: l.set 10 x := rfl
theorem wa : (a :: l).drop 11 = l.drop 10 := rfl
theorem wb : (a :: l).take 11 = a :: l.take 10 := rfl
theorem wc : List.replicate 11 x = x :: List.replicate 10 x := rfl
theorem wd : (a :: l)[12]? = l[11]? := rfl
theorem we : (a :: l).set 12 x = a :: l.set 11 x := rfl
theorem wg : (a :: l).drop 12 = l.drop 11 := rfl
theorem wh : (a :: l).take 12 = a :: l.take 11 := rfl
theorem wj : List.replicate 12 x = x :: List.replicate 11 x := rfl
theorem wl : (a :: l)[13]? = l[12]? := rfl
theorem wm : (a :: l).set 13 x = a :: l.set 12 x := rfl
theorem wo : (a :: l).drop 13 = l.drop 12 := rfl
theorem wq : (a :: l).take 13 = a :: l.take 12 := rfl
theorem wr : List.replicate 13 x = x :: List.replicate 12 x := rfl
theorem ws : (a :: l)[14]? = l[13]? := rfl
theorem wt : (a :: l).set 14 x = a :: l.set 13 x := rfl
theorem wu : (a :: l).drop 14 = l.drop 13 := rfl
theorem wv : (a :: l).take 14 = a :: l.take 13 := rfl
theorem ww : List.replicate 14 x = x :: List.replicate 13 x := rfl
theorem wx : (a :: l)[15]? = l[14]? := rfl
theorem wy : (a :: l).set 15 x = a :: l.set 14 x := rfl
theorem wz : (a :: l).drop 15 = l.drop 14 := rfl
theorem wC : (a :: l).take 15 = a :: l.take 14 := rfl
theorem wD : List.replicate 15 x = x :: List.replicate 14 x := rfl
theorem wE : (a :: l)[16]? = l[15]? := rfl
theorem wF : (a :: l).set 16 x = a :: l.set 15 x := rfl
theorem wG : (a :: l).drop 16 = l.drop 15 := rfl
theorem wI : (a :: l).take 16 = a :: l.take 15 := rfl
theorem wJ : List.replicate 16 x = x :: List.replicate 15 x := rfl
theorem wK : (a :: l)[17]? = l[16]? := rfl
theorem wL : (a :: l).set 17 x = a :: l.set 16 x := rfl
theorem wM : (a :: l)[18]? = l[17]? := rfl
theorem wN : (a :: l).set 18 x = a :: l.set 17 x := rfl
theorem wO : (a :: l)[19]? = l[18]? := rfl
theorem wP : (a :: l).set 19 x = a :: l.set 18 x := rfl
theorem wQ : (a :: l)[20]? = l[19]? := rfl
theorem wR : (a :: l).set 20 x = a :: l.set 19 x := rfl
theorem wS : (a :: l)[21]? = l[20]? := rfl
theorem wT : (a :: l).set 21 x = a :: l.set 20 x := rfl
theorem wU : (a :: l)[22]? = l[21]? := rfl
theorem wV : (a :: l).set 22 x = a :: l.set 21 x := rfl
theorem wW : (a :: l)[23]? = l[22]? := rfl
theorem wX : (a :: l).set 23 x = a :: l.set 22 x := rfl
theorem wY : (a :: l)[24]? = l[23]? := rfl
theorem wZ : (a :: l).set 24 x = a :: l.set 23 x := rfl
theorem ja : (a :: l)[25]? = l[24]? := rfl
theorem jb : (a :: l)[26]? = l[25]? := rfl
theorem jc : (a :: l)[27]? = l[26]? := rfl
theorem jd : (a :: l)[28]? = l[27]? := rfl
theorem je : (a :: l)[29]? = l[28]? := rfl
theorem jf : (a :: l)[30]? = l[29]? := rfl
theorem jg : (a :: l)[31]? = l[30]? := rfl
theorem jh : (a :: l)[32]? = l[31]? := rfl
theorem ji : (a :: l)[33]? = l[32]? := rfl
theorem jj : (a :: l)[34]? = l[33]? := rfl
theorem jk : (a :: l)[35]? = l[34]? := rfl
theorem jl : (a :: l)[36]? = l[35]? := rfl
theorem jm : (a :: l)[37]? = l[36]? := rfl
theorem jn : (a :: l)[38]? = l[37]? := rfl
theorem jo : (a :: l)[39]? = l[38]? := rfl
theorem jp : (a :: l)[40]? = l[39]? := rfl
theorem jq : List.replicate 0 x = [] := rfl
end
end Go.Fx
namespace Go.Fx
open Go.RowKit
theorem rep_none {ρ : Nat → Loc} {X : Nat → Prop} {w : World} {h : List Blk} (hr : Rep ρ X w h) : Rep (gvLoc ρ fun _ => true) X w [] :=
  ⟨fun j k _ h1 => by simp [gvLoc] at h1, fun k _ => by simp [gvLoc], fun k b hb => by simp at hb, fun b ho => hr.disj b (gv_own ho), fun k h1 => by simp [gvLoc] at h1, hr.xlt⟩
theorem Fn_give {P : Program} {f : FuncId} {args : List V} {mv : List Nat} {R : V → List Blk → Prop} {y : V} (h : Fn P f args [] mv R) (hy : ∀ r hs, R r hs → wk y (gvV (fun _ => true) hs r)) : Fn P f args [] mv (Is y) := by
  intro ρ X w vals h1 h2
  refine Calls.mono (h ρ X w vals h1 h2) ?_
  rintro e w' ⟨val, r, h', ρ', q1, q2, q3, q4, q5, q6⟩
  exact ⟨val, y, [], _, q1, ⟨⟨rfl, rfl⟩, Nat.le_refl _⟩, q3.trans gv_fr, rep_none q4, wk_rep _ _ _ (hy r h' q2.1) (gv_rep q4 _ _ q5), fun k hk => by simp at hk⟩
theorem Fn_ghost {P : Program} {f : FuncId} {args : List V} {mv : List Nat} {R R' : V → List Blk → Prop} (h : Fn P f args [] mv R) (hR : ∀ r hs, R r hs → ∃ r' hs', R' r' hs' ∧ leG [] ⟨[(0, r)], hs, 0⟩ ⟨[(0, r')], hs', 0⟩) : Fn P f args [] mv R' := by
  intro ρ X w vals h1 h2
  refine Calls.mono (h ρ X w vals h1 h2) ?_
  rintro e w' ⟨val, r, h', ρ', q1, q2, q3, q4, q5, q6⟩
  obtain ⟨r', hs', g1, g2⟩ := hR r h' q2.1
  have hg : Good ρ X w [] 1 ⟨[(0, r)], h', 0⟩ ⟨#[val], []⟩ w' := by
    refine ⟨ρ', ⟨⟨q3, fun k hk => by simp at hk⟩, trivial⟩, ⟨q4, fun i => ?_⟩, rfl, Marks.nil⟩
    by_cases hi : i = 0
    · subst hi; exact q5
    · have : get [(0, r)] i = .any := by simp [get, hi]
      rw [this]; trivial
  obtain ⟨ρ2, ⟨⟨p1, _⟩, _⟩, ⟨p2, p3⟩, _⟩ := hg.leG g2
  exact ⟨val, r', hs', ρ2, q1, ⟨g1, Nat.zero_le _⟩, p1, p2, p3 0, fun k hk => by simp at hk⟩
end Go.Fx
namespace Go.Fx
open Go.RowKit
section
variable (P : Program)
def C0 : Ctr := fun f xs h0 mv R => Callable P f ∧ Fn P f xs h0 mv R
def I0 : Itr := fun f zas fx k Y h K => Callable P f ∧ Iter P f zas fx k Y h K
def Y0 : Nat → Yt := fun _ _ _ _ => False
def cxN (fx : List Nat) : Cx := ⟨C0 P, fx, [], I0 P, Y0, none⟩
theorem cxN_ok (fx : List Nat) : (cxN P fx).ok P := ⟨fun _ _ _ _ _ h => h, fun _ _ _ _ _ _ _ h => h⟩
def OkN (f : FuncId) (xs : List V) (h0 : List Blk) (mv : List Nat) (R : V → List Blk → Prop) : Prop := C0 P f xs h0 mv R
variable {P}
theorem okN_of (hP : P.follows .mixedOrders = true) {f : FuncId} {l0 l : LCode} {rs : List LRes} {nt : Nat} (fx : List Nat) (hl : rlF P f l0 = some (l, rs, nt)) {args : List V} {h0 : List Blk} {mv : List Nat} {R : V → List Blk → Prop} (hlen : args.length ≤ nt) (hb : keepP fx h0)
    (hfx : ∀ k, k < h0.length → k ∉ mv → k ∈ fx) (h : aw (cxN P fx) l (retP fx h0.length rs R) (fun _ _ => False) (retP fx h0.length rs R) ⟨args0 0 args, h0, 0⟩) : OkN P f args h0 mv R :=
  ⟨rlF_callable hl, Fn_rl hP (cxN_ok P fx) hl hlen hb hfx h⟩
theorem itN_of (hP : P.follows .mixedOrders = true) {f : FuncId} {l0 l : LCode} {nt : Nat} (fx : List Nat) (hl : rlF P f l0 = some (l, [], nt)) {args : List V} {h0 : List Blk} {k : Nat} {Y : Yt} {K : List Blk → Prop} (hlen : args.length ≤ nt)
    (h : aw ⟨C0 P, fx, [], I0 P, fun k' xs s Z => k' = k ∧ Y xs s Z, none⟩ l (fun s => K s.h) (fun _ _ => False) (fun s => K s.h) ⟨args0 0 args, h0, 0⟩) : I0 P f args fx k Y h0 K :=
  ⟨rlF_callable hl, Iter_rl (cx := ⟨C0 P, fx, [], I0 P, fun k' xs s Z => k' = k ∧ Y xs s Z, none⟩) hP ⟨fun _ _ _ _ _ h => h, fun _ _ _ _ _ _ _ h => h⟩ hl hlen h rfl rfl⟩
theorem okN_post {f : FuncId} {xs : List V} {h0 : List Blk} {mv : List Nat} {R R' : V → List Blk → Prop} (h : OkN P f xs h0 mv R) (hR : ∀ r h', R r h' → R' r h') : OkN P f xs h0 mv R' := by
  refine ⟨h.1, ?_⟩
  intro ρ X w vals h1 h2
  refine Calls.mono (h.2 ρ X w vals h1 h2) ?_
  rintro e w' ⟨val, r, h', ρ', q1, q2, q3, q4, q5, q6⟩
  exact ⟨val, r, h', ρ', q1, ⟨hR r h' q2.1, q2.2⟩, q3, q4, q5, q6⟩
theorem okN_give {f : FuncId} {xs : List V} {y : V} {R : V → List Blk → Prop} (h : OkN P f xs [] [] R) (hy : ∀ r hs, R r hs → wk y (gvV (fun _ => true) hs r)) : OkN P f xs [] [] (Is y) := ⟨h.1, Fn_give h.2 hy⟩
theorem okN_ghost {f : FuncId} {xs : List V} {R R' : V → List Blk → Prop} (h : OkN P f xs [] [] R) (hR : ∀ r hs, R r hs → ∃ r' hs', R' r' hs' ∧ leG [] ⟨[(0, r)], hs, 0⟩ ⟨[(0, r')], hs', 0⟩) : OkN P f xs [] [] R' := ⟨h.1, Fn_ghost h.2 hR⟩
end
def IsA (x : V) (h0 : List Blk) : V → List Blk → Prop := fun r h => r = x ∧ h = h0
theorem retP_isA {fx : List Nat} {n : Nat} {e : Env} {h : List Blk} {b : Nat} {rs : List LRes} {x : V} {h0 : List Blk} : retP fx n rs (IsA x h0) ⟨e, h, b⟩ = resP h e rs [] fun xs => (leH h h0 ∧ keepP fx h0 ∧ n ≤ h0.length ∧ wfV h0 (tupV xs) ∧ wfB h0 h0) ∧ tupV xs = x := by
  rw [retP_eq]
  congr 1
  funext xs
  apply propext
  constructor
  · rintro ⟨p, h1, h2, rfl⟩
    exact ⟨h1, h2⟩
  · rintro ⟨h1, h2⟩
    exact ⟨h0, h1, h2, rfl⟩
def IsQ {G : Type} (Q : G → Prop) (x : G → V) (h0 : G → List Blk) : V → List Blk → Prop := fun r h => ∃ g, Q g ∧ r = x g ∧ h = h0 g
theorem retP_isQ {G : Type} {Q : G → Prop} {fx : List Nat} {n : Nat} {e : Env} {h : List Blk} {b : Nat} {rs : List LRes} {x : G → V} {h0 : G → List Blk} (g : G) (hq : Q g)
    (hr : resP h e rs [] fun xs => (leH h (h0 g) ∧ keepP fx (h0 g) ∧ n ≤ (h0 g).length ∧ wfV (h0 g) (tupV xs) ∧ wfB (h0 g) (h0 g)) ∧ tupV xs = x g) : retP fx n rs (IsQ Q x h0) ⟨e, h, b⟩ := by
  have hm : ∀ {h : List Blk} {e : Env} (rs : List LRes) (acc : List V) {K K' : List V → Prop}, (∀ xs, K xs → K' xs) → resP h e rs acc K → resP h e rs acc K' := by
    intro h e rs
    induction rs with
    | nil => intro acc K K' hk h; exact hk _ h
    | cons r rs ih =>
      intro acc K K' hk hh
      cases r with
      | tmp t => exact ih _ hk hh
      | cell a n =>
        simp only [resP] at hh ⊢
        have hcs : ∀ (n : Option Nat) (f : Nat) (cs : List V) {A B : V → Prop}, (∀ x, A x → B x) → loadCs n f cs A → loadCs n f cs B := by
          intro n f cs A B hab hl
          unfold loadCs at hl ⊢
          split at hl
          · unfold optK at hl ⊢
            split at hl
            · exact hab _ hl
            · exact hl.elim
          · exact ⟨hl.1, hab _ hl.2⟩
        unfold loadP at hh ⊢
        split at hh
        · unfold loadB at hh ⊢
          split at hh
          · exact hcs _ _ _ (fun x => ih _ hk) hh
          · obtain ⟨hi, hh⟩ := hh; exact ⟨hi, hcs _ _ _ (fun x => ih _ hk) hh⟩
          · obtain ⟨hi, hh⟩ := hh; exact ⟨hi, hcs _ _ _ (fun x => ih _ hk) hh⟩
          · exact hh.elim
        · obtain ⟨hi, hh⟩ := hh; exact ⟨hi, hcs _ _ _ (fun x => ih _ hk) hh⟩
        · exact hh.elim
  rw [retP_eq]
  refine hm rs [] ?_ hr
  rintro xs ⟨h1, h2⟩
  exact ⟨h0 g, h1, g, hq, h2, rfl⟩
section
variable {cx : Cx} {f : FuncId} {args : List V} {e : Env} {h : List Blk} {b : Nat} {K : V → St → Prop}
theorem call_is {xs : List V} {x : V} (hC : cx.C f xs [] [] (Is x)) (h1 : lendsOk h (fun _ => none) args ∧ wkL xs (lends h (fun _ => none) args)) (hx : ren (fun j => some (h.length + j)) x = x) (keep : keepP cx.fx h) (h3 : K x ⟨e, h, b⟩) : callP cx f args ⟨e, h, b⟩ K := by
  refine callP_pure xs (Is x) h1 hC ?_
  rintro r h' ⟨rfl, rfl⟩
  simp only [List.map_nil, List.append_nil]
  exact ⟨keep, by rw [hx]; exact h3⟩
theorem call_isA (xs : List V) (x x' : V) (h0 h0' : List Blk) (hC : cx.C f xs [] [] (IsA x h0)) (h1 : lendsOk h (fun _ => none) args ∧ wkL xs (lends h (fun _ => none) args))
    (hx : ren (fun j => some (h.length + j)) x = x') (hh : h0.map (renB (fun j => some (h.length + j))) = h0') (keep : keepP cx.fx (h ++ h0')) (h3 : K x' ⟨e, h ++ h0', b⟩) : callP cx f args ⟨e, h, b⟩ K := by
  refine callP_pure xs (IsA x h0) h1 hC ?_
  rintro r h' ⟨rfl, rfl⟩
  rw [hx, hh]
  exact ⟨keep, h3⟩
theorem call_isN (ι : List Nat) (xs : List V) (x x' : V) (h0 h1 h' : List Blk) (hC : cx.C f xs h0 [] (IsA x h1))
    (hι : ι.Nodup ∧ ∀ k ∈ ι, k < h.length ∧ k ∉ cx.bn) (r0 : ι.map (fun k => renB (pos ι) (blk h k)) = h0) (ha : lendsOk h (pos ι) args ∧ wkL xs (lends h (pos ι) args)) (hlen : ι.length ≤ h1.length)
    (hh : setAll ι (h1.map (renB (back ι h.length))) h = h') (hx : ren (back ι h.length) x = x') (keep : keepP cx.fx h') (h3 : K x' ⟨e, h', b⟩) : callP cx f args ⟨e, h, b⟩ K := by
  have hkb : ∀ l : List Blk, l.map (killB []) = l := killB_nil
  refine ⟨ι, xs, [], IsA x h1, ⟨hι, by simp⟩, ha.1, ha.2, by rw [r0]; exact hC, ?_⟩
  rintro r h2 ⟨rfl, rfl⟩ _
  simp only [List.filterMap_nil, hkb, killE_nil, hh, hx]
  exact ⟨keep, h3⟩
theorem call_isM {G : Type} (Q : G → Prop) (ι mv M : List Nat) (xs : List V) (x : G → V) (h0 : List Blk) (h1 : G → List Blk) (hC : cx.C f xs h0 mv (IsQ Q x h1))
    (hι : ι.Nodup ∧ ∀ k ∈ ι, k < h.length ∧ k ∉ cx.bn) (hM : mv.filterMap (ι[·]?) = M ∧ ∀ j ∈ mv, ∀ k, ι[j]? = some k → k ∉ cx.fx) (r0 : ι.map (fun k => renB (pos ι) (blk h k)) = h0) (ha : lendsOk h (pos ι) args ∧ wkL xs (lends h (pos ι) args))
    (h3 : ∀ g, Q g → keepP cx.fx (setAll ι ((h1 g).map (renB (back ι h.length))) (h.map (killB M))) ∧ K (ren (back ι h.length) (x g)) ⟨killE M e, setAll ι ((h1 g).map (renB (back ι h.length))) (h.map (killB M)), b⟩) : callP cx f args ⟨e, h, b⟩ K := by
  refine ⟨ι, xs, mv, IsQ Q x h1, ⟨hι, hM.2⟩, ha.1, ha.2, by rw [r0]; exact hC, ?_⟩
  rintro r h2 ⟨g, hq, rfl, rfl⟩ _
  rw [hM.1]
  exact h3 g hq
end
end Go.Fx
namespace Go.Fx
open Go.RowKit
def rcdB (b : Option Blk) (K : RS → Env → Prop) : Prop :=
  match b with
  | some (.rcd t e) => K t e
  | _ => False
theorem rcdB_s {t : RS} {e : Env} {K : RS → Env → Prop} : rcdB (some (.rcd t e)) K = K t e := rfl
@[congr] theorem c_rcdB {b b' : Option Blk} {K : RS → Env → Prop} (q : b = b') : rcdB b K = rcdB b' K := by rw [q]
theorem rcdK_b {h : List Blk} {k : Nat} {K : RS → Env → Prop} : rcdK h k K = rcdB h[k]? K := by
  unfold rcdK rcdB; rfl
def itrK (x : V) (K : Nat → Prop) : Prop :=
  match x with
  | .itr k => K k
  | _ => False
theorem itrK_i {k : Nat} {K : Nat → Prop} : itrK (.itr k) K = K k := rfl
@[congr] theorem c_itrK {x x' : V} {K : Nat → Prop} (q : x = x') : itrK x K = itrK x' K := by rw [q]
def callY (Y : Nat → Yt) (k : Nat) (xs : List V) (s : St) (K : V → St → Prop) : Prop := Y k xs s K
@[congr] theorem c_callY {Y : Nat → Yt} {k : Nat} {xs xs' : List V} {s s' : St} {K : V → St → Prop} (q : xs = xs') (q2 : s = s') : callY Y k xs s K = callY Y k xs' s' K := by rw [q, q2]
def endT (t : RS) (A : Prop) (B : Nat → Prop) (C : Prop) : Prop :=
  match t with
  | .ready => A
  | .out none => C
  | .out (some j) => B j
  | _ => False
theorem endT_r {A C : Prop} {B : Nat → Prop} : endT .ready A B C = A := rfl
theorem endT_n {A C : Prop} {B : Nat → Prop} : endT (.out none) A B C = C := rfl
theorem endT_s {A C : Prop} {B : Nat → Prop} {j : Nat} : endT (.out (some j)) A B C = B j := rfl
@[congr] theorem c_endT {t t' : RS} {A C : Prop} {B : Nat → Prop} (q : t = t') : endT t A B C = endT t' A B C := by rw [q]
section
variable {cx : Cx} {e : Env} {h : List Blk} {b : Nat} {K : V → St → Prop} {Ks : St → Prop} {N R : St → Prop} {X : Nat → St → Prop} {d : Option Nat} {op : LOp}
@[congr] theorem c_aOpsY {l : List LOper} {s s' : St} {Ks : St → Prop} (q : s = s') : aOpsY cx l s Ks = aOpsY cx l s' Ks := by rw [q]
theorem aw_yreg {m n : Nat} {l : List LOper} : aw cx (.yreg m n l) N X R ⟨e, h, b⟩ = aOpsY cx l ⟨e, h ++ List.replicate n .dead, h.length⟩ N := rfl
theorem aOpsY_nil : aOpsY cx [] ⟨e, h, b⟩ Ks = Ks ⟨e, h, b⟩ := rfl
theorem yo_yld {f : Operand} {xs : List Operand} {r : List LOper} : aOpsY cx (⟨d, .yld f xs, none⟩ :: r) ⟨e, h, b⟩ Ks = itrK (ev e f) fun k => callY cx.y k (xs.map (ev e)) ⟨e, h, b⟩ fun x s' => aOpsY cx r (s'.put d x) Ks := by
  show yieldP cx f xs ⟨e, h, b⟩ _ = _
  unfold yieldP itrK callY; rfl
theorem yo_yldg {f : Operand} {xs : List Operand} {g : Nat} {w : Bool} {r : List LOper} : aOpsY cx (⟨d, .yld f xs, some (g, w)⟩ :: r) ⟨e, h, b⟩ Ks = guardP (get e g) w
      (itrK (ev ((g, .b w) :: e) f) fun k => callY cx.y k (xs.map (ev ((g, .b w) :: e))) ⟨(g, .b w) :: e, h, b⟩ fun x s' => aOpsY cx r (s'.put d x) Ks)
      (aOpsY cx r (St.put ⟨(g, .b !w) :: e, h, b⟩ d (.v (.tuple #[]))) Ks)
      (aOpsY cx r (St.put ⟨e, h, b⟩ d (.v (.tuple #[]))) Ks) := by
  show guardP (get e g) w (yieldP cx f xs ⟨(g, .b w) :: e, h, b⟩ _) _ _ = _
  unfold yieldP itrK callY; rfl
theorem yo_mov {x : Operand} {r : List LOper} : aOpsY cx (⟨d, (.mov x), none⟩ :: r) ⟨e, h, b⟩ Ks = aOp cx (.mov x) ⟨e, h, b⟩ fun x s' => aOpsY cx r (s'.put d x) Ks := rfl
theorem yg_mov {x : Operand} {g : Nat} {w : Bool} {r : List LOper} : aOpsY cx (⟨d, (.mov x), some (g, w)⟩ :: r) ⟨e, h, b⟩ Ks = guardP (get e g) w
      (aOp cx (.mov x) ⟨(g, .b w) :: e, h, b⟩ fun x s' => aOpsY cx r (s'.put d x) Ks)
      (aOpsY cx r (St.put ⟨(g, .b !w) :: e, h, b⟩ d (.v (.tuple #[]))) Ks)
      (aOpsY cx r (St.put ⟨e, h, b⟩ d (.v (.tuple #[]))) Ks) := rfl
theorem yo_pick {c x y : Operand} {r : List LOper} : aOpsY cx (⟨d, (.pick c x y), none⟩ :: r) ⟨e, h, b⟩ Ks = aOp cx (.pick c x y) ⟨e, h, b⟩ fun x s' => aOpsY cx r (s'.put d x) Ks := rfl
theorem yg_pick {c x y : Operand} {g : Nat} {w : Bool} {r : List LOper} : aOpsY cx (⟨d, (.pick c x y), some (g, w)⟩ :: r) ⟨e, h, b⟩ Ks = guardP (get e g) w
      (aOp cx (.pick c x y) ⟨(g, .b w) :: e, h, b⟩ fun x s' => aOpsY cx r (s'.put d x) Ks)
      (aOpsY cx r (St.put ⟨(g, .b !w) :: e, h, b⟩ d (.v (.tuple #[]))) Ks)
      (aOpsY cx r (St.put ⟨e, h, b⟩ d (.v (.tuple #[]))) Ks) := rfl
theorem yo_box {j : Nat} {x : Operand} {r : List LOper} : aOpsY cx (⟨d, (.box j x), none⟩ :: r) ⟨e, h, b⟩ Ks = aOp cx (.box j x) ⟨e, h, b⟩ fun x s' => aOpsY cx r (s'.put d x) Ks := rfl
theorem yg_box {j : Nat} {x : Operand} {g : Nat} {w : Bool} {r : List LOper} : aOpsY cx (⟨d, (.box j x), some (g, w)⟩ :: r) ⟨e, h, b⟩ Ks = guardP (get e g) w
      (aOp cx (.box j x) ⟨(g, .b w) :: e, h, b⟩ fun x s' => aOpsY cx r (s'.put d x) Ks)
      (aOpsY cx r (St.put ⟨(g, .b !w) :: e, h, b⟩ d (.v (.tuple #[]))) Ks)
      (aOpsY cx r (St.put ⟨e, h, b⟩ d (.v (.tuple #[]))) Ks) := rfl
theorem yo_alloc {j : Nat} {z : Value} {r : List LOper} : aOpsY cx (⟨d, (.alloc j z), none⟩ :: r) ⟨e, h, b⟩ Ks = aOp cx (.alloc j z) ⟨e, h, b⟩ fun x s' => aOpsY cx r (s'.put d x) Ks := rfl
theorem yg_alloc {j : Nat} {z : Value} {g : Nat} {w : Bool} {r : List LOper} : aOpsY cx (⟨d, (.alloc j z), some (g, w)⟩ :: r) ⟨e, h, b⟩ Ks = guardP (get e g) w
      (aOp cx (.alloc j z) ⟨(g, .b w) :: e, h, b⟩ fun x s' => aOpsY cx r (s'.put d x) Ks)
      (aOpsY cx r (St.put ⟨(g, .b !w) :: e, h, b⟩ d (.v (.tuple #[]))) Ks)
      (aOpsY cx r (St.put ⟨e, h, b⟩ d (.v (.tuple #[]))) Ks) := rfl
theorem yo_load {n : Option Nat} {x : Operand} {r : List LOper} : aOpsY cx (⟨d, (.load n x), none⟩ :: r) ⟨e, h, b⟩ Ks = aOp cx (.load n x) ⟨e, h, b⟩ fun x s' => aOpsY cx r (s'.put d x) Ks := rfl
theorem yg_load {n : Option Nat} {x : Operand} {g : Nat} {w : Bool} {r : List LOper} : aOpsY cx (⟨d, (.load n x), some (g, w)⟩ :: r) ⟨e, h, b⟩ Ks = guardP (get e g) w
      (aOp cx (.load n x) ⟨(g, .b w) :: e, h, b⟩ fun x s' => aOpsY cx r (s'.put d x) Ks)
      (aOpsY cx r (St.put ⟨(g, .b !w) :: e, h, b⟩ d (.v (.tuple #[]))) Ks)
      (aOpsY cx r (St.put ⟨e, h, b⟩ d (.v (.tuple #[]))) Ks) := rfl
theorem yo_store {n : Nat} {x y : Operand} {r : List LOper} : aOpsY cx (⟨d, (.store n x y), none⟩ :: r) ⟨e, h, b⟩ Ks = aOp cx (.store n x y) ⟨e, h, b⟩ fun x s' => aOpsY cx r (s'.put d x) Ks := rfl
theorem yg_store {n : Nat} {x y : Operand} {g : Nat} {w : Bool} {r : List LOper} : aOpsY cx (⟨d, (.store n x y), some (g, w)⟩ :: r) ⟨e, h, b⟩ Ks = guardP (get e g) w
      (aOp cx (.store n x y) ⟨(g, .b w) :: e, h, b⟩ fun x s' => aOpsY cx r (s'.put d x) Ks)
      (aOpsY cx r (St.put ⟨(g, .b !w) :: e, h, b⟩ d (.v (.tuple #[]))) Ks)
      (aOpsY cx r (St.put ⟨e, h, b⟩ d (.v (.tuple #[]))) Ks) := rfl
theorem yo_fld {n : Nat} {x : Operand} {r : List LOper} : aOpsY cx (⟨d, (.fld n x), none⟩ :: r) ⟨e, h, b⟩ Ks = aOp cx (.fld n x) ⟨e, h, b⟩ fun x s' => aOpsY cx r (s'.put d x) Ks := rfl
theorem yg_fld {n : Nat} {x : Operand} {g : Nat} {w : Bool} {r : List LOper} : aOpsY cx (⟨d, (.fld n x), some (g, w)⟩ :: r) ⟨e, h, b⟩ Ks = guardP (get e g) w
      (aOp cx (.fld n x) ⟨(g, .b w) :: e, h, b⟩ fun x s' => aOpsY cx r (s'.put d x) Ks)
      (aOpsY cx r (St.put ⟨(g, .b !w) :: e, h, b⟩ d (.v (.tuple #[]))) Ks)
      (aOpsY cx r (St.put ⟨e, h, b⟩ d (.v (.tuple #[]))) Ks) := rfl
theorem yo_idx {n : Nat} {x i : Operand} {r : List LOper} : aOpsY cx (⟨d, (.idx n x i), none⟩ :: r) ⟨e, h, b⟩ Ks = aOp cx (.idx n x i) ⟨e, h, b⟩ fun x s' => aOpsY cx r (s'.put d x) Ks := rfl
theorem yg_idx {n : Nat} {x i : Operand} {g : Nat} {w : Bool} {r : List LOper} : aOpsY cx (⟨d, (.idx n x i), some (g, w)⟩ :: r) ⟨e, h, b⟩ Ks = guardP (get e g) w
      (aOp cx (.idx n x i) ⟨(g, .b w) :: e, h, b⟩ fun x s' => aOpsY cx r (s'.put d x) Ks)
      (aOpsY cx r (St.put ⟨(g, .b !w) :: e, h, b⟩ d (.v (.tuple #[]))) Ks)
      (aOpsY cx r (St.put ⟨e, h, b⟩ d (.v (.tuple #[]))) Ks) := rfl
theorem yo_bin {o : BinOp} {ex : Bool} {x y : Operand} {r : List LOper} : aOpsY cx (⟨d, (.bin o ex x y), none⟩ :: r) ⟨e, h, b⟩ Ks = aOp cx (.bin o ex x y) ⟨e, h, b⟩ fun x s' => aOpsY cx r (s'.put d x) Ks := rfl
theorem yg_bin {o : BinOp} {ex : Bool} {x y : Operand} {g : Nat} {w : Bool} {r : List LOper} : aOpsY cx (⟨d, (.bin o ex x y), some (g, w)⟩ :: r) ⟨e, h, b⟩ Ks = guardP (get e g) w
      (aOp cx (.bin o ex x y) ⟨(g, .b w) :: e, h, b⟩ fun x s' => aOpsY cx r (s'.put d x) Ks)
      (aOpsY cx r (St.put ⟨(g, .b !w) :: e, h, b⟩ d (.v (.tuple #[]))) Ks)
      (aOpsY cx r (St.put ⟨e, h, b⟩ d (.v (.tuple #[]))) Ks) := rfl
theorem yo_len {x : Operand} {r : List LOper} : aOpsY cx (⟨d, (.len x), none⟩ :: r) ⟨e, h, b⟩ Ks = aOp cx (.len x) ⟨e, h, b⟩ fun x s' => aOpsY cx r (s'.put d x) Ks := rfl
theorem yg_len {x : Operand} {g : Nat} {w : Bool} {r : List LOper} : aOpsY cx (⟨d, (.len x), some (g, w)⟩ :: r) ⟨e, h, b⟩ Ks = guardP (get e g) w
      (aOp cx (.len x) ⟨(g, .b w) :: e, h, b⟩ fun x s' => aOpsY cx r (s'.put d x) Ks)
      (aOpsY cx r (St.put ⟨(g, .b !w) :: e, h, b⟩ d (.v (.tuple #[]))) Ks)
      (aOpsY cx r (St.put ⟨e, h, b⟩ d (.v (.tuple #[]))) Ks) := rfl
theorem yo_lens {x : Operand} {r : List LOper} : aOpsY cx (⟨d, (.lens x), none⟩ :: r) ⟨e, h, b⟩ Ks = aOp cx (.lens x) ⟨e, h, b⟩ fun x s' => aOpsY cx r (s'.put d x) Ks := rfl
theorem yg_lens {x : Operand} {g : Nat} {w : Bool} {r : List LOper} : aOpsY cx (⟨d, (.lens x), some (g, w)⟩ :: r) ⟨e, h, b⟩ Ks = guardP (get e g) w
      (aOp cx (.lens x) ⟨(g, .b w) :: e, h, b⟩ fun x s' => aOpsY cx r (s'.put d x) Ks)
      (aOpsY cx r (St.put ⟨(g, .b !w) :: e, h, b⟩ d (.v (.tuple #[]))) Ks)
      (aOpsY cx r (St.put ⟨e, h, b⟩ d (.v (.tuple #[]))) Ks) := rfl
theorem yo_not {x : Operand} {r : List LOper} : aOpsY cx (⟨d, (.not x), none⟩ :: r) ⟨e, h, b⟩ Ks = aOp cx (.not x) ⟨e, h, b⟩ fun x s' => aOpsY cx r (s'.put d x) Ks := rfl
theorem yg_not {x : Operand} {g : Nat} {w : Bool} {r : List LOper} : aOpsY cx (⟨d, (.not x), some (g, w)⟩ :: r) ⟨e, h, b⟩ Ks = guardP (get e g) w
      (aOp cx (.not x) ⟨(g, .b w) :: e, h, b⟩ fun x s' => aOpsY cx r (s'.put d x) Ks)
      (aOpsY cx r (St.put ⟨(g, .b !w) :: e, h, b⟩ d (.v (.tuple #[]))) Ks)
      (aOpsY cx r (St.put ⟨e, h, b⟩ d (.v (.tuple #[]))) Ks) := rfl
theorem yo_neg {x : Operand} {r : List LOper} : aOpsY cx (⟨d, (.neg x), none⟩ :: r) ⟨e, h, b⟩ Ks = aOp cx (.neg x) ⟨e, h, b⟩ fun x s' => aOpsY cx r (s'.put d x) Ks := rfl
theorem yg_neg {x : Operand} {g : Nat} {w : Bool} {r : List LOper} : aOpsY cx (⟨d, (.neg x), some (g, w)⟩ :: r) ⟨e, h, b⟩ Ks = guardP (get e g) w
      (aOp cx (.neg x) ⟨(g, .b w) :: e, h, b⟩ fun x s' => aOpsY cx r (s'.put d x) Ks)
      (aOpsY cx r (St.put ⟨(g, .b !w) :: e, h, b⟩ d (.v (.tuple #[]))) Ks)
      (aOpsY cx r (St.put ⟨e, h, b⟩ d (.v (.tuple #[]))) Ks) := rfl
theorem yo_conv {ex : Bool} {k : IntKind} {x : Operand} {r : List LOper} : aOpsY cx (⟨d, (.conv ex k x), none⟩ :: r) ⟨e, h, b⟩ Ks = aOp cx (.conv ex k x) ⟨e, h, b⟩ fun x s' => aOpsY cx r (s'.put d x) Ks := rfl
theorem yg_conv {ex : Bool} {k : IntKind} {x : Operand} {g : Nat} {w : Bool} {r : List LOper} : aOpsY cx (⟨d, (.conv ex k x), some (g, w)⟩ :: r) ⟨e, h, b⟩ Ks = guardP (get e g) w
      (aOp cx (.conv ex k x) ⟨(g, .b w) :: e, h, b⟩ fun x s' => aOpsY cx r (s'.put d x) Ks)
      (aOpsY cx r (St.put ⟨(g, .b !w) :: e, h, b⟩ d (.v (.tuple #[]))) Ks)
      (aOpsY cx r (St.put ⟨e, h, b⟩ d (.v (.tuple #[]))) Ks) := rfl
theorem yo_minmax {mx : Bool} {x y : Operand} {r : List LOper} : aOpsY cx (⟨d, (.minmax mx x y), none⟩ :: r) ⟨e, h, b⟩ Ks = aOp cx (.minmax mx x y) ⟨e, h, b⟩ fun x s' => aOpsY cx r (s'.put d x) Ks := rfl
theorem yg_minmax {mx : Bool} {x y : Operand} {g : Nat} {w : Bool} {r : List LOper} : aOpsY cx (⟨d, (.minmax mx x y), some (g, w)⟩ :: r) ⟨e, h, b⟩ Ks = guardP (get e g) w
      (aOp cx (.minmax mx x y) ⟨(g, .b w) :: e, h, b⟩ fun x s' => aOpsY cx r (s'.put d x) Ks)
      (aOpsY cx r (St.put ⟨(g, .b !w) :: e, h, b⟩ d (.v (.tuple #[]))) Ks)
      (aOpsY cx r (St.put ⟨e, h, b⟩ d (.v (.tuple #[]))) Ks) := rfl
theorem yo_fn {f : FuncId} {cs : List Operand} {r : List LOper} : aOpsY cx (⟨d, (.fn f cs), none⟩ :: r) ⟨e, h, b⟩ Ks = aOp cx (.fn f cs) ⟨e, h, b⟩ fun x s' => aOpsY cx r (s'.put d x) Ks := rfl
theorem yg_fn {f : FuncId} {cs : List Operand} {g : Nat} {w : Bool} {r : List LOper} : aOpsY cx (⟨d, (.fn f cs), some (g, w)⟩ :: r) ⟨e, h, b⟩ Ks = guardP (get e g) w
      (aOp cx (.fn f cs) ⟨(g, .b w) :: e, h, b⟩ fun x s' => aOpsY cx r (s'.put d x) Ks)
      (aOpsY cx r (St.put ⟨(g, .b !w) :: e, h, b⟩ d (.v (.tuple #[]))) Ks)
      (aOpsY cx r (St.put ⟨e, h, b⟩ d (.v (.tuple #[]))) Ks) := rfl
theorem yo_field {off : Nat} {n : Option Nat} {x : Operand} {r : List LOper} : aOpsY cx (⟨d, (.field off n x), none⟩ :: r) ⟨e, h, b⟩ Ks = aOp cx (.field off n x) ⟨e, h, b⟩ fun x s' => aOpsY cx r (s'.put d x) Ks := rfl
theorem yg_field {off : Nat} {n : Option Nat} {x : Operand} {g : Nat} {w : Bool} {r : List LOper} : aOpsY cx (⟨d, (.field off n x), some (g, w)⟩ :: r) ⟨e, h, b⟩ Ks = guardP (get e g) w
      (aOp cx (.field off n x) ⟨(g, .b w) :: e, h, b⟩ fun x s' => aOpsY cx r (s'.put d x) Ks)
      (aOpsY cx r (St.put ⟨(g, .b !w) :: e, h, b⟩ d (.v (.tuple #[]))) Ks)
      (aOpsY cx r (St.put ⟨e, h, b⟩ d (.v (.tuple #[]))) Ks) := rfl
theorem yo_slice {z : Nat} {x : Operand} {l u m : Option Operand} {r : List LOper} : aOpsY cx (⟨d, (.slice z x l u m), none⟩ :: r) ⟨e, h, b⟩ Ks = aOp cx (.slice z x l u m) ⟨e, h, b⟩ fun x s' => aOpsY cx r (s'.put d x) Ks := rfl
theorem yg_slice {z : Nat} {x : Operand} {l u m : Option Operand} {g : Nat} {w : Bool} {r : List LOper} : aOpsY cx (⟨d, (.slice z x l u m), some (g, w)⟩ :: r) ⟨e, h, b⟩ Ks = guardP (get e g) w
      (aOp cx (.slice z x l u m) ⟨(g, .b w) :: e, h, b⟩ fun x s' => aOpsY cx r (s'.put d x) Ks)
      (aOpsY cx r (St.put ⟨(g, .b !w) :: e, h, b⟩ d (.v (.tuple #[]))) Ks)
      (aOpsY cx r (St.put ⟨e, h, b⟩ d (.v (.tuple #[]))) Ks) := rfl
theorem yo_build {z : List Value} {ps : List (Nat × Nat × Operand)} {r : List LOper} : aOpsY cx (⟨d, (.build z ps), none⟩ :: r) ⟨e, h, b⟩ Ks = aOp cx (.build z ps) ⟨e, h, b⟩ fun x s' => aOpsY cx r (s'.put d x) Ks := rfl
theorem yg_build {z : List Value} {ps : List (Nat × Nat × Operand)} {g : Nat} {w : Bool} {r : List LOper} : aOpsY cx (⟨d, (.build z ps), some (g, w)⟩ :: r) ⟨e, h, b⟩ Ks = guardP (get e g) w
      (aOp cx (.build z ps) ⟨(g, .b w) :: e, h, b⟩ fun x s' => aOpsY cx r (s'.put d x) Ks)
      (aOpsY cx r (St.put ⟨(g, .b !w) :: e, h, b⟩ d (.v (.tuple #[]))) Ks)
      (aOpsY cx r (St.put ⟨e, h, b⟩ d (.v (.tuple #[]))) Ks) := rfl
theorem yo_eqb {neg : Bool} {x y : Operand} {r : List LOper} : aOpsY cx (⟨d, (.eqb neg x y), none⟩ :: r) ⟨e, h, b⟩ Ks = aOp cx (.eqb neg x y) ⟨e, h, b⟩ fun x s' => aOpsY cx r (s'.put d x) Ks := rfl
theorem yg_eqb {neg : Bool} {x y : Operand} {g : Nat} {w : Bool} {r : List LOper} : aOpsY cx (⟨d, (.eqb neg x y), some (g, w)⟩ :: r) ⟨e, h, b⟩ Ks = guardP (get e g) w
      (aOp cx (.eqb neg x y) ⟨(g, .b w) :: e, h, b⟩ fun x s' => aOpsY cx r (s'.put d x) Ks)
      (aOpsY cx r (St.put ⟨(g, .b !w) :: e, h, b⟩ d (.v (.tuple #[]))) Ks)
      (aOpsY cx r (St.put ⟨e, h, b⟩ d (.v (.tuple #[]))) Ks) := rfl
theorem yo_eqf {neg : Bool} {ks : List (Nat × TypeDesc)} {x y : Operand} {r : List LOper} : aOpsY cx (⟨d, (.eqf neg ks x y), none⟩ :: r) ⟨e, h, b⟩ Ks = aOp cx (.eqf neg ks x y) ⟨e, h, b⟩ fun x s' => aOpsY cx r (s'.put d x) Ks := rfl
theorem yg_eqf {neg : Bool} {ks : List (Nat × TypeDesc)} {x y : Operand} {g : Nat} {w : Bool} {r : List LOper} : aOpsY cx (⟨d, (.eqf neg ks x y), some (g, w)⟩ :: r) ⟨e, h, b⟩ Ks = guardP (get e g) w
      (aOp cx (.eqf neg ks x y) ⟨(g, .b w) :: e, h, b⟩ fun x s' => aOpsY cx r (s'.put d x) Ks)
      (aOpsY cx r (St.put ⟨(g, .b !w) :: e, h, b⟩ d (.v (.tuple #[]))) Ks)
      (aOpsY cx r (St.put ⟨e, h, b⟩ d (.v (.tuple #[]))) Ks) := rfl
theorem yo_shift {o : BinOp} {x y : Operand} {r : List LOper} : aOpsY cx (⟨d, (.shift o x y), none⟩ :: r) ⟨e, h, b⟩ Ks = aOp cx (.shift o x y) ⟨e, h, b⟩ fun x s' => aOpsY cx r (s'.put d x) Ks := rfl
theorem yg_shift {o : BinOp} {x y : Operand} {g : Nat} {w : Bool} {r : List LOper} : aOpsY cx (⟨d, (.shift o x y), some (g, w)⟩ :: r) ⟨e, h, b⟩ Ks = guardP (get e g) w
      (aOp cx (.shift o x y) ⟨(g, .b w) :: e, h, b⟩ fun x s' => aOpsY cx r (s'.put d x) Ks)
      (aOpsY cx r (St.put ⟨(g, .b !w) :: e, h, b⟩ d (.v (.tuple #[]))) Ks)
      (aOpsY cx r (St.put ⟨e, h, b⟩ d (.v (.tuple #[]))) Ks) := rfl
theorem yo_eqn {neg : Bool} {x : Operand} {v : Value} {r : List LOper} : aOpsY cx (⟨d, (.eqn neg x (.const v)), none⟩ :: r) ⟨e, h, b⟩ Ks = aOp cx (.eqn neg x (.const v)) ⟨e, h, b⟩ fun x s' => aOpsY cx r (s'.put d x) Ks := rfl
theorem yg_eqn {neg : Bool} {x : Operand} {v : Value} {g : Nat} {w : Bool} {r : List LOper} : aOpsY cx (⟨d, (.eqn neg x (.const v)), some (g, w)⟩ :: r) ⟨e, h, b⟩ Ks = guardP (get e g) w
      (aOp cx (.eqn neg x (.const v)) ⟨(g, .b w) :: e, h, b⟩ fun x s' => aOpsY cx r (s'.put d x) Ks)
      (aOpsY cx r (St.put ⟨(g, .b !w) :: e, h, b⟩ d (.v (.tuple #[]))) Ks)
      (aOpsY cx r (St.put ⟨e, h, b⟩ d (.v (.tuple #[]))) Ks) := rfl
theorem yo_lits {j sz n : Nat} {z : List Value} {ps : List (Nat × Operand)} {r : List LOper} : aOpsY cx (⟨d, (.lits j sz n z ps), none⟩ :: r) ⟨e, h, b⟩ Ks = aOp cx (.lits j sz n z ps) ⟨e, h, b⟩ fun x s' => aOpsY cx r (s'.put d x) Ks := rfl
theorem yg_lits {j sz n : Nat} {z : List Value} {ps : List (Nat × Operand)} {g : Nat} {w : Bool} {r : List LOper} : aOpsY cx (⟨d, (.lits j sz n z ps), some (g, w)⟩ :: r) ⟨e, h, b⟩ Ks = guardP (get e g) w
      (aOp cx (.lits j sz n z ps) ⟨(g, .b w) :: e, h, b⟩ fun x s' => aOpsY cx r (s'.put d x) Ks)
      (aOpsY cx r (St.put ⟨(g, .b !w) :: e, h, b⟩ d (.v (.tuple #[]))) Ks)
      (aOpsY cx r (St.put ⟨e, h, b⟩ d (.v (.tuple #[]))) Ks) := rfl
theorem yo_mk {j sz bytes : Nat} {z : List Value} {l c : Operand} {r : List LOper} : aOpsY cx (⟨d, (.mk j sz bytes z l c), none⟩ :: r) ⟨e, h, b⟩ Ks = aOp cx (.mk j sz bytes z l c) ⟨e, h, b⟩ fun x s' => aOpsY cx r (s'.put d x) Ks := rfl
theorem yg_mk {j sz bytes : Nat} {z : List Value} {l c : Operand} {g : Nat} {w : Bool} {r : List LOper} : aOpsY cx (⟨d, (.mk j sz bytes z l c), some (g, w)⟩ :: r) ⟨e, h, b⟩ Ks = guardP (get e g) w
      (aOp cx (.mk j sz bytes z l c) ⟨(g, .b w) :: e, h, b⟩ fun x s' => aOpsY cx r (s'.put d x) Ks)
      (aOpsY cx r (St.put ⟨(g, .b !w) :: e, h, b⟩ d (.v (.tuple #[]))) Ks)
      (aOpsY cx r (St.put ⟨e, h, b⟩ d (.v (.tuple #[]))) Ks) := rfl
theorem yo_append {j sz bytes : Nat} {x y : Operand} {r : List LOper} : aOpsY cx (⟨d, (.append j sz bytes x y), none⟩ :: r) ⟨e, h, b⟩ Ks = aOp cx (.append j sz bytes x y) ⟨e, h, b⟩ fun x s' => aOpsY cx r (s'.put d x) Ks := rfl
theorem yg_append {j sz bytes : Nat} {x y : Operand} {g : Nat} {w : Bool} {r : List LOper} : aOpsY cx (⟨d, (.append j sz bytes x y), some (g, w)⟩ :: r) ⟨e, h, b⟩ Ks = guardP (get e g) w
      (aOp cx (.append j sz bytes x y) ⟨(g, .b w) :: e, h, b⟩ fun x s' => aOpsY cx r (s'.put d x) Ks)
      (aOpsY cx r (St.put ⟨(g, .b !w) :: e, h, b⟩ d (.v (.tuple #[]))) Ks)
      (aOpsY cx r (St.put ⟨e, h, b⟩ d (.v (.tuple #[]))) Ks) := rfl
theorem yo_copy {sz : Nat} {x y : Operand} {r : List LOper} : aOpsY cx (⟨d, (.copy sz x y), none⟩ :: r) ⟨e, h, b⟩ Ks = aOp cx (.copy sz x y) ⟨e, h, b⟩ fun x s' => aOpsY cx r (s'.put d x) Ks := rfl
theorem yg_copy {sz : Nat} {x y : Operand} {g : Nat} {w : Bool} {r : List LOper} : aOpsY cx (⟨d, (.copy sz x y), some (g, w)⟩ :: r) ⟨e, h, b⟩ Ks = guardP (get e g) w
      (aOp cx (.copy sz x y) ⟨(g, .b w) :: e, h, b⟩ fun x s' => aOpsY cx r (s'.put d x) Ks)
      (aOpsY cx r (St.put ⟨(g, .b !w) :: e, h, b⟩ d (.v (.tuple #[]))) Ks)
      (aOpsY cx r (St.put ⟨e, h, b⟩ d (.v (.tuple #[]))) Ks) := rfl
theorem yo_mkv {j sz bytes : Nat} {z : List Value} {l c : Operand} {r : List LOper} : aOpsY cx (⟨d, (.mkv j sz bytes z l c), none⟩ :: r) ⟨e, h, b⟩ Ks = aOp cx (.mkv j sz bytes z l c) ⟨e, h, b⟩ fun x s' => aOpsY cx r (s'.put d x) Ks := rfl
theorem yg_mkv {j sz bytes : Nat} {z : List Value} {l c : Operand} {g : Nat} {w : Bool} {r : List LOper} : aOpsY cx (⟨d, (.mkv j sz bytes z l c), some (g, w)⟩ :: r) ⟨e, h, b⟩ Ks = guardP (get e g) w
      (aOp cx (.mkv j sz bytes z l c) ⟨(g, .b w) :: e, h, b⟩ fun x s' => aOpsY cx r (s'.put d x) Ks)
      (aOpsY cx r (St.put ⟨(g, .b !w) :: e, h, b⟩ d (.v (.tuple #[]))) Ks)
      (aOpsY cx r (St.put ⟨e, h, b⟩ d (.v (.tuple #[]))) Ks) := rfl
theorem yo_mset {kd : TypeDesc} {m k x : Operand} {r : List LOper} : aOpsY cx (⟨d, (.mset kd m k x), none⟩ :: r) ⟨e, h, b⟩ Ks = aOp cx (.mset kd m k x) ⟨e, h, b⟩ fun x s' => aOpsY cx r (s'.put d x) Ks := rfl
theorem yg_mset {kd : TypeDesc} {m k x : Operand} {g : Nat} {w : Bool} {r : List LOper} : aOpsY cx (⟨d, (.mset kd m k x), some (g, w)⟩ :: r) ⟨e, h, b⟩ Ks = guardP (get e g) w
      (aOp cx (.mset kd m k x) ⟨(g, .b w) :: e, h, b⟩ fun x s' => aOpsY cx r (s'.put d x) Ks)
      (aOpsY cx r (St.put ⟨(g, .b !w) :: e, h, b⟩ d (.v (.tuple #[]))) Ks)
      (aOpsY cx r (St.put ⟨e, h, b⟩ d (.v (.tuple #[]))) Ks) := rfl
theorem yo_mkmap {j : Nat} {r : List LOper} : aOpsY cx (⟨d, (.mkmap j none), none⟩ :: r) ⟨e, h, b⟩ Ks = aOp cx (.mkmap j none) ⟨e, h, b⟩ fun x s' => aOpsY cx r (s'.put d x) Ks := rfl
theorem yg_mkmap {j : Nat} {g : Nat} {w : Bool} {r : List LOper} : aOpsY cx (⟨d, (.mkmap j none), some (g, w)⟩ :: r) ⟨e, h, b⟩ Ks = guardP (get e g) w
      (aOp cx (.mkmap j none) ⟨(g, .b w) :: e, h, b⟩ fun x s' => aOpsY cx r (s'.put d x) Ks)
      (aOpsY cx r (St.put ⟨(g, .b !w) :: e, h, b⟩ d (.v (.tuple #[]))) Ks)
      (aOpsY cx r (St.put ⟨e, h, b⟩ d (.v (.tuple #[]))) Ks) := rfl
theorem yo_lookup {kd : TypeDesc} {z : Value} {ok : Bool} {m k : Operand} {r : List LOper} : aOpsY cx (⟨d, (.lookup kd z ok m k), none⟩ :: r) ⟨e, h, b⟩ Ks = aOp cx (.lookup kd z ok m k) ⟨e, h, b⟩ fun x s' => aOpsY cx r (s'.put d x) Ks := rfl
theorem yg_lookup {kd : TypeDesc} {z : Value} {ok : Bool} {m k : Operand} {g : Nat} {w : Bool} {r : List LOper} : aOpsY cx (⟨d, (.lookup kd z ok m k), some (g, w)⟩ :: r) ⟨e, h, b⟩ Ks = guardP (get e g) w
      (aOp cx (.lookup kd z ok m k) ⟨(g, .b w) :: e, h, b⟩ fun x s' => aOpsY cx r (s'.put d x) Ks)
      (aOpsY cx r (St.put ⟨(g, .b !w) :: e, h, b⟩ d (.v (.tuple #[]))) Ks)
      (aOpsY cx r (St.put ⟨e, h, b⟩ d (.v (.tuple #[]))) Ks) := rfl
theorem yo_mlen {m : Operand} {r : List LOper} : aOpsY cx (⟨d, (.mlen m), none⟩ :: r) ⟨e, h, b⟩ Ks = aOp cx (.mlen m) ⟨e, h, b⟩ fun x s' => aOpsY cx r (s'.put d x) Ks := rfl
theorem yg_mlen {m : Operand} {g : Nat} {w : Bool} {r : List LOper} : aOpsY cx (⟨d, (.mlen m), some (g, w)⟩ :: r) ⟨e, h, b⟩ Ks = guardP (get e g) w
      (aOp cx (.mlen m) ⟨(g, .b w) :: e, h, b⟩ fun x s' => aOpsY cx r (s'.put d x) Ks)
      (aOpsY cx r (St.put ⟨(g, .b !w) :: e, h, b⟩ d (.v (.tuple #[]))) Ks)
      (aOpsY cx r (St.put ⟨e, h, b⟩ d (.v (.tuple #[]))) Ks) := rfl
theorem yo_range {j : Nat} {m : Operand} {r : List LOper} : aOpsY cx (⟨d, (.range j m), none⟩ :: r) ⟨e, h, b⟩ Ks = aOp cx (.range j m) ⟨e, h, b⟩ fun x s' => aOpsY cx r (s'.put d x) Ks := rfl
theorem yg_range {j : Nat} {m : Operand} {g : Nat} {w : Bool} {r : List LOper} : aOpsY cx (⟨d, (.range j m), some (g, w)⟩ :: r) ⟨e, h, b⟩ Ks = guardP (get e g) w
      (aOp cx (.range j m) ⟨(g, .b w) :: e, h, b⟩ fun x s' => aOpsY cx r (s'.put d x) Ks)
      (aOpsY cx r (St.put ⟨(g, .b !w) :: e, h, b⟩ d (.v (.tuple #[]))) Ks)
      (aOpsY cx r (St.put ⟨e, h, b⟩ d (.v (.tuple #[]))) Ks) := rfl
theorem yo_next {i : Operand} {r : List LOper} : aOpsY cx (⟨d, (.next i), none⟩ :: r) ⟨e, h, b⟩ Ks = aOp cx (.next i) ⟨e, h, b⟩ fun x s' => aOpsY cx r (s'.put d x) Ks := rfl
theorem yg_next {i : Operand} {g : Nat} {w : Bool} {r : List LOper} : aOpsY cx (⟨d, (.next i), some (g, w)⟩ :: r) ⟨e, h, b⟩ Ks = guardP (get e g) w
      (aOp cx (.next i) ⟨(g, .b w) :: e, h, b⟩ fun x s' => aOpsY cx r (s'.put d x) Ks)
      (aOpsY cx r (St.put ⟨(g, .b !w) :: e, h, b⟩ d (.v (.tuple #[]))) Ks)
      (aOpsY cx r (St.put ⟨e, h, b⟩ d (.v (.tuple #[]))) Ks) := rfl
theorem yo_entry {i : Operand} {r : List LOper} : aOpsY cx (⟨d, (.entry i), none⟩ :: r) ⟨e, h, b⟩ Ks = aOp cx (.entry i) ⟨e, h, b⟩ fun x s' => aOpsY cx r (s'.put d x) Ks := rfl
theorem yg_entry {i : Operand} {g : Nat} {w : Bool} {r : List LOper} : aOpsY cx (⟨d, (.entry i), some (g, w)⟩ :: r) ⟨e, h, b⟩ Ks = guardP (get e g) w
      (aOp cx (.entry i) ⟨(g, .b w) :: e, h, b⟩ fun x s' => aOpsY cx r (s'.put d x) Ks)
      (aOpsY cx r (St.put ⟨(g, .b !w) :: e, h, b⟩ d (.v (.tuple #[]))) Ks)
      (aOpsY cx r (St.put ⟨e, h, b⟩ d (.v (.tuple #[]))) Ks) := rfl
theorem yo_call {f : FuncId} {xs : List Operand} {r : List LOper} : aOpsY cx (⟨d, (.call f xs), none⟩ :: r) ⟨e, h, b⟩ Ks = aOp cx (.call f xs) ⟨e, h, b⟩ fun x s' => aOpsY cx r (s'.put d x) Ks := rfl
theorem yg_call {f : FuncId} {xs : List Operand} {g : Nat} {w : Bool} {r : List LOper} : aOpsY cx (⟨d, (.call f xs), some (g, w)⟩ :: r) ⟨e, h, b⟩ Ks = guardP (get e g) w
      (aOp cx (.call f xs) ⟨(g, .b w) :: e, h, b⟩ fun x s' => aOpsY cx r (s'.put d x) Ks)
      (aOpsY cx r (St.put ⟨(g, .b !w) :: e, h, b⟩ d (.v (.tuple #[]))) Ks)
      (aOpsY cx r (St.put ⟨e, h, b⟩ d (.v (.tuple #[]))) Ks) := rfl
theorem yo_ext {x : Operand} {i : Nat} {r : List LOper} : aOpsY cx (⟨d, (.ext x i), none⟩ :: r) ⟨e, h, b⟩ Ks = aOp cx (.ext x i) ⟨e, h, b⟩ fun x s' => aOpsY cx r (s'.put d x) Ks := rfl
theorem yg_ext {x : Operand} {i : Nat} {g : Nat} {w : Bool} {r : List LOper} : aOpsY cx (⟨d, (.ext x i), some (g, w)⟩ :: r) ⟨e, h, b⟩ Ks = guardP (get e g) w
      (aOp cx (.ext x i) ⟨(g, .b w) :: e, h, b⟩ fun x s' => aOpsY cx r (s'.put d x) Ks)
      (aOpsY cx r (St.put ⟨(g, .b !w) :: e, h, b⟩ d (.v (.tuple #[]))) Ks)
      (aOpsY cx r (St.put ⟨e, h, b⟩ d (.v (.tuple #[]))) Ks) := rfl
theorem yo_nilc {x : Operand} {r : List LOper} : aOpsY cx (⟨d, (.nilc x), none⟩ :: r) ⟨e, h, b⟩ Ks = aOp cx (.nilc x) ⟨e, h, b⟩ fun x s' => aOpsY cx r (s'.put d x) Ks := rfl
theorem yg_nilc {x : Operand} {g : Nat} {w : Bool} {r : List LOper} : aOpsY cx (⟨d, (.nilc x), some (g, w)⟩ :: r) ⟨e, h, b⟩ Ks = guardP (get e g) w
      (aOp cx (.nilc x) ⟨(g, .b w) :: e, h, b⟩ fun x s' => aOpsY cx r (s'.put d x) Ks)
      (aOpsY cx r (St.put ⟨(g, .b !w) :: e, h, b⟩ d (.v (.tuple #[]))) Ks)
      (aOpsY cx r (St.put ⟨e, h, b⟩ d (.v (.tuple #[]))) Ks) := rfl
theorem yo_callv {f : Operand} {xs : List Operand} {r : List LOper} : aOpsY cx (⟨d, (.callv f xs), none⟩ :: r) ⟨e, h, b⟩ Ks = aOp cx (.callv f xs) ⟨e, h, b⟩ fun x s' => aOpsY cx r (s'.put d x) Ks := rfl
theorem yg_callv {f : Operand} {xs : List Operand} {g : Nat} {w : Bool} {r : List LOper} : aOpsY cx (⟨d, (.callv f xs), some (g, w)⟩ :: r) ⟨e, h, b⟩ Ks = guardP (get e g) w
      (aOp cx (.callv f xs) ⟨(g, .b w) :: e, h, b⟩ fun x s' => aOpsY cx r (s'.put d x) Ks)
      (aOpsY cx r (St.put ⟨(g, .b !w) :: e, h, b⟩ d (.v (.tuple #[]))) Ks)
      (aOpsY cx r (St.put ⟨e, h, b⟩ d (.v (.tuple #[]))) Ks) := rfl
theorem begRd_e {k : Nat} : begRd k Ks ⟨e, h, b⟩ = rcdB h[k]? fun t e' => t = .ready ∧ Ks ⟨e, h.set k (.rcd .busy e'), b⟩ := rcdK_b
theorem endRd_e {k kE bI : Nat} {t : RS} {y : Bool} : endRd k kE bI K y t ⟨e, h, b⟩ = rcdB h[k]? fun t2 e2 => t2 = .busy ∧ rcdB h[kE]? fun t3 eI => t3 = .ghost ∧ K (.b y) ⟨eI, (h.set k (.rcd t e2)).set kE .dead, bI⟩ := by
  unfold endRd
  simp only [rcdK_b]
theorem endLp_e {k : Nat} : endLp k N X R h = rcdB h[k]? fun t e => (wfE (h.set k .dead) e ∧ wfB (h.set k .dead) (h.set k .dead)) ∧ endT t (N ⟨e, h.set k .dead, 0⟩) (fun j => X j ⟨e, h.set k .dead, 0⟩) (R ⟨e, h.set k .dead, 0⟩) := by
  unfold endLp
  simp only [rcdK_b]
  rfl
@[congr] theorem c_begRd {k : Nat} {s s' : St} (q : s = s') : begRd k Ks s = begRd k Ks s' := by rw [q]
@[congr] theorem c_endRd {k kE bI : Nat} {t : RS} {y : Bool} {s s' : St} (q : s = s') : endRd k kE bI K y t s = endRd k kE bI K y t s' := by rw [q]
@[congr] theorem c_endLp {k : Nat} {h h' : List Blk} (q : h = h') : endLp k N X R h = endLp k N X R h' := by rw [q]
def yR (cx : Cx) (ps : List Nat) (asg body : LCode) (k : Nat) : Yt := fun xs sI K => rcdK sI.h k fun t e => t = .ready ∧ xs.length = ps.length ∧
  aw { cx with fx := sI.h.length :: k :: cx.fx, y := fun _ _ _ _ => False, rk := some k } asg
    (begRd k fun s1 => aw { cx with fx := sI.h.length :: k :: cx.fx, y := fun _ _ _ _ => False, rk := some k } body
      (endRd k sI.h.length sI.b K true .ready) (fun j => endRd k sI.h.length sI.b K false (.out (some j))) (endRd k sI.h.length sI.b K false (.out none)) s1)
    (fun _ _ => False) (fun _ => False) ⟨setPs ps xs e, sI.h ++ [.rcd .ghost sI.e], sI.b⟩
theorem rfn_go {g : Operand} {ps : List Nat} {asg body : LCode} {gf : FuncId} {caps : List V} (n : Nat) (hn : h.length = n) (hg : ev e g = .clo gf caps) (hrk : inRdP cx.rk h)
    (hit : cx.it gf (.itr n :: caps) (n :: cx.fx) n (yR cx ps asg body n) (h ++ [.rcd .ready e]) (endLp n N X R)) : aw cx (.rfn g ps asg body) N X R ⟨e, h, b⟩ := by
  subst hn
  simp only [aw, hg]
  exact ⟨hrk, hit⟩
theorem yR_go {ps : List Nat} {asg body : LCode} {k : Nat} {xs : List V} {e0 : Env} (n : Nat) (hn : h.length = n) (hk : h[k]? = some (.rcd .ready e0)) (hl : xs.length = ps.length)
    (hgo : aw ⟨cx.C, n :: k :: cx.fx, cx.bn, cx.it, Y0, some k⟩ asg (begRd k fun s1 => aw ⟨cx.C, n :: k :: cx.fx, cx.bn, cx.it, Y0, some k⟩ body
      (endRd k n b K true .ready) (fun j => endRd k n b K false (.out (some j))) (endRd k n b K false (.out none)) s1) (fun _ _ => False) (fun _ => False) ⟨setPs ps xs e0, h ++ [.rcd .ghost e], b⟩) :
    yR cx ps asg body k xs ⟨e, h, b⟩ K := by
  subst hn
  unfold yR rcdK
  rw [show (⟨e, h, b⟩ : St).h[k]? = some (.rcd .ready e0) from hk]
  exact ⟨rfl, hl, hgo⟩
end
end Go.Fx
namespace Go.Fx.C
open Go Go.Fx Go.Proofs
structure Arc where
  from_ : Int
  to : Int
  cap : Int
  cost : Int
  deriving Inhabited
def Arc.enc (a : Arc) : List V := [.i a.from_, .i a.to, .i a.cap, .i a.cost]
def encI (x : Int) : List V := [.i x]
def encB (x : Bool) : List V := [.b x]
def net (n : Int) (arcs : List Arc) : V := .agg [.i n, .ro 4 (arcs.map Arc.enc)]
def li (l : List Int) : V := .ro 1 (l.map encI)
structure Fr where
  sent : Int
  cost : Int
  flow : List Int
  price : List Int
  cut : List Int
def Fr.enc (f : Fr) : V := .agg [.i f.sent, .i f.cost, li f.flow, li f.price, li f.cut]
abbrev Ok (f : FuncId) (xs : List V) (R : V → List Blk → Prop) : Prop := OkN Try.prog f xs [] [] R
theorem ok_of {f : FuncId} {l0 l : LCode} {rs : List LRes} {nt : Nat} (hl : rlF Try.prog f l0 = some (l, rs, nt)) {args : List V} {R : V → List Blk → Prop} (hlen : args.length ≤ nt)
    (h : aw (cxN Try.prog []) l (retP [] 0 rs R) (fun _ _ => False) (retP [] 0 rs R) ⟨args0 0 args, [], 0⟩) : Ok f args R :=
  okN_of pol [] hl hlen trivial (fun k hk => by simp at hk) h
theorem enc_len (a : Arc) : a.enc.length = 4 := rfl
theorem enc_take (a : Arc) : List.take 4 a.enc = a.enc := rfl
theorem enc_0 (a : Arc) : a.enc[0]? = some (.i a.from_) := rfl
theorem enc_1 (a : Arc) : a.enc[1]? = some (.i a.to) := rfl
theorem enc_2 (a : Arc) : a.enc[2]? = some (.i a.cap) := rfl
theorem enc_3 (a : Arc) : a.enc[3]? = some (.i a.cost) := rfl
theorem enc_isC (a : Arc) : a.enc.all isC = true := rfl
theorem enc_isD (a : Arc) : a.enc.all isD = true := rfl
theorem encI_len (x : Int) : (encI x).length = 1 := rfl
theorem encI_0 (x : Int) : (encI x)[0]? = some (.i x) := rfl
theorem encI_drop (x : Int) : List.drop 1 (encI x) = [] := rfl
theorem encB_drop (x : Bool) : List.drop 1 (encB x) = [] := rfl
theorem encB_len (x : Bool) : (encB x).length = 1 := rfl
theorem encB_0 (x : Bool) : (encB x)[0]? = some (.b x) := rfl
end Go.Fx.C
namespace Go.Fx.C
open Go Go.Fx Go.Proofs
set_option maxRecDepth 20000
def nodeB (n k : Int) : Bool := decide (0 ≤ k ∧ k < n)
theorem ok24 (n : Int) (arcs : List Arc) (k : Int) : Ok 24 [net n arcs, .i k] (Is (.b (nodeB n k))) := by
  refine ok_of lw24 (by simp) ?_
  unfold c24 net
  simp -implicitDefEqProofs only [qF, qI, qN, qO, qP, qQ, qR, qS, qT, qV, qX, qZ, zH, zJ, zK, zN, ofConst, cells?, List.length_nil, List.length_cons, List.set_cons_zero, zO, List.getD_eq_getElem?_getD, List.getElem?_cons_zero, ↓reduceIte, Nat.reduceEqDiff, Option.getD_some, zP, zR, Bool.not_true, ↓zS, ↓zT, zU, List.nil_append, List.append_nil, Nat.zero_add, Nat.add_zero, reduceCtorEq, freshP, zW, resP, tupV, List.reverse_cons, List.reverse_nil, wfV, true_and, V.v.injEq, Value.int.injEq, Value.bool.injEq, kc, jq, ↓jr, ↓ju, ↓jx, ↓jA, ↓jG, ↓qaT, ↓qaW, cxN, args0]
  simp only [br, decide_eq_true_eq, decide_eq_false_iff_not, nodeB]
  grind
def nb (n : Int) (arcs : List Arc) : Blk := .var [.i n, .ro 4 (arcs.map Arc.enc)]
theorem ok25 (n : Int) (arcs : List Arc) (k : Int) : OkN Try.prog 25 [.i k, .ptr 0 0 0] [nb n arcs] [] (IsA (.b (nodeB n k)) [nb n arcs]) := by
  refine okN_of pol [0] lw25 (by simp) ⟨trivial, trivial⟩ (by simp) ?_
  unfold c25 nb
  simp -implicitDefEqProofs only [qF, qI, qN, qO, qP, qQ, qR, qS, qV, qX, qZ, zH, zJ, zK, zN, ofConst, List.length_nil, List.length_cons, zO, List.getD_eq_getElem?_getD, List.getElem?_cons_zero, ↓reduceIte, Nat.reduceEqDiff, Option.getD_some, zP, zR, Bool.not_true, ↓zS, ↓zT, zU, List.nil_append, List.append_nil, Nat.zero_add, Nat.add_zero, reduceCtorEq, resP, tupV, List.reverse_cons, List.reverse_nil, leH, leB, leV, leVs, keepP, liveP, wfB, wfV, wfL, Bool.and_self, true_and, and_self, V.v.injEq, Value.int.injEq, Value.bool.injEq, Nat.le_refl, jq, ↓jr, ↓ju, ↓jx, ↓jA, ↓jG, ↓qaT, ↓qaW, cxN, args0, retP_isA]
  simp only [br, decide_eq_true_eq, decide_eq_false_iff_not, nodeB]
  grind
def taskP (n f t am : Int) : Bool := decide ((0 ≤ f ∧ f < n) ∧ (0 ≤ t ∧ t < n) ∧ f ≠ t ∧ 0 ≤ am ∧ am ≤ 2199023255552)
theorem ok26 (n : Int) (arcs : List Arc) (f t am : Int) : Ok 26 [net n arcs, .i f, .i t, .i am] (Is (.b (taskP n f t am))) := by
  refine ok_of lw26 (by simp) ?_
  unfold c26 net
  simp -implicitDefEqProofs only [qF, qI, qN, qO, qP, qQ, qR, qS, qT, qV, qX, qZ, zH, zJ, zK, zN, ofConst, cells?, List.length_nil, List.length_cons, List.set_cons_zero, zO, List.getD_eq_getElem?_getD, List.getElem?_cons_zero, ↓reduceIte, Nat.reduceEqDiff, Option.getD_some, zP, zR, Bool.not_true, ↓zS, ↓zT, zU, List.nil_append, List.append_nil, Nat.zero_add, Nat.reduceAdd, Nat.add_zero, reduceCtorEq, freshP, zW, resP, tupV, List.reverse_cons, List.reverse_nil, wfV, true_and, V.v.injEq, Value.int.injEq, Value.bool.injEq, kc, jq, ↓jr, ↓ju, ↓jx, ↓jA, ↓jG, ↓qaS, ↓qaT, ↓qaU, ↓qaW, cxN, args0]
  simp only [br, decide_eq_true_eq, decide_eq_false_iff_not, taskP]
  grind
end Go.Fx.C
namespace Go.Fx.C
open Go Go.Fx Go.Proofs
set_option maxRecDepth 20000
def validA (n : Int) (a : Arc) : Bool := nodeB n a.from_ && (nodeB n a.to && decide (a.from_ ≠ a.to ∧ 0 ≤ a.cap ∧ a.cap ≤ 1073741824 ∧ 0 ≤ a.cost ∧ a.cost ≤ 1048576))
def checkI (n : Int) (arcs : List Arc) : Int := if 256 < n ∨ 2048 < arcs.length then 2 else if n < 1 then 1 else if arcs.all (validA n) then 0 else 1
theorem checkI_2 {n : Int} {arcs : List Arc} (h : 256 < n ∨ 2048 < arcs.length) : checkI n arcs = 2 := by simp only [checkI, if_pos h]
theorem checkI_1 {n : Int} {arcs : List Arc} (h : ¬ (256 < n ∨ 2048 < arcs.length)) (h1 : n < 1) : checkI n arcs = 1 := by simp only [checkI, if_neg h, if_pos h1]
theorem checkI_0 {n : Int} {arcs : List Arc} (h : ¬ (256 < n ∨ 2048 < arcs.length)) (h1 : ¬ n < 1) (h2 : ∀ k (h : k < arcs.length), validA n arcs[k] = true) : checkI n arcs = 0 := by
  have : arcs.all (validA n) = true := by
    rw [List.all_eq_true]
    intro a ha
    obtain ⟨j, hj, rfl⟩ := List.getElem_of_mem ha
    exact h2 j hj
  simp only [checkI, if_neg h, if_neg h1, this, if_true]
theorem checkI_b {n : Int} {arcs : List Arc} (h : ¬ (256 < n ∨ 2048 < arcs.length)) (h1 : ¬ n < 1) {k : Nat} (hk : k < arcs.length) (h2 : validA n arcs[k] = false) : checkI n arcs = 1 := by
  have : arcs.all (validA n) = false := by
    rw [List.all_eq_false]
    exact ⟨_, List.getElem_mem hk, by simp [h2]⟩
  simp only [checkI, if_neg h, if_neg h1, this]
  rfl
structure VInv (n : Int) (arcs : List Arc) (k : Nat) : Prop where
  h : ∀ j (h : j < arcs.length), j < k → validA n arcs[j] = true
theorem VInv.next {n : Int} {arcs : List Arc} {k : Nat} (h : VInv n arcs k) (hk : k < arcs.length) (hv : validA n arcs[k] = true) : VInv n arcs (k + 1) := by
  refine ⟨fun j hj h2 => ?_⟩
  by_cases h3 : j = k
  · subst h3; exact hv
  · exact h.h j hj (by omega)
theorem wkL_net {n : Int} {arcs : List Arc} {h : List Blk} {g : Nat → Option Nat} {k : Int} : lendsOk h g [net n arcs, .i k] ∧ wkL [net n arcs, .i k] (lends h g [net n arcs, .i k]) := by
  simp [net, lendsOk, lendOk, lends, lend, wkL, wk, wkR]
theorem ok10 (n : Int) (arcs : List Arc) : Ok 10 [net n arcs] (Is (.i (checkI n arcs))) := by
  refine ok_of lw10 (by simp) ?_
  unfold c10 net
  simp -implicitDefEqProofs only [qE, qF, qI, qJ, qK, qL, qN, qO, qP, qQ, qR, qS, qT, qV, qX, qZ, zb, zH, zJ, zK, zN, ofConst, cells?, List.length_nil, List.length_cons, List.set_cons_zero, zO, List.getD_eq_getElem?_getD, List.getElem?_cons_zero, ↓reduceIte, Nat.reduceEqDiff, Option.getD_some, zP, zR, Bool.not_false, ↓zS, ↓zT, zU, List.nil_append, List.append_nil, Nat.zero_add, Nat.add_zero, freshP, zW, resP, tupV, List.reverse_cons, List.reverse_nil, wfV, true_and, V.v.injEq, Value.int.injEq, Value.bool.injEq, List.length_map, Bool.false_eq_true, lg0, kc, jq, ↓jr, ↓ju, ↓jx, ↓jA, ↓jG, ↓jO, ↓qaT, ↓qaV, List.length_map, cxN, args0]
  simp only [br, decide_eq_true_eq, decide_eq_false_iff_not]
  refine ⟨fun h => ?_, fun h1 hm => ⟨fun h => ?_, fun h2 => ⟨fun h => ?_, fun h3 => ?_⟩⟩⟩
  · exact (checkI_2 (.inl h)).symm
  · exact (checkI_2 (.inr (by omega))).symm
  · exact (checkI_1 (by omega) h).symm
  refine loopP_intro (fun k : Nat => ⟨[(3, .i k), (1, .ptr 0 0 0)], [.var [.i n, .ro 4 (arcs.map Arc.enc)]], 0⟩) (fun k => k ≤ arcs.length ∧ VInv n arcs k) (fun k => arcs.length - k) 0 ⟨by omega, ⟨by simp⟩⟩ ?_ ?_
  · simp -implicitDefEqProofs only [zN, List.getElem?_cons_zero, ↓reduceIte, Nat.reduceEqDiff, zX, leE, leH, leB, leV, leVs, keepP, liveP, wfE, wfB, wfV, wfL, Bool.and_self, and_self, leVs, leV, Int.natCast_zero]
  rintro k ⟨hk, hv⟩
  simp -implicitDefEqProofs only [qE, qF, qI, qJ, qK, qM, qN, qO, qP, qR, qU, qV, qW, qX, qY, qZ, zb, zD, zH, zI, zJ, zK, zN, ofConst, cells?, List.length_nil, List.length_cons, List.set_cons_zero, splice, zO, List.getD_eq_getElem?_getD, List.getElem?_cons_zero, ↓reduceIte, Nat.reduceEqDiff, Option.getD_some, zP, zR, List.nil_append, List.cons_append, List.append_nil, Nat.zero_add, Nat.reduceAdd, Nat.add_zero, freshP, zW, resP, tupV, List.reverse_cons, List.reverse_nil, wfV, List.map_cons, List.map_nil, List.drop_zero, List.take_zero, List.take_nil, List.drop_nil, Bool.and_true, true_and, and_true, V.v.injEq, Value.int.injEq, Value.bool.injEq, List.not_mem_nil, List.length_map, not_false_eq_true, Nat.le_refl, lg0, zY, zZ, ka, kc, kh, ki, kn, kw, jq, ↓jr, ↓ju, ↓jv, ↓jx, ↓jA, ↓jB, ↓jC, ↓jD, ↓jG, ↓jJ, ↓jO, ↓qaT, List.length_map, List.getElem_map, enc_len, enc_take, enc_0, enc_isC, Int.toNat_natCast]
  simp only [br, decide_eq_true_eq, decide_eq_false_iff_not]
  refine fun _ => ⟨fun h => ⟨⟨by omega, h⟩, ⟨by omega, ?_⟩⟩, fun h => (checkI_0 (by omega) h3 fun j hj => hv.h j hj (by omega)).symm⟩
  have hk : k < arcs.length := by omega
  have bad := fun (h : validA n arcs[k] = false) => (checkI_b (n := n) (arcs := arcs) (by omega) h3 hk h).symm
  have good := fun (h : validA n arcs[k] = true) => hv.next hk h
  refine call_is (ok24 n arcs arcs[k].from_) wkL_net rfl trivial ?_
  cases hf : nodeB n arcs[k].from_ with
  | false =>
    simp -implicitDefEqProofs only [qF, qI, qJ, qN, qO, qP, qQ, qR, qS, zd, zH, zJ, zK, zN, ofConst, List.length_nil, List.length_cons, ↓reduceIte, Nat.reduceEqDiff, zQ, zR, Bool.not_false, ↓zS, zU, List.nil_append, List.append_nil, Nat.zero_add, Nat.reduceAdd, zW, resP, tupV, List.reverse_cons, List.reverse_nil, wfV, true_and, V.v.injEq, Value.int.injEq, Value.bool.injEq, Bool.false_eq_true, jq]
    exact bad (by simp [validA, hf])
  | true =>
    simp -implicitDefEqProofs only [qP, qQ, qR, qV, qX, zd, zD, zH, zJ, zN, List.length_nil, List.length_cons, zO, List.getD_eq_getElem?_getD, List.getElem?_cons_zero, ↓reduceIte, Nat.reduceEqDiff, Option.getD_some, zQ, Bool.not_true, ↓zT, zU, Nat.zero_add, Nat.reduceAdd, List.map_cons, List.map_nil, List.drop_zero, List.take_nil, true_and, Bool.false_eq_true, Nat.le_refl, lg0, ka, ki, ↓jr, ↓ju, ↓jx, ↓jA, ↓jB, ↓jG, enc_1]
    refine call_is (ok24 n arcs arcs[k].to) wkL_net rfl trivial ?_
    cases ht : nodeB n arcs[k].to with
    | false =>
      simp -implicitDefEqProofs only [qF, qI, qJ, qN, qO, qP, qQ, qR, qS, zd, zH, zJ, zK, zN, ofConst, List.length_nil, List.length_cons, ↓reduceIte, Nat.reduceEqDiff, zQ, zR, Bool.not_false, ↓zS, ↓zT, zU, List.nil_append, List.append_nil, Nat.zero_add, Nat.reduceAdd, zW, resP, tupV, List.reverse_cons, List.reverse_nil, wfV, true_and, V.v.injEq, Value.int.injEq, Value.bool.injEq, Bool.false_eq_true, jq]
      exact bad (by simp [validA, ht])
    | true =>
      simp -implicitDefEqProofs only [qE, qF, qI, qJ, qN, qO, qP, qQ, qR, qS, qV, qX, qZ, zd, zH, zJ, zK, zN, ofConst, List.length_nil, List.length_cons, zO, List.getD_eq_getElem?_getD, List.getElem?_cons_zero, ↓reduceIte, Nat.reduceEqDiff, Option.getD_some, zP, zQ, zR, Bool.not_true, Bool.not_false, ↓zS, ↓zT, zU, List.nil_append, List.append_nil, Nat.zero_add, Nat.reduceAdd, Nat.add_zero, zW, resP, tupV, List.reverse_cons, List.reverse_nil, zX, leE, leH, leB, leV, leVs, keepP, liveP, wfE, wfB, wfV, wfL, Bool.and_true, Bool.and_self, true_and, and_true, and_self, V.v.injEq, Value.int.injEq, Value.bool.injEq, Bool.false_eq_true, lg0, jq, ↓jr, ↓ju, ↓jx, ↓jA, ↓jG, ↓qaL, ↓qaR, ↓qaT, ↓qaV, enc_0, enc_1, enc_2, enc_3]
      simp only [br, decide_eq_true_eq, decide_eq_false_iff_not, validA, hf, ht, Bool.true_and] at bad good ⊢
      simp only [lo, hi, maxLen, beq_iff_eq, beq_eq_false_iff_ne] at *
      repeat' (first | (refine ⟨(k+1 : _), ?_⟩) | (refine ⟨by omega, ?_⟩) | (refine And.intro ?_ ?_) | (refine (fun _ => ?_)))
      all_goals first | omega | (apply bad; omega) | (apply good; omega)
theorem ok11 (n : Int) (arcs : List Arc) : Ok 11 [net n arcs] (Is (.i (checkI n arcs))) := by
  refine ok_of lw11 (by simp) ?_
  unfold c11 net
  simp -implicitDefEqProofs only [qE, qF, qI, qJ, qK, qL, qN, qO, qP, qQ, qR, qS, qT, qV, qX, qZ, zb, zh, zH, zJ, zK, zN, ofConst, cells?, List.length_nil, List.length_cons, List.set_cons_zero, zO, List.getD_eq_getElem?_getD, List.getElem?_cons_zero, ↓reduceIte, Nat.reduceEqDiff, Option.getD_some, zP, zR, Bool.not_false, ↓zS, ↓zT, zU, List.nil_append, List.append_nil, Nat.zero_add, Nat.add_zero, freshP, zW, resP, tupV, List.reverse_cons, List.reverse_nil, wfV, List.map_cons, List.map_nil, true_and, V.v.injEq, Value.int.injEq, Value.bool.injEq, List.length_map, Bool.false_eq_true, lg0, kc, jq, ↓jr, ↓ju, ↓jx, ↓jA, ↓jG, ↓jO, ↓qaT, ↓qaV, List.length_map, cxN, args0]
  simp only [br, decide_eq_true_eq, decide_eq_false_iff_not]
  refine ⟨fun h => ?_, fun h1 hm => ⟨fun h => ?_, fun h2 => ⟨fun h => ?_, fun h3 => ?_⟩⟩⟩
  · exact (checkI_2 (.inl h)).symm
  · exact (checkI_2 (.inr (by omega))).symm
  · exact (checkI_1 (by omega) h).symm
  intro _
  refine loopP_intro (fun k : Nat => ⟨[(22, .i k), (21, .i arcs.length), (20, .ro 4 (arcs.map Arc.enc)), (3, .clo 25 [.ptr 0 0 0]), (1, .ptr 0 0 0)], [.var [.i n, .ro 4 (arcs.map Arc.enc)]], 0⟩) (fun k => k ≤ arcs.length ∧ VInv n arcs k) (fun k => arcs.length - k) 0 ⟨by omega, ⟨by simp⟩⟩ ?_ ?_
  · simp -implicitDefEqProofs only [zN, List.getElem?_cons_zero, ↓reduceIte, Nat.reduceEqDiff, zX, leE, leH, leB, leV, leVs, keepP, liveP, wfE, wfB, wfV, wfL, Bool.and_self, and_self, leVs, leV, Int.natCast_zero]
  rintro k ⟨hk, hv⟩
  simp -implicitDefEqProofs only [qE, qF, qI, qJ, qK, qM, qN, qO, qP, qR, qU, qV, qW, qX, qY, qZ, zG, zH, zI, zJ, zK, zN, ofConst, cells?, List.length_nil, List.length_cons, List.set_cons_zero, splice, zO, List.getD_eq_getElem?_getD, List.getElem?_cons_zero, ↓reduceIte, Nat.reduceEqDiff, Option.getD_some, zP, zR, List.nil_append, List.cons_append, List.append_nil, Nat.zero_add, Nat.reduceAdd, Nat.add_zero, freshP, zW, resP, tupV, List.reverse_cons, List.reverse_nil, wfV, List.map_cons, List.map_nil, List.drop_zero, List.take_zero, List.drop_nil, Bool.and_true, true_and, and_true, V.v.injEq, Value.int.injEq, Value.bool.injEq, List.not_mem_nil, List.length_map, not_false_eq_true, Nat.le_refl, lg0, zY, zZ, kc, kh, kn, kw, jq, ↓jr, ↓ju, ↓jv, ↓jx, ↓jA, ↓jB, ↓jC, ↓jD, ↓jG, ↓jJ, ↓jW, ↓qaT, List.length_map, List.getElem_map, enc_len, enc_take, enc_0, enc_isC, Int.toNat_natCast]
  simp only [br, decide_eq_true_eq, decide_eq_false_iff_not]
  refine ⟨fun h => ⟨⟨by omega, h⟩, ⟨by omega, ?_⟩⟩, fun h => (checkI_0 (by omega) h3 fun j hj => hv.h j hj (by omega)).symm⟩
  have hk : k < arcs.length := by omega
  have bad := fun (h : validA n arcs[k] = false) => (checkI_b (n := n) (arcs := arcs) (by omega) h3 hk h).symm
  have good := fun (h : validA n arcs[k] = true) => hv.next hk h
  refine call_isN [0] [.i arcs[k].from_, .ptr 0 0 0] (.b (nodeB n arcs[k].from_)) (.b (nodeB n arcs[k].from_)) [nb n arcs] [nb n arcs] _ (ok25 n arcs arcs[k].from_) ⟨by simp, by simp⟩ rfl ?_ (by simp) rfl rfl trivial ?_
  · simp [lendsOk, lendOk, lends, lend, wkL, wk, pos]
  cases hf : nodeB n arcs[k].from_ with
  | false =>
    simp -implicitDefEqProofs only [qF, qI, qJ, qN, qO, qP, qQ, qR, qS, zd, zH, zJ, zK, zN, ofConst, List.length_nil, List.length_cons, ↓reduceIte, Nat.reduceEqDiff, zQ, zR, Bool.not_false, ↓zS, zU, List.nil_append, List.append_nil, Nat.zero_add, Nat.reduceAdd, zW, resP, tupV, List.reverse_cons, List.reverse_nil, wfV, List.map_cons, List.map_nil, true_and, V.v.injEq, Value.int.injEq, Value.bool.injEq, Bool.false_eq_true, jq]
    exact bad (by simp [validA, hf])
  | true =>
    simp -implicitDefEqProofs only [qP, qQ, qR, qV, qX, zd, zG, zH, zJ, zN, List.length_nil, List.length_cons, List.set_cons_zero, zO, List.getD_eq_getElem?_getD, List.getElem?_cons_zero, ↓reduceIte, Nat.reduceEqDiff, Option.getD_some, zQ, Bool.not_true, ↓zT, zU, List.nil_append, List.cons_append, List.append_nil, Nat.zero_add, Nat.reduceAdd, List.map_cons, List.map_nil, Bool.false_eq_true, lg0, ↓jr, ↓ju, ↓jx, ↓jA, ↓jG, ↓jW, enc_1, setAll, renB, rens, ren, nb]
    refine call_isN [0] [.i arcs[k].to, .ptr 0 0 0] (.b (nodeB n arcs[k].to)) (.b (nodeB n arcs[k].to)) [nb n arcs] [nb n arcs] _ (ok25 n arcs arcs[k].to) ⟨by simp, by simp⟩ rfl ?_ (by simp) rfl rfl trivial ?_
    · simp [lendsOk, lendOk, lends, lend, wkL, wk, pos]
    cases ht : nodeB n arcs[k].to with
    | false =>
      simp -implicitDefEqProofs only [qF, qI, qJ, qN, qO, qP, qQ, qR, qS, zd, zH, zJ, zK, zN, ofConst, List.length_nil, List.length_cons, List.set_cons_zero, ↓reduceIte, Nat.reduceEqDiff, zQ, zR, Bool.not_false, ↓zS, ↓zT, zU, List.nil_append, List.append_nil, Nat.zero_add, Nat.reduceAdd, zW, resP, tupV, List.reverse_cons, List.reverse_nil, wfV, List.map_cons, List.map_nil, true_and, V.v.injEq, Value.int.injEq, Value.bool.injEq, Bool.false_eq_true, jq, setAll, renB, rens, ren, nb]
      exact bad (by simp [validA, ht])
    | true =>
      simp -implicitDefEqProofs only [qE, qF, qI, qJ, qN, qO, qP, qQ, qR, qS, qV, qX, qZ, zd, zH, zJ, zK, zN, ofConst, List.length_nil, List.length_cons, List.set_cons_zero, zO, List.getD_eq_getElem?_getD, List.getElem?_cons_zero, ↓reduceIte, Nat.reduceEqDiff, Option.getD_some, zP, zQ, zR, Bool.not_true, Bool.not_false, ↓zS, ↓zT, zU, List.nil_append, List.append_nil, Nat.zero_add, Nat.reduceAdd, Nat.add_zero, zW, resP, tupV, List.reverse_cons, List.reverse_nil, zX, leE, leH, leB, leV, leVs, keepP, liveP, wfE, wfB, wfV, wfL, List.map_cons, List.map_nil, Bool.and_true, Bool.and_self, true_and, and_true, and_self, V.v.injEq, Value.int.injEq, Value.bool.injEq, Bool.false_eq_true, lg0, jq, ↓jr, ↓ju, ↓jx, ↓jA, ↓jG, ↓qaL, ↓qaR, ↓qaT, ↓qaV, enc_0, enc_1, enc_2, enc_3, setAll, renB, rens, ren, nb]
      simp only [br, decide_eq_true_eq, decide_eq_false_iff_not, validA, hf, ht, Bool.true_and] at bad good ⊢
      simp only [lo, hi, maxLen, beq_iff_eq, beq_eq_false_iff_ne] at *
      repeat' (first | (refine ⟨(k+1 : _), ?_⟩) | (refine ⟨by omega, ?_⟩) | (refine And.intro ?_ ?_) | (refine (fun _ => ?_)))
      all_goals first | omega | (apply bad; omega) | (apply good; omega)
def taskB (n : Int) (arcs : List Arc) (f t am : Int) : Bool := decide (checkI n arcs = 0) && taskP n f t am
theorem ok12 (n : Int) (arcs : List Arc) (f t am : Int) : Ok 12 [net n arcs, .i f, .i t, .i am] (Is (.b (taskB n arcs f t am))) := by
  refine ok_of lw12 (by simp) ?_
  unfold c12 net
  simp -implicitDefEqProofs only [qF, qI, qO, qP, qR, qT, qV, zD, zH, zJ, zK, zN, ofConst, cells?, List.length_nil, List.length_cons, List.set_cons_zero, zO, List.getD_eq_getElem?_getD, List.getElem?_cons_zero, ↓reduceIte, Nat.reduceEqDiff, Option.getD_some, List.nil_append, List.append_nil, Nat.zero_add, Nat.reduceAdd, Nat.add_zero, freshP, List.map_cons, List.map_nil, List.drop_zero, List.take_nil, true_and, Nat.le_refl, ka, kc, ki, jq, ↓jr, ↓ju, ↓jx, ↓jB, cxN, args0]
  refine call_is (ok10 n arcs) (by simp [net, lendsOk, lendOk, lends, lend, wkL, wk, wkR]) rfl trivial ?_
  simp -implicitDefEqProofs only [qN, qO, qP, qQ, qR, qS, qV, qZ, zD, zH, zJ, zK, zN, ofConst, List.length_nil, List.length_cons, zO, List.getD_eq_getElem?_getD, List.getElem?_cons_zero, ↓reduceIte, Nat.reduceEqDiff, Option.getD_some, zP, zR, Bool.not_true, ↓zS, ↓zT, zU, List.nil_append, Nat.zero_add, Nat.reduceAdd, reduceCtorEq, zW, resP, tupV, List.reverse_cons, List.reverse_nil, wfV, List.map_cons, List.map_nil, List.drop_zero, List.take_nil, true_and, V.v.injEq, Value.int.injEq, Value.bool.injEq, Nat.le_refl, ka, ki, ↓ju, ↓jx, ↓jB, ↓qaR]
  by_cases hc : checkI n arcs = 0
  · simp -implicitDefEqProofs only [↓zS, hc, beq_self_eq_true]
    refine call_is (ok24 n arcs f) wkL_net rfl trivial ?_
    cases hf : nodeB n f with
    | false =>
      simp -implicitDefEqProofs only [qN, qO, qP, qQ, qR, qS, zH, zJ, zK, zN, ofConst, ↓reduceIte, Nat.reduceEqDiff, zR, Bool.not_true, ↓zS, ↓zT, zU, List.nil_append, zW, resP, tupV, List.reverse_cons, List.reverse_nil, wfV, true_and, V.v.injEq, Value.int.injEq, Value.bool.injEq]
      simp only [nodeB, decide_eq_false_iff_not] at hf
      simp only [taskB, taskP]
      grind
    | true =>
      simp -implicitDefEqProofs only [qP, qQ, qR, qS, qV, zD, zH, zJ, zN, List.length_nil, List.length_cons, zO, List.getD_eq_getElem?_getD, List.getElem?_cons_zero, ↓reduceIte, Nat.reduceEqDiff, Option.getD_some, zR, ↓zS, zU, Nat.zero_add, Nat.reduceAdd, reduceCtorEq, List.map_cons, List.map_nil, List.drop_zero, List.take_nil, true_and, Nat.le_refl, ka, ki, ↓ju, ↓jx, ↓jB]
      refine call_is (ok24 n arcs t) wkL_net rfl trivial ?_
      cases ht : nodeB n t with
      | false =>
        simp -implicitDefEqProofs only [qN, qO, qP, qQ, qR, qS, zH, zJ, zK, zN, ofConst, ↓reduceIte, Nat.reduceEqDiff, zR, Bool.not_true, ↓zS, ↓zT, zU, List.nil_append, zW, resP, tupV, List.reverse_cons, List.reverse_nil, wfV, true_and, V.v.injEq, Value.int.injEq, Value.bool.injEq]
        simp only [nodeB, decide_eq_false_iff_not] at ht
        simp only [taskB, taskP]
        grind
      | true =>
        simp -implicitDefEqProofs only [qN, qO, qP, qQ, qR, qS, qZ, zH, zJ, zK, zN, ofConst, ↓reduceIte, Nat.reduceEqDiff, zP, zR, Bool.not_true, ↓zS, ↓zT, zU, List.nil_append, reduceCtorEq, zW, resP, tupV, List.reverse_cons, List.reverse_nil, wfV, true_and, V.v.injEq, Value.int.injEq, Value.bool.injEq, ↓qaS, ↓qaU, ↓qaW]
        simp only [br, decide_eq_true_eq, decide_eq_false_iff_not, taskB, taskP, nodeB] at *
        grind
  · have : (checkI n arcs == 0) = false := by simpa using hc
    simp -implicitDefEqProofs only [↓zT, this]
    simp [taskB, hc]
end Go.Fx.C
namespace Go.Fx.C
open Go Go.Fx Go.Proofs
set_option maxRecDepth 20000
structure Val (N : Nat) (arcs : List Arc) : Prop where
  hn : 1 ≤ N ∧ N ≤ 256
  hl : arcs.length ≤ 2048
  ha : ∀ a ∈ arcs, (0 ≤ a.from_ ∧ a.from_ < N) ∧ (0 ≤ a.to ∧ a.to < N) ∧ a.from_ ≠ a.to ∧ (0 ≤ a.cap ∧ a.cap ≤ 1073741824) ∧ 0 ≤ a.cost ∧ a.cost ≤ 1048576
theorem Val.of {n : Int} {arcs : List Arc} (h : checkI n arcs = 0) : ∃ N : Nat, n = N ∧ Val N arcs := by
  unfold checkI at h
  split at h
  · cases h
  · split at h
    · cases h
    · split at h
      · rename_i h1 h2 h3
        refine ⟨n.toNat, by omega, by omega, by omega, fun a ha => ?_⟩
        rw [List.all_eq_true] at h3
        have := h3 a ha
        simp only [validA, nodeB, Bool.and_eq_true, decide_eq_true_eq] at this
        omega
      · cases h
theorem Val.chk {N : Nat} {arcs : List Arc} (h : Val N arcs) : checkI N arcs = 0 := by
  obtain ⟨h1, h2, h3⟩ := h
  refine checkI_0 (by omega) (by omega) fun k hk => ?_
  have := h3 _ (List.getElem_mem hk)
  simp only [validA, nodeB, Bool.and_eq_true, decide_eq_true_eq]
  omega
def possP (arcs : List Arc) (flow : List Int) : Prop := ∀ i (h1 : i < flow.length) (h2 : i < arcs.length), 0 ≤ flow[i] ∧ flow[i] ≤ arcs[i].cap
theorem Val.flow {N : Nat} {arcs : List Arc} (h : Val N arcs) {flow : List Int} (hl : flow.length = arcs.length) (hp : possP arcs flow) : ∀ x ∈ flow, 0 ≤ x ∧ x ≤ 1073741824 := by
  intro x hx
  obtain ⟨i, hi, rfl⟩ := List.getElem_of_mem hx
  have h1 := hp i hi (by omega)
  have h2 := (h.ha arcs[i] (List.getElem_mem _))
  omega
def valTo (arcs : List Arc) (node : Int) (flow : List Int) : Nat → Int
  | 0 => 0
  | k + 1 => valTo arcs node flow k + (if (arcs.getD k ⟨0,0,0,0⟩).from_ = node then flow.getD k 0 else 0) - (if (arcs.getD k ⟨0,0,0,0⟩).to = node then flow.getD k 0 else 0)
theorem flow_b {flow : List Int} (hf : ∀ x ∈ flow, 0 ≤ x ∧ x ≤ 1073741824) (k : Nat) : 0 ≤ flow.getD k 0 ∧ flow.getD k 0 ≤ 1073741824 := by
  rw [List.getD_eq_getElem?_getD]
  cases h : flow[k]? with
  | none => simp
  | some x => exact hf x (List.mem_of_getElem? h)
theorem valTo_bound (arcs : List Arc) (node : Int) (flow : List Int) (hf : ∀ x ∈ flow, 0 ≤ x ∧ x ≤ 1073741824) : ∀ k : Nat, -((k : Int) * 1073741824) ≤ valTo arcs node flow k ∧ valTo arcs node flow k ≤ (k : Int) * 1073741824
  | 0 => by simp [valTo]
  | k + 1 => by
    have h1 := valTo_bound arcs node flow hf k
    have h2 := flow_b hf k
    simp only [valTo]
    split <;> split <;> omega
theorem valTo_step {arcs : List Arc} {node : Int} {flow : List Int} {k : Nat} (h1 : k < arcs.length) (h2 : k < flow.length) : valTo arcs node flow (k + 1) = valTo arcs node flow k + (if arcs[k].from_ = node then flow[k] else 0) - (if arcs[k].to = node then flow[k] else 0) := by
  simp only [valTo, List.getD_eq_getElem?_getD, List.getElem?_eq_getElem h1, List.getElem?_eq_getElem h2, Option.getD_some]
def totTo (arcs : List Arc) (flow : List Int) : Nat → Int
  | 0 => 0
  | k + 1 => totTo arcs flow k + flow.getD k 0 * (arcs.getD k ⟨0,0,0,0⟩).cost
theorem totTo_step {arcs : List Arc} {flow : List Int} {k : Nat} (h1 : k < arcs.length) (h2 : k < flow.length) : totTo arcs flow (k + 1) = totTo arcs flow k + flow[k] * arcs[k].cost := by
  simp only [totTo, List.getD_eq_getElem?_getD, List.getElem?_eq_getElem h1, List.getElem?_eq_getElem h2, Option.getD_some]
theorem mul_b {a b : Int} (h1 : 0 ≤ a ∧ a ≤ 1073741824) (h2 : 0 ≤ b ∧ b ≤ 1048576) : 0 ≤ a * b ∧ a * b ≤ 1125899906842624 := by
  refine ⟨Int.mul_nonneg h1.1 h2.1, ?_⟩
  have := Int.mul_le_mul h1.2 h2.2 h2.1 (by omega)
  omega
theorem totTo_bound (arcs : List Arc) (flow : List Int) (hf : ∀ x ∈ flow, 0 ≤ x ∧ x ≤ 1073741824) (ha : ∀ a ∈ arcs, 0 ≤ a.cost ∧ a.cost ≤ 1048576) : ∀ k : Nat, 0 ≤ totTo arcs flow k ∧ totTo arcs flow k ≤ (k : Int) * 1125899906842624
  | 0 => by simp [totTo]
  | k + 1 => by
    have h1 := totTo_bound arcs flow hf ha k
    have h2 := flow_b hf k
    have h3 : 0 ≤ (arcs.getD k ⟨0,0,0,0⟩).cost ∧ (arcs.getD k ⟨0,0,0,0⟩).cost ≤ 1048576 := by
      rw [List.getD_eq_getElem?_getD]
      cases h : arcs[k]? with
      | none => simp
      | some x => exact ha x (List.mem_of_getElem? h)
    have := mul_b h2 h3
    simp only [totTo]
    omega
theorem ok21 (n node : Int) (arcs : List Arc) (flow : List Int) (hl : flow.length = arcs.length) (hb : arcs.length ≤ 4096) (hf : ∀ x ∈ flow, 0 ≤ x ∧ x ≤ 1073741824) : Ok 21 [net n arcs, li flow, .i node] (Is (.i (valTo arcs node flow arcs.length))) := by
  refine ok_of lw21 (by simp) ?_
  unfold c21 net li
  simp -implicitDefEqProofs only [qF, qI, qK, qL, qO, qP, qR, qT, zH, zJ, zK, zN, ofConst, cells?, List.length_nil, List.length_cons, List.set_cons_zero, List.getElem?_cons_zero, ↓reduceIte, List.nil_append, List.append_nil, Nat.zero_add, Nat.reduceAdd, Nat.add_zero, freshP, true_and, kc, jq, ↓jr, cxN, args0]
  refine loopP_intro (fun k : Nat => ⟨[(8, .i k), (7, .i (valTo arcs node flow k)), (3, .ptr 0 0 0), (2, .i node), (1, .ro 1 (flow.map encI))], [.var [.i n, .ro 4 (arcs.map Arc.enc)]], 0⟩) (fun k => k ≤ arcs.length) (fun k => arcs.length - k) 0 (by simp) ?_ ?_
  · simp -implicitDefEqProofs only [zN, List.getElem?_cons_zero, ↓reduceIte, Nat.reduceEqDiff, reduceCtorEq, zX, leE, leH, leB, leV, leVs, keepP, liveP, wfE, wfB, wfV, wfL, Bool.and_self, and_self, leVs, leV, valTo, Int.natCast_zero]
  intro k hk
  simp -implicitDefEqProofs only [qE, qF, qI, qJ, qK, qM, qN, qO, qP, qR, qV, qX, qY, qZ, zb, zH, zJ, zK, zN, ofConst, List.length_nil, List.length_cons, zO, List.getD_eq_getElem?_getD, List.getElem?_cons_zero, ↓reduceIte, Nat.reduceEqDiff, Option.getD_some, zP, zR, List.nil_append, List.append_nil, Nat.zero_add, Nat.add_zero, zW, resP, tupV, List.reverse_cons, List.reverse_nil, zX, leE, leH, leB, leV, leVs, keepP, liveP, wfE, wfB, wfV, wfL, Bool.and_true, Bool.and_self, true_and, and_true, and_self, V.v.injEq, Value.int.injEq, Value.bool.injEq, List.length_map, lg0, jq, ↓jr, ↓ju, ↓jv, ↓jx, ↓jA, ↓jG, ↓jH, ↓jJ, ↓jO, ↓qaL, ↓qaN, ↓qaR, ↓qaT, List.length_map, List.getElem_map, enc_0, enc_1, encI_0, Int.toNat_natCast]
  simp only [br, decide_eq_true_eq, decide_eq_false_iff_not]
  refine fun hm => ⟨fun h => ⟨⟨by omega, h⟩, by omega, ?_⟩, fun h => ?_⟩
  · have hk1 : k < arcs.length := by omega
    have hk2 : k < flow.length := by omega
    have hfk := hf flow[k] (List.getElem_mem hk2)
    have hvb := valTo_bound arcs node flow hf k
    have hst := valTo_step (node := node) hk1 hk2
    simp only [lo, hi, beq_iff_eq, beq_eq_false_iff_ne]
    repeat' (first | (refine ⟨(k+1 : _), ?_⟩) | (refine ⟨by omega, ?_⟩) | (refine And.intro ?_ ?_) | (refine (fun _ => ?_)))
    all_goals first | omega | grind
  · have : k = arcs.length := by omega
    rw [this]
theorem ok22 (n : Int) (arcs : List Arc) (flow : List Int) (hl : flow.length = arcs.length) (hb : arcs.length ≤ 2048) (hf : ∀ x ∈ flow, 0 ≤ x ∧ x ≤ 1073741824) (ha : ∀ a ∈ arcs, 0 ≤ a.cost ∧ a.cost ≤ 1048576) : Ok 22 [net n arcs, li flow] (Is (.i (totTo arcs flow arcs.length))) := by
  refine ok_of lw22 (by simp) ?_
  unfold c22 net li
  simp -implicitDefEqProofs only [qF, qI, qK, qL, qO, qP, qR, qT, zH, zJ, zK, zN, ofConst, cells?, List.length_nil, List.length_cons, List.set_cons_zero, List.getElem?_cons_zero, ↓reduceIte, List.nil_append, List.append_nil, Nat.zero_add, Nat.add_zero, freshP, true_and, kc, jq, ↓jr, cxN, args0]
  refine loopP_intro (fun k : Nat => ⟨[(6, .i k), (5, .i (totTo arcs flow k)), (2, .ptr 0 0 0), (1, .ro 1 (flow.map encI))], [.var [.i n, .ro 4 (arcs.map Arc.enc)]], 0⟩) (fun k => k ≤ arcs.length) (fun k => arcs.length - k) 0 (by simp) ?_ ?_
  · simp -implicitDefEqProofs only [zN, List.getElem?_cons_zero, ↓reduceIte, Nat.reduceEqDiff, reduceCtorEq, zX, leE, leH, leB, leV, leVs, keepP, liveP, wfE, wfB, wfV, wfL, Bool.and_self, and_self, leVs, leV, totTo, Int.natCast_zero]
  intro k hk
  simp -implicitDefEqProofs only [qE, qF, qH, qI, qJ, qK, qM, qN, qO, qP, qR, qV, qX, qY, qZ, zb, zH, zJ, zK, zN, ofConst, List.length_nil, List.length_cons, zO, List.getD_eq_getElem?_getD, List.getElem?_cons_zero, ↓reduceIte, Nat.reduceEqDiff, Option.getD_some, zP, zR, List.nil_append, List.append_nil, Nat.zero_add, zW, resP, tupV, List.reverse_cons, List.reverse_nil, zX, leE, leH, leB, leV, leVs, keepP, liveP, wfE, wfB, wfV, wfL, Bool.and_true, Bool.and_self, true_and, and_true, and_self, V.v.injEq, Value.int.injEq, Value.bool.injEq, List.length_map, lg0, jq, ↓jr, ↓ju, ↓jv, ↓jx, ↓jA, ↓jG, ↓jH, ↓jJ, ↓jO, ↓qaL, ↓qaP, ↓qaT, List.length_map, List.getElem_map, enc_3, encI_0, Int.toNat_natCast]
  simp only [br, decide_eq_true_eq, decide_eq_false_iff_not]
  refine fun hm => ⟨fun h => ⟨⟨by omega, h⟩, by omega, ?_⟩, fun h => ?_⟩
  · have hk1 : k < arcs.length := by omega
    have hk2 : k < flow.length := by omega
    have hfk := hf flow[k] (List.getElem_mem hk2)
    have hak := ha arcs[k] (List.getElem_mem hk1)
    have hvb := totTo_bound arcs flow hf ha k
    have hst := totTo_step hk1 hk2
    have hmb := mul_b hfk hak
    simp only [lo, hi, beq_iff_eq, beq_eq_false_iff_ne]
    repeat' (first | (refine ⟨(k+1 : _), ?_⟩) | (refine ⟨by omega, ?_⟩) | (refine And.intro ?_ ?_) | (refine (fun _ => ?_)))
    all_goals first | omega | exact hst.symm
  · have : k = arcs.length := by omega
    rw [this]
structure FewInv (arcs : List Arc) (most : Int) (k : Nat) : Prop where
  h : ∀ j (h : j < arcs.length), j < k → arcs[j].cap ≤ most
def fewB (n : Int) (arcs : List Arc) (most : Int) : Bool := decide (n ≤ 12 ∧ arcs.length ≤ 30 ∧ checkI n arcs = 0) && arcs.all fun a => decide (a.cap ≤ most)
theorem fewB_f {n : Int} {arcs : List Arc} {most : Int} (h : ¬ (n ≤ 12 ∧ arcs.length ≤ 30 ∧ checkI n arcs = 0)) : fewB n arcs most = false := by simp only [fewB, h, decide_false, Bool.false_and]
theorem ok14 (n most : Int) (arcs : List Arc) : Ok 14 [net n arcs, .i most] (Is (.b (fewB n arcs most))) := by
  refine ok_of lw14 (by simp) ?_
  unfold c14 net
  simp -implicitDefEqProofs only [qF, qI, qJ, qN, qO, qP, qQ, qR, qS, qT, qV, qX, qZ, zb, zD, zH, zJ, zK, zN, ofConst, cells?, List.length_nil, List.length_cons, List.set_cons_zero, zO, List.getD_eq_getElem?_getD, List.getElem?_cons_zero, ↓reduceIte, Nat.reduceEqDiff, Option.getD_some, zP, zR, Bool.not_false, ↓zS, ↓zT, zU, List.nil_append, List.append_nil, Nat.zero_add, Nat.reduceAdd, Nat.add_zero, freshP, zW, resP, tupV, List.reverse_cons, List.reverse_nil, wfV, List.map_cons, List.map_nil, List.drop_zero, List.take_nil, true_and, V.v.injEq, Value.int.injEq, Value.bool.injEq, List.length_map, Bool.false_eq_true, Nat.le_refl, lg0, ka, kc, ki, jq, ↓jr, ↓ju, ↓jx, ↓jA, ↓jB, ↓jG, ↓jO, ↓qaV, List.length_map, cxN, args0]
  simp only [br, decide_eq_true_eq, decide_eq_false_iff_not]
  refine ⟨fun h => ?_, fun h1 hm => ⟨fun h => ?_, fun h2 => ?_⟩⟩
  · exact (fewB_f (by omega)).symm
  · exact (fewB_f (by omega)).symm
  refine call_is (ok10 n arcs) (by simp [net, lendsOk, lendOk, lends, lend, wkL, wk, wkR]) rfl trivial ?_
  simp -implicitDefEqProofs only [qE, qF, qI, qJ, qK, qL, qN, qO, qP, qQ, qR, qS, qZ, zH, zJ, zK, zN, ofConst, List.length_nil, List.length_cons, ↓reduceIte, Nat.reduceEqDiff, zP, zR, ↓zT, zU, List.nil_append, List.append_nil, Nat.zero_add, zW, resP, tupV, List.reverse_cons, List.reverse_nil, wfV, true_and, V.v.injEq, Value.int.injEq, Value.bool.injEq, Bool.false_eq_true, jq, ↓qaS]
  simp only [br, bne_iff_ne, bne_eq_false_iff_eq]
  refine ⟨fun h => (fewB_f (by omega)).symm, fun h => ?_⟩
  refine loopP_intro (fun k : Nat => ⟨[(5, .i k), (2, .ptr 0 0 0), (1, .i most)], [.var [.i n, .ro 4 (arcs.map Arc.enc)]], 0⟩) (fun k => k ≤ arcs.length ∧ FewInv arcs most k) (fun k => arcs.length - k) 0 ⟨by omega, ⟨by simp⟩⟩ ?_ ?_
  · simp -implicitDefEqProofs only [zN, List.getElem?_cons_zero, ↓reduceIte, Nat.reduceEqDiff, reduceCtorEq, zX, leE, leH, leB, leV, leVs, keepP, liveP, wfE, wfB, wfV, wfL, Bool.and_self, and_self, leVs, leV, Int.natCast_zero]
  rintro k ⟨hk, hv⟩
  simp -implicitDefEqProofs only [qE, qF, qI, qJ, qK, qM, qN, qO, qP, qR, qV, qX, qY, qZ, zb, zH, zJ, zK, zN, ofConst, List.length_nil, List.length_cons, zO, List.getD_eq_getElem?_getD, List.getElem?_cons_zero, ↓reduceIte, Nat.reduceEqDiff, Option.getD_some, zP, zR, List.nil_append, List.append_nil, Nat.zero_add, zW, resP, tupV, List.reverse_cons, List.reverse_nil, zX, leE, leH, leB, leV, leVs, keepP, liveP, wfE, wfB, wfV, wfL, Bool.and_true, Bool.and_self, true_and, and_true, and_self, V.v.injEq, Value.int.injEq, Value.bool.injEq, List.length_map, lg0, jq, ↓jr, ↓ju, ↓jv, ↓jx, ↓jA, ↓jG, ↓jH, ↓jJ, ↓jO, ↓qaL, ↓qaT, ↓qaV, List.length_map, List.getElem_map, enc_2, Int.toNat_natCast]
  simp only [br, decide_eq_true_eq, decide_eq_false_iff_not]
  refine fun _ => ⟨fun h3 => ⟨⟨by omega, h3⟩, by omega, fun h4 => ?_, fun h4 => ⟨by simp only [lo, hi, maxLen] at *; omega, k + 1, ⟨⟨by omega, ⟨fun j hj h2 => ?_⟩⟩, by omega⟩, by simp⟩⟩, fun h3 => ?_⟩
  · have : (arcs.all fun a => decide (a.cap ≤ most)) = false := by
      rw [List.all_eq_false]
      exact ⟨_, List.getElem_mem (by omega : k < arcs.length), by simpa using h4⟩
    simp [fewB, this]
  · by_cases h5 : j = k
    · subst h5; omega
    · exact hv.h j hj (by omega)
  · have : (arcs.all fun a => decide (a.cap ≤ most)) = true := by
      rw [List.all_eq_true]
      intro a ha
      obtain ⟨j, hj, rfl⟩ := List.getElem_of_mem ha
      simpa using hv.h j hj (by omega)
    have h6 : n ≤ 12 ∧ arcs.length ≤ 30 ∧ checkI n arcs = 0 := by omega
    simp [fewB, this, h6]
end Go.Fx.C
namespace Go.Fx.C
open Go Go.Fx Go.Proofs
set_option maxRecDepth 20000
structure OkF (n : Int) (arcs : List Arc) (f t : Int) (flow : List Int) : Prop where
  hl : flow.length = arcs.length
  hp : possP arcs flow
  hz : ∀ j : Int, 0 ≤ j → j < n → j ≠ f → j ≠ t → valTo arcs j flow arcs.length = 0
open Classical in
noncomputable def flB (n : Int) (arcs : List Arc) (f t : Int) (flow : List Int) : Bool := decide (OkF n arcs f t flow)
theorem flB_t {n : Int} {arcs : List Arc} {f t : Int} {flow : List Int} (h : OkF n arcs f t flow) : true = flB n arcs f t flow := by simp [flB, h]
theorem flB_f {n : Int} {arcs : List Arc} {f t : Int} {flow : List Int} (h : ¬ OkF n arcs f t flow) : false = flB n arcs f t flow := by simp [flB, h]
structure PInv (arcs : List Arc) (flow : List Int) (k : Nat) : Prop where
  h : ∀ j (h1 : j < flow.length) (h2 : j < arcs.length), j < k → 0 ≤ flow[j] ∧ flow[j] ≤ arcs[j].cap
structure ZInv (arcs : List Arc) (f t : Int) (flow : List Int) (k : Nat) : Prop where
  h : ∀ j : Nat, j < k → ((j : Int) ≠ f → (j : Int) ≠ t → valTo arcs j flow arcs.length = 0)
theorem ok20 (N : Nat) (arcs : List Arc) (f t : Int) (flow : List Int) (hV : Val N arcs) : Ok 20 [net N arcs, .i f, .i t, li flow] (Is (.b (flB N arcs f t flow))) := by
  refine ok_of lw20 (by simp) ?_
  unfold c20 net li
  simp -implicitDefEqProofs only [qE, qF, qI, qJ, qK, qL, qN, qO, qP, qR, qT, qV, qX, qZ, zb, zH, zJ, zK, zN, ofConst, cells?, List.length_nil, List.length_cons, List.set_cons_zero, zO, List.getD_eq_getElem?_getD, List.getElem?_cons_zero, ↓reduceIte, Nat.reduceEqDiff, Option.getD_some, zP, zR, List.nil_append, List.append_nil, Nat.zero_add, Nat.reduceAdd, Nat.add_zero, reduceCtorEq, freshP, zW, resP, tupV, List.reverse_cons, List.reverse_nil, wfV, true_and, V.v.injEq, Value.int.injEq, Value.bool.injEq, List.length_map, lg0, kc, jq, ↓jr, ↓ju, ↓jx, ↓jA, ↓jG, ↓jO, ↓qaS, List.length_map, cxN, args0]
  simp only [br, decide_eq_true_eq, decide_eq_false_iff_not, bne_iff_ne, bne_eq_false_iff_eq]
  refine fun hm1 hm2 => ⟨fun h => flB_f fun hO => ?_, fun h => ?_⟩
  · have := hO.hl; omega
  have hl : flow.length = arcs.length := by omega
  have hL := hV.hl
  have hN := hV.hn
  refine loopP_intro (fun k : Nat => ⟨[(9, .i k), (4, .ptr 0 0 0), (3, .ro 1 (flow.map encI)), (2, .i t), (1, .i f)], [.var [.i N, .ro 4 (arcs.map Arc.enc)]], 0⟩) (fun k => k ≤ arcs.length ∧ PInv arcs flow k) (fun k => arcs.length - k) 0 ⟨by omega, ⟨by simp⟩⟩ ?_ ?_
  · simp -implicitDefEqProofs only [zN, List.getElem?_cons_zero, ↓reduceIte, Nat.reduceEqDiff, reduceCtorEq, zX, leE, leH, leB, leV, leVs, keepP, liveP, wfE, wfB, wfV, wfL, Bool.and_self, and_self, leVs, leV, Int.natCast_zero]
  rintro k ⟨hk, hv⟩
  simp -implicitDefEqProofs only [qE, qF, qH, qI, qJ, qK, qL, qM, qN, qO, qP, qQ, qR, qS, qV, qX, qY, qZ, zb, zH, zJ, zK, zN, ofConst, List.length_nil, List.length_cons, zO, List.getD_eq_getElem?_getD, List.getElem?_cons_zero, ↓reduceIte, Nat.reduceEqDiff, Option.getD_some, zP, zR, Bool.not_false, ↓zS, ↓zT, zU, List.nil_append, List.append_nil, Nat.zero_add, zW, resP, tupV, List.reverse_cons, List.reverse_nil, zX, leE, leH, leB, leV, leVs, keepP, liveP, wfE, wfB, wfV, wfL, Bool.and_true, Bool.and_self, true_and, and_true, and_self, V.v.injEq, Value.int.injEq, Value.bool.injEq, List.length_map, Bool.false_eq_true, lg0, jq, ↓jr, ↓ju, ↓jv, ↓jx, ↓jA, ↓jG, ↓jH, ↓jJ, ↓jO, ↓qaL, ↓qaT, ↓qaV, List.length_map, List.getElem_map, enc_2, encI_0, Int.toNat_natCast]
  simp only [br, decide_eq_true_eq, decide_eq_false_iff_not]
  refine fun _ => ⟨fun h2 => ?_, fun h2 => ?_⟩
  · have hk1 : k < arcs.length := by omega
    have hk2 : k < flow.length := by omega
    have bad : ¬ (0 ≤ flow[k] ∧ flow[k] ≤ arcs[k].cap) → false = flB N arcs f t flow := fun h => flB_f fun hO => h (hO.hp k hk2 hk1)
    have good : (0 ≤ flow[k] ∧ flow[k] ≤ arcs[k].cap) → PInv arcs flow (k + 1) := by
      refine fun hx => ⟨fun j h3 h4 h5 => ?_⟩
      by_cases h6 : j = k
      · subst h6; exact hx
      · exact hv.h j h3 h4 (by omega)
    simp only [lo, hi, maxLen] at *
    repeat' (first | (refine ⟨(k+1 : _), ?_⟩) | (refine ⟨by omega, ?_⟩) | (refine And.intro ?_ ?_) | (refine (fun _ => ?_)))
    all_goals first | omega | (apply bad; omega) | (apply good; omega)
  have hp : possP arcs flow := fun i h3 h4 => hv.h i h3 h4 (by omega)
  have hf := hV.flow hl hp
  refine loopP_intro (fun k : Nat => ⟨[(10, .i k), (4, .ptr 0 0 0), (3, .ro 1 (flow.map encI)), (2, .i t), (1, .i f)], [.var [.i N, .ro 4 (arcs.map Arc.enc)]], 0⟩) (fun k => k ≤ N ∧ ZInv arcs f t flow k) (fun k => N - k) 0 ⟨by omega, ⟨by simp⟩⟩ ?_ ?_
  · simp -implicitDefEqProofs only [zN, List.getElem?_cons_zero, ↓reduceIte, Nat.reduceEqDiff, zX, leE, leH, leB, leV, leVs, keepP, liveP, wfE, wfB, wfV, wfL, Bool.and_self, and_self, leVs, leV, Int.natCast_zero]
  rintro k ⟨hk, hv⟩
  simp -implicitDefEqProofs only [qE, qF, qI, qJ, qK, qM, qN, qO, qP, qQ, qR, qS, qV, qX, qZ, zD, zH, zJ, zK, zN, ofConst, List.length_nil, List.length_cons, zO, List.getD_eq_getElem?_getD, List.getElem?_cons_zero, ↓reduceIte, Nat.reduceEqDiff, Option.getD_some, zP, zR, Bool.not_true, ↓zS, ↓zT, zU, List.nil_append, List.append_nil, Nat.zero_add, Nat.reduceAdd, Nat.add_zero, zW, resP, tupV, List.reverse_cons, List.reverse_nil, zX, leE, leH, leB, leV, leVs, keepP, liveP, wfE, wfB, wfV, wfL, List.map_cons, List.map_nil, List.drop_zero, List.take_nil, Bool.and_true, Bool.and_self, true_and, and_true, and_self, V.v.injEq, Value.int.injEq, Value.bool.injEq, Nat.le_refl, ka, ki, jq, ↓jr, ↓ju, ↓jx, ↓jA, ↓jB, ↓jG, ↓qaL, ↓qaS, ↓qaT]
  simp only [br, decide_eq_true_eq, decide_eq_false_iff_not, bne_iff_ne, bne_eq_false_iff_eq]
  have hnx : ((k : Int) ≠ f → (k : Int) ≠ t → valTo arcs k flow arcs.length = 0) → ZInv arcs f t flow (k + 1) := by
    refine fun h4 => ⟨fun j hj => ?_⟩
    by_cases h6 : j = k
    · subst h6; exact h4
    · exact hv.h j (by omega)
  refine ⟨fun h3 => ⟨fun h1 => ⟨fun h2 => ?_, fun h2 => ?_⟩, fun h1 => ?_⟩, fun h3 => ?_⟩
  · refine call_is (ok21 N k arcs flow hl (by omega) hf) (by simp [net, li, lendsOk, lendOk, lends, lend, wkL, wk, wkR]) rfl trivial ?_
    simp -implicitDefEqProofs only [qE, qF, qI, qJ, qN, qO, qP, qQ, qR, qS, qZ, zH, zJ, zK, zN, ofConst, List.length_nil, List.length_cons, List.getElem?_cons_zero, ↓reduceIte, Nat.reduceEqDiff, zP, zR, ↓zS, zU, List.nil_append, List.append_nil, Nat.zero_add, zW, resP, tupV, List.reverse_cons, List.reverse_nil, zX, leE, leH, leB, leV, leVs, keepP, liveP, wfE, wfB, wfV, wfL, Bool.and_true, Bool.and_self, true_and, and_true, and_self, V.v.injEq, Value.int.injEq, Value.bool.injEq, jq, ↓qaL, ↓qaS]
    simp only [br, decide_eq_true_eq, decide_eq_false_iff_not, bne_iff_ne, bne_eq_false_iff_eq, lo, hi]
    refine ⟨fun h5 => flB_f fun hO => h5 (hO.hz k (by omega) (by omega) h1 h2), fun h5 => ?_⟩
    repeat' (first | (refine ⟨(k+1 : _), ?_⟩) | (refine ⟨by omega, ?_⟩) | (refine And.intro ?_ ?_) | (refine (fun _ => ?_)))
    all_goals first | omega | exact hnx fun _ _ => h5
  · simp only [lo, hi]
    repeat' (first | (refine ⟨(k+1 : _), ?_⟩) | (refine ⟨by omega, ?_⟩) | (refine And.intro ?_ ?_) | (refine (fun _ => ?_)))
    all_goals first | omega | exact hnx fun _ h => absurd h2 h
  · simp only [lo, hi]
    repeat' (first | (refine ⟨(k+1 : _), ?_⟩) | (refine ⟨by omega, ?_⟩) | (refine And.intro ?_ ?_) | (refine (fun _ => ?_)))
    all_goals first | omega | exact hnx fun h _ => absurd h1 h
  · refine flB_t ⟨hl, hp, fun j h1 h2 h4 h6 => ?_⟩
    have := (hv.h j.toNat (by omega))
    rw [Int.toNat_of_nonneg h1] at this
    exact this h4 h6
def hasB (l : List Int) (x : Int) : Bool := decide (x ∈ l)
structure NInv (l : List Int) (x : Int) (k : Nat) : Prop where
  h : ∀ j (h1 : j < l.length), j < k → l[j] ≠ x
theorem ok45 (l : List Int) (x : Int) : Ok 45 [li l, .i x] (Is (.b (hasB l x))) := by
  refine ok_of lw45 (by simp) ?_
  unfold c45 li
  simp -implicitDefEqProofs only [qF, qI, qK, qL, qO, qP, qR, zH, zK, ofConst, List.length_nil, List.append_nil, Nat.zero_add, jq, cxN, args0]
  refine loopP_intro (fun k : Nat => ⟨[(5, .i k), (1, .i x), (0, .ro 1 (l.map encI))], [], 0⟩) (fun k => k ≤ l.length ∧ NInv l x k) (fun k => l.length - k) 0 ⟨by omega, ⟨by simp⟩⟩ ?_ ?_
  · simp -implicitDefEqProofs only [zN, ↓reduceIte, Nat.reduceEqDiff, reduceCtorEq, zX, leE, leH, keepP, wfE, wfB, wfV, Bool.and_self, and_self, Int.natCast_zero]
  rintro k ⟨hk, hv⟩
  simp -implicitDefEqProofs only [qE, qF, qI, qJ, qK, qM, qN, qO, qP, qR, qV, qY, qZ, zb, zH, zJ, zK, zN, ofConst, List.length_nil, ↓reduceIte, Nat.reduceEqDiff, zP, zR, List.nil_append, List.append_nil, reduceCtorEq, zW, resP, tupV, List.reverse_cons, List.reverse_nil, zX, leE, leH, keepP, wfE, wfB, wfV, Bool.and_true, Bool.and_self, true_and, and_true, and_self, V.v.injEq, Value.int.injEq, Value.bool.injEq, List.length_map, jq, ↓jr, ↓jv, ↓jA, ↓jJ, ↓jO, ↓qaL, ↓qaR, ↓qaT, List.length_map, List.getElem_map, encI_0, Int.toNat_natCast]
  simp only [br, decide_eq_true_eq, decide_eq_false_iff_not, beq_iff_eq, beq_eq_false_iff_ne]
  refine fun _ => ⟨fun h2 => ⟨⟨by omega, h2⟩, by omega, fun h3 => ?_, fun h3 => ⟨by simp only [lo, hi, maxLen] at *; omega, k + 1, ⟨⟨by omega, ⟨fun j hj h2 => ?_⟩⟩, by omega⟩, by simp⟩⟩, fun h2 => ?_⟩
  · have : x ∈ l := by rw [← h3]; exact List.getElem_mem _
    simp [hasB, this]
  · by_cases h6 : j = k
    · subst h6; exact h3
    · exact hv.h j hj (by omega)
  · have : ¬ x ∈ l := by
      intro hx
      obtain ⟨j, hj, rfl⟩ := List.getElem_of_mem hx
      exact hv.h j hj (by omega) rfl
    simp [hasB, this]
structure OkP (N : Nat) (arcs : List Arc) (f : Int) (flow price : List Int) : Prop where
  hl : price.length = N
  h0 : price.getD f.toNat 0 = 0
  hb : ∀ j (h : j < price.length), 0 ≤ price[j] ∧ price[j] ≤ 1073741824
  ha : ∀ k (h : k < arcs.length), (arcs[k].cost + price.getD arcs[k].from_.toNat 0 - price.getD arcs[k].to.toNat 0 < 0 → arcs[k].cap ≤ flow.getD k 0) ∧ (0 < arcs[k].cost + price.getD arcs[k].from_.toNat 0 - price.getD arcs[k].to.toNat 0 → flow.getD k 0 ≤ 0)
open Classical in
noncomputable def prB (N : Nat) (arcs : List Arc) (f : Int) (flow price : List Int) : Bool := decide (OkP N arcs f flow price)
theorem prB_t {N : Nat} {arcs : List Arc} {f : Int} {flow price : List Int} (h : OkP N arcs f flow price) : true = prB N arcs f flow price := by simp [prB, h]
theorem prB_f {N : Nat} {arcs : List Arc} {f : Int} {flow price : List Int} (h : ¬ OkP N arcs f flow price) : false = prB N arcs f flow price := by simp [prB, h]
theorem getD_at {l : List Int} {i : Int} (h : 0 ≤ i ∧ i < l.length) : l.getD i.toNat 0 = l[i.toNat]'(by omega) := by
  rw [List.getD_eq_getElem?_getD, List.getElem?_eq_getElem (by omega)]; rfl
theorem getD_nat {l : List Int} {k : Nat} (h : k < l.length) : l.getD k 0 = l[k] := by
  rw [List.getD_eq_getElem?_getD, List.getElem?_eq_getElem h]; rfl
structure BInv (price : List Int) (k : Nat) : Prop where
  h : ∀ j (h : j < price.length), j < k → 0 ≤ price[j] ∧ price[j] ≤ 1073741824
structure RInv (arcs : List Arc) (flow price : List Int) (k : Nat) : Prop where
  h : ∀ k' (h : k' < arcs.length), k' < k → (arcs[k'].cost + price.getD arcs[k'].from_.toNat 0 - price.getD arcs[k'].to.toNat 0 < 0 → arcs[k'].cap ≤ flow.getD k' 0) ∧ (0 < arcs[k'].cost + price.getD arcs[k'].from_.toNat 0 - price.getD arcs[k'].to.toNat 0 → flow.getD k' 0 ≤ 0)
theorem RInv.next {arcs : List Arc} {flow price : List Int} {k : Nat} (hv : RInv arcs flow price k) (hk : k < arcs.length) (h : (arcs[k].cost + price.getD arcs[k].from_.toNat 0 - price.getD arcs[k].to.toNat 0 < 0 → arcs[k].cap ≤ flow.getD k 0) ∧ (0 < arcs[k].cost + price.getD arcs[k].from_.toNat 0 - price.getD arcs[k].to.toNat 0 → flow.getD k 0 ≤ 0)) : RInv arcs flow price (k + 1) := by
  refine ⟨fun j hj h2 => ?_⟩
  by_cases h6 : j = k
  · subst h6; exact h
  · exact hv.h j hj (by omega)
theorem ok33 (N : Nat) (arcs : List Arc) (f : Int) (fr : Fr) (hV : Val N arcs) (hf : 0 ≤ f ∧ f < N) (hl : fr.flow.length = arcs.length) : Ok 33 [net N arcs, .i f, fr.enc] (Is (.b (prB N arcs f fr.flow fr.price))) := by
  refine ok_of lw33 (by simp) ?_
  unfold c33 net Fr.enc li
  simp -implicitDefEqProofs only [qE, qF, qI, qJ, qK, qL, qN, qO, qP, qQ, qR, qS, qT, qV, qX, qY, qZ, zb, zH, zJ, zK, zN, ofConst, cells?, List.length_nil, List.length_cons, List.set_cons_zero, zO, List.getD_eq_getElem?_getD, List.getElem?_cons_zero, ↓reduceIte, Nat.reduceEqDiff, Option.getD_some, zP, zR, Bool.not_false, ↓zS, ↓zT, zU, List.nil_append, List.append_nil, Nat.zero_add, Nat.reduceAdd, Nat.add_zero, reduceCtorEq, freshP, zW, resP, tupV, List.reverse_cons, List.reverse_nil, wfV, true_and, V.v.injEq, Value.int.injEq, Value.bool.injEq, List.length_map, Bool.false_eq_true, lg0, zY, kc, lg1, kj, lg2, jq, ↓jr, ↓ju, ↓jv, ↓jx, ↓jA, ↓jG, ↓jJ, ↓jO, ↓qaS, List.length_map, List.getElem_map, encI_0, cxN, args0]
  simp only [br, decide_eq_true_eq, decide_eq_false_iff_not, bne_iff_ne, bne_eq_false_iff_eq]
  have hL := hV.hl
  have hN := hV.hn
  refine fun hm1 => ⟨fun h => prB_f fun hO => ?_, fun h => ?_⟩
  · have := hO.hl; omega
  have hpl : fr.price.length = N := by omega
  refine ⟨⟨hf.1, by omega⟩, by omega, fun h0 => prB_f fun hO => ?_, fun h0 => ?_⟩
  · have := hO.h0
    rw [getD_at (by omega)] at this
    exact h0 this
  refine loopP_intro (fun k : Nat => ⟨[(7, .i k), (5, .ptr 1 0 0), (3, .ptr 0 0 0), (1, .i f)], [.var [.i N, .ro 4 (arcs.map Arc.enc)], .var [.i fr.sent, .i fr.cost, .ro 1 (fr.flow.map encI), .ro 1 (fr.price.map encI), .ro 1 (fr.cut.map encI)]], 0⟩) (fun k => k ≤ N ∧ BInv fr.price k) (fun k => N - k) 0 ⟨by omega, ⟨by simp⟩⟩ ?_ ?_
  · simp -implicitDefEqProofs only [zN, List.getElem?_cons_zero, ↓reduceIte, Nat.reduceEqDiff, reduceCtorEq, zX, leE, leH, leB, leV, leVs, keepP, liveP, wfE, wfB, wfV, wfL, Bool.and_self, and_self, lg0, leVs, leV, Int.natCast_zero]
  rintro k ⟨hk, hv⟩
  simp -implicitDefEqProofs only [qE, qF, qI, qJ, qK, qL, qM, qN, qO, qP, qQ, qR, qS, qV, qX, qY, qZ, zH, zJ, zK, zN, ofConst, List.length_nil, List.length_cons, zO, List.getD_eq_getElem?_getD, List.getElem?_cons_zero, ↓reduceIte, Nat.reduceEqDiff, Option.getD_some, zP, zR, Bool.not_false, ↓zS, ↓zT, zU, List.nil_append, List.append_nil, Nat.zero_add, Nat.reduceAdd, Nat.add_zero, zW, resP, tupV, List.reverse_cons, List.reverse_nil, zX, leE, leH, leB, leV, leVs, keepP, liveP, wfE, wfB, wfV, wfL, Bool.and_true, Bool.and_self, true_and, and_true, and_self, V.v.injEq, Value.int.injEq, Value.bool.injEq, List.length_map, Bool.false_eq_true, lg0, lg1, lg2, jq, ↓jr, ↓ju, ↓jv, ↓jx, ↓jA, ↓jG, ↓jJ, ↓qaL, ↓qaT, ↓qaV, List.length_map, List.getElem_map, encI_0, Int.toNat_natCast]
  simp only [br, decide_eq_true_eq, decide_eq_false_iff_not]
  refine ⟨fun h2 => ?_, fun h2 => ?_⟩
  · have hk1 : k < fr.price.length := by omega
    have bad : ¬ (0 ≤ fr.price[k] ∧ fr.price[k] ≤ 1073741824) → false = prB N arcs f fr.flow fr.price := fun h => prB_f fun hO => h (hO.hb k hk1)
    have good : (0 ≤ fr.price[k] ∧ fr.price[k] ≤ 1073741824) → BInv fr.price (k + 1) := by
      refine fun hx => ⟨fun j h3 h5 => ?_⟩
      by_cases h6 : j = k
      · subst h6; exact hx
      · exact hv.h j h3 (by omega)
    simp only [lo, hi, maxLen] at *
    repeat' (first | (refine ⟨(k+1 : _), ?_⟩) | (refine ⟨by omega, ?_⟩) | (refine And.intro ?_ ?_) | (refine (fun _ => ?_)))
    all_goals first | omega | (apply bad; omega) | (apply good; omega)
  have hb : ∀ j (h : j < fr.price.length), 0 ≤ fr.price[j] ∧ fr.price[j] ≤ 1073741824 := fun j hj => hv.h j hj (by omega)
  refine loopP_intro (fun k : Nat => ⟨[(8, .i k), (5, .ptr 1 0 0), (3, .ptr 0 0 0), (1, .i f)], [.var [.i N, .ro 4 (arcs.map Arc.enc)], .var [.i fr.sent, .i fr.cost, .ro 1 (fr.flow.map encI), .ro 1 (fr.price.map encI), .ro 1 (fr.cut.map encI)]], 0⟩) (fun k => k ≤ arcs.length ∧ RInv arcs fr.flow fr.price k) (fun k => arcs.length - k) 0 ⟨by omega, ⟨by simp⟩⟩ ?_ ?_
  · simp -implicitDefEqProofs only [zN, List.getElem?_cons_zero, ↓reduceIte, Nat.reduceEqDiff, zX, leE, leH, leB, leV, leVs, keepP, liveP, wfE, wfB, wfV, wfL, Bool.and_self, and_self, lg0, leVs, leV, Int.natCast_zero]
  rintro k ⟨hk, hv⟩
  simp -implicitDefEqProofs only [qE, qF, qH, qI, qJ, qK, qM, qN, qO, qP, qQ, qR, qS, qU, qV, qW, qX, qY, qZ, zb, zH, zI, zJ, zK, zN, ofConst, cells?, List.length_nil, List.length_cons, List.set_cons_zero, splice, zO, List.getD_eq_getElem?_getD, List.getElem?_cons_zero, ↓reduceIte, Nat.reduceEqDiff, Option.getD_some, zP, zR, Bool.not_true, Bool.not_false, ↓zS, ↓zT, zU, zV, List.nil_append, List.cons_append, List.append_nil, Nat.zero_add, Nat.reduceAdd, Nat.add_zero, freshP, zW, resP, tupV, List.reverse_cons, List.reverse_nil, zX, leE, leH, leB, leV, leVs, keepP, liveP, wfE, wfB, wfV, wfL, List.map_cons, List.map_nil, List.drop_zero, List.take_zero, List.drop_nil, Bool.and_true, Bool.and_self, true_and, and_true, and_self, V.v.injEq, Value.int.injEq, Value.bool.injEq, List.not_mem_nil, List.length_map, not_false_eq_true, Bool.false_eq_true, Nat.le_refl, lg0, zY, zZ, kc, lg1, kg, kh, lg2, kn, kw, jq, ↓jr, ↓ju, ↓jv, ↓jx, ↓jA, ↓jB, ↓jC, ↓jD, ↓jG, ↓jJ, ↓jO, ↓qaL, ↓qaN, ↓qaT, ↓qaV, List.length_map, List.getElem_map, enc_len, enc_take, enc_0, enc_1, enc_2, enc_3, enc_isC, encI_0, Int.toNat_natCast]
  simp only [br, decide_eq_true_eq, decide_eq_false_iff_not]
  refine fun hm2 => ⟨fun h2 => ?_, fun h2 => ?_⟩
  · have hk1 : k < arcs.length := by omega
    have hk2 : k < fr.flow.length := by omega
    have hva := hV.ha arcs[k] (List.getElem_mem hk1)
    have b1 := hb arcs[k].from_.toNat (by omega)
    have b2 := hb arcs[k].to.toNat (by omega)
    have bad : ¬ (_ ∧ _) → false = prB N arcs f fr.flow fr.price := fun h => prB_f fun hO => h (hO.ha k hk1)
    have good := hv.next hk1
    rw [getD_at (by omega), getD_at (by omega), getD_nat hk2] at bad good
    simp only [lo, hi, maxLen] at *
    repeat' (first | (refine ⟨(k+1 : _), ?_⟩) | (refine ⟨by omega, ?_⟩) | (refine And.intro ?_ ?_) | (refine (fun _ => ?_)))
    all_goals first | omega | (apply bad; omega) | (apply good; omega)
  · refine prB_t ⟨hpl, ?_, hb, fun j hj => hv.h j hj (by omega)⟩
    rw [getD_at (by omega)]; exact h0
end Go.Fx.C
namespace Go.Fx.C
open Go Go.Fx Go.Proofs
set_option maxRecDepth 20000
structure OkS (n : Int) (cut : List Int) (k : Nat) : Prop where
  h : ∀ j (h : j < cut.length), j < k → (0 ≤ cut[j] ∧ cut[j] < n) ∧ (0 < j → cut.getD (j - 1) 0 < cut[j])
theorem OkS.next {n : Int} {cut : List Int} {k : Nat} (hv : OkS n cut k) (hk : k < cut.length) (h : (0 ≤ cut[k] ∧ cut[k] < n) ∧ (0 < k → cut.getD (k - 1) 0 < cut[k])) : OkS n cut (k + 1) := by
  refine ⟨fun j hj h2 => ?_⟩
  by_cases h6 : j = k
  · subst h6; exact h
  · exact hv.h j hj (by omega)
structure OkA (arcs : List Arc) (flow : List Int) (cut : List Int) (k : Nat) : Prop where
  h : ∀ j (h : j < arcs.length), j < k → (hasB cut arcs[j].from_ = true → hasB cut arcs[j].to = false → flow.getD j 0 = arcs[j].cap) ∧ (hasB cut arcs[j].to = true → hasB cut arcs[j].from_ = false → flow.getD j 0 = 0)
theorem OkA.next {arcs : List Arc} {flow cut : List Int} {k : Nat} (hv : OkA arcs flow cut k) (hk : k < arcs.length) (h : (hasB cut arcs[k].from_ = true → hasB cut arcs[k].to = false → flow.getD k 0 = arcs[k].cap) ∧ (hasB cut arcs[k].to = true → hasB cut arcs[k].from_ = false → flow.getD k 0 = 0)) : OkA arcs flow cut (k + 1) := by
  refine ⟨fun j hj h2 => ?_⟩
  by_cases h6 : j = k
  · subst h6; exact h
  · exact hv.h j hj (by omega)
structure OkC (n : Int) (arcs : List Arc) (f t : Int) (flow cut : List Int) : Prop where
  hs : OkS n cut cut.length
  hf : hasB cut f = true
  ht : hasB cut t = false
  ha : OkA arcs flow cut arcs.length
open Classical in
noncomputable def cuB (n : Int) (arcs : List Arc) (f t : Int) (flow cut : List Int) : Bool := decide (OkC n arcs f t flow cut)
theorem cuB_t {n : Int} {arcs : List Arc} {f t : Int} {flow cut : List Int} (h : OkC n arcs f t flow cut) : true = cuB n arcs f t flow cut := by simp [cuB, h]
theorem cuB_f {n : Int} {arcs : List Arc} {f t : Int} {flow cut : List Int} (h : ¬ OkC n arcs f t flow cut) : false = cuB n arcs f t flow cut := by simp [cuB, h]
def frB (fr : Fr) : Blk := .var [.i fr.sent, .i fr.cost, .ro 1 (fr.flow.map encI), .ro 1 (fr.price.map encI), .ro 1 (fr.cut.map encI)]
theorem ok34 (N : Nat) (arcs : List Arc) (f t : Int) (fr : Fr) (hV : Val N arcs) (hl : fr.flow.length = arcs.length) : Ok 34 [net N arcs, .i f, .i t, fr.enc] (Is (.b (cuB N arcs f t fr.flow fr.cut))) := by
  refine ok_of lw34 (by simp) ?_
  unfold c34 net Fr.enc li
  simp -implicitDefEqProofs only [qF, qI, qK, qL, qO, qP, qR, qT, zH, zJ, zK, zN, ofConst, cells?, List.length_nil, List.length_cons, List.set_cons_zero, List.getElem?_cons_zero, ↓reduceIte, Nat.reduceEqDiff, List.nil_append, List.append_nil, Nat.zero_add, Nat.reduceAdd, Nat.add_zero, reduceCtorEq, freshP, true_and, lg0, zY, kc, kj, jq, ↓jr, cxN, args0]
  have hL := hV.hl
  have hN := hV.hn
  refine loopP_intro (fun k : Nat => ⟨[(9, .i k), (7, .ptr 1 0 0), (4, .ptr 0 0 0), (2, .i t), (1, .i f)], [.var [.i N, .ro 4 (arcs.map Arc.enc)], frB fr], 0⟩) (fun k => k ≤ fr.cut.length ∧ OkS N fr.cut k) (fun k => fr.cut.length - k) 0 ⟨by omega, ⟨by simp⟩⟩ ?_ ?_
  · simp -implicitDefEqProofs only [zN, List.getElem?_cons_zero, ↓reduceIte, Nat.reduceEqDiff, reduceCtorEq, zX, leE, leH, leB, leV, leVs, keepP, liveP, wfE, wfB, wfV, wfL, Bool.and_self, and_self, lg0, leVs, leV, Int.natCast_zero, frB]
  rintro k ⟨hk, hv⟩
  simp -implicitDefEqProofs only [qa, qc, qd, qw, rdK, qx, qz, qA, qC, qE, qF, qI, qJ, qK, qM, qO, qP, qR, qV, qX, qY, qZ, zb, zD, zH, zJ, zN, List.length_nil, List.length_cons, zO, List.getD_eq_getElem?_getD, List.getElem?_cons_zero, ↓reduceIte, Nat.reduceEqDiff, Option.getD_some, zP, zR, List.append_nil, Nat.zero_add, Nat.reduceAdd, List.map_cons, List.map_nil, List.drop_zero, List.take_nil, Bool.and_true, true_and, and_true, List.length_map, Bool.false_eq_true, Nat.le_refl, lg0, ka, lg1, ki, lg2, lg3, jq, ↓jr, ↓ju, ↓jv, ↓jx, ↓jA, ↓jB, ↓jG, ↓jJ, ↓jO, ↓qaT, List.length_map, List.getElem_map, encI_0, Int.toNat_natCast, frB]
  simp only [br, decide_eq_true_eq, decide_eq_false_iff_not]
  refine fun hm1 => ⟨fun h2 => ?_, fun h2 => ?_⟩
  · have hk1 : k < fr.cut.length := by omega
    have good := hv.next hk1
    have bad : ¬ ((0 ≤ fr.cut[k] ∧ fr.cut[k] < N) ∧ (0 < k → fr.cut.getD (k - 1) 0 < fr.cut[k])) → false = cuB N arcs f t fr.flow fr.cut := fun h => cuB_f fun hO => h (hO.hs.h k hk1 hk1)
    refine ⟨⟨by omega, h2⟩, by omega, ?_⟩
    refine call_is (ok24 N arcs fr.cut[k]) (by simp [net, lendsOk, lendOk, lends, lend, wkL, wk, wkR]) rfl trivial ?_
    cases hn : nodeB N fr.cut[k] with
    | false =>
      simp -implicitDefEqProofs only [qa, qb, qc, qd, qe, qi, qw, rdK, qy, qA, qB, qF, qI, qJ, qN, qO, qP, qR, qS, zd, zH, zJ, zK, zN, ofConst, List.length_nil, List.length_cons, ↓reduceIte, Nat.reduceEqDiff, zQ, zR, Bool.not_false, ↓zS, zU, zV, List.nil_append, List.append_nil, Nat.zero_add, Nat.reduceAdd, zW, resP, tupV, List.reverse_cons, List.reverse_nil, wfV, true_and, V.v.injEq, Value.int.injEq, Value.bool.injEq, Bool.false_eq_true, jq]
      simp only [nodeB, decide_eq_false_iff_not] at hn
      exact bad fun h => hn h.1
    | true =>
      simp -implicitDefEqProofs only [qa, qb, qc, qd, qe, qi, qw, rdK, qy, qA, qB, qE, qF, qI, qJ, qN, qO, qP, qR, qS, qV, qX, qY, qZ, zd, zH, zJ, zK, zN, ofConst, List.length_nil, List.length_cons, zO, List.getD_eq_getElem?_getD, List.getElem?_cons_zero, ↓reduceIte, Nat.reduceEqDiff, Option.getD_some, zP, zQ, zR, Bool.not_true, ↓zS, ↓zT, zU, List.nil_append, List.append_nil, Nat.zero_add, Nat.reduceAdd, zW, resP, tupV, List.reverse_cons, List.reverse_nil, zX, leE, leH, leB, leV, leVs, keepP, liveP, wfE, wfB, wfV, wfL, Bool.and_true, Bool.and_self, true_and, and_true, and_self, V.v.injEq, Value.int.injEq, Value.bool.injEq, List.length_map, Bool.false_eq_true, lg0, lg1, lg2, lg3, jq, ↓jr, ↓ju, ↓jv, ↓jx, ↓jA, ↓jG, ↓jJ, ↓qaL, ↓qaN, ↓qaU, ↓qaV, List.length_map, List.getElem_map, encI_0, Int.toNat_natCast]
      simp only [nodeB, decide_eq_true_eq] at hn
      have hp : 0 < k → fr.cut.getD (k - 1) 0 = fr.cut[((k : Int) - 1).toNat]'(by omega) := by
        intro h0
        have e1 : ((k : Int) - 1).toNat = k - 1 := by omega
        simp only [e1]
        exact getD_nat (by omega)
      simp only [br, decide_eq_true_eq, decide_eq_false_iff_not, lo, hi, maxLen] at *
      repeat' (first | (refine ⟨(k+1 : _), ?_⟩) | (refine ⟨by omega, ?_⟩) | (refine And.intro ?_ ?_) | (refine (fun _ => ?_)))
      all_goals first | omega | (apply bad; rintro ⟨_, h4⟩; have h4 := h4 (by omega); rw [hp (by omega)] at h4; omega) | (apply good; refine ⟨hn, fun h0 => ?_⟩; rw [hp h0]; omega) | (apply good; refine ⟨hn, fun h0 => ?_⟩; omega)
  have hs : OkS N fr.cut fr.cut.length := ⟨fun j h _ => hv.h j h (by omega)⟩
  refine call_is (ok45 fr.cut f) (by simp [li, lendsOk, lendOk, lends, lend, wkL, wk, wkR]) rfl trivial ?_
  cases hf : hasB fr.cut f with
  | false =>
    simp -implicitDefEqProofs only [qF, qI, qJ, qN, qO, qP, qQ, qR, qS, zd, zH, zJ, zK, zN, ofConst, List.length_nil, List.length_cons, ↓reduceIte, Nat.reduceEqDiff, zQ, zR, Bool.not_false, ↓zS, zU, List.nil_append, List.append_nil, Nat.zero_add, Nat.reduceAdd, zW, resP, tupV, List.reverse_cons, List.reverse_nil, wfV, true_and, V.v.injEq, Value.int.injEq, Value.bool.injEq, Bool.false_eq_true, jq]
    exact cuB_f fun hO => by have := hO.hf; rw [hf] at this; cases this
  | true =>
  simp -implicitDefEqProofs only [qP, qQ, qR, qV, qX, zd, zD, zH, zJ, zN, zO, List.getD_eq_getElem?_getD, List.getElem?_cons_zero, ↓reduceIte, Nat.reduceEqDiff, Option.getD_some, zQ, Bool.not_true, ↓zT, zU, Nat.zero_add, List.map_cons, List.map_nil, Bool.false_eq_true, lg0, lg1, lg2, lg3, ↓jr, ↓ju, ↓jx, ↓jA, ↓jG]
  refine call_is (ok45 fr.cut t) (by simp [li, lendsOk, lendOk, lends, lend, wkL, wk, wkR]) rfl trivial ?_
  cases ht : hasB fr.cut t with
  | true =>
    simp -implicitDefEqProofs only [qF, qI, qJ, qN, qO, qP, qR, qS, zH, zJ, zK, zN, ofConst, List.length_nil, List.length_cons, ↓reduceIte, Nat.reduceEqDiff, zR, ↓zS, ↓zT, List.nil_append, List.append_nil, Nat.zero_add, Nat.reduceAdd, zW, resP, tupV, List.reverse_cons, List.reverse_nil, wfV, true_and, V.v.injEq, Value.int.injEq, Value.bool.injEq, jq]
    exact cuB_f fun hO => by have := hO.ht; rw [ht] at this; cases this
  | false =>
  simp -implicitDefEqProofs only [qE, qF, qI, qJ, qK, qL, qO, qP, qR, qS, zH, zJ, zK, zN, ofConst, List.length_nil, List.length_cons, ↓reduceIte, Nat.reduceEqDiff, zR, ↓zT, List.append_nil, Nat.zero_add, Nat.reduceAdd, jq]
  refine loopP_intro (fun k : Nat => ⟨[(10, .i k), (7, .ptr 1 0 0), (4, .ptr 0 0 0)], [.var [.i N, .ro 4 (arcs.map Arc.enc)], frB fr], 0⟩) (fun k => k ≤ arcs.length ∧ OkA arcs fr.flow fr.cut k) (fun k => arcs.length - k) 0 ⟨by omega, ⟨by simp⟩⟩ ?_ ?_
  · simp -implicitDefEqProofs only [zN, List.getElem?_cons_zero, ↓reduceIte, Nat.reduceEqDiff, zX, leE, leH, leB, leV, leVs, keepP, liveP, wfE, wfB, wfV, wfL, Bool.and_self, and_self, lg0, leVs, leV, Int.natCast_zero, frB]
  rintro k ⟨hk, hv⟩
  simp -implicitDefEqProofs only [qE, qF, qI, qJ, qK, qM, qN, qO, qP, qR, qU, qV, qW, qX, qY, qZ, zb, zD, zH, zI, zJ, zK, zN, ofConst, cells?, List.length_nil, List.length_cons, List.set_cons_zero, splice, zO, List.getD_eq_getElem?_getD, List.getElem?_cons_zero, ↓reduceIte, Nat.reduceEqDiff, Option.getD_some, zP, zR, List.nil_append, List.cons_append, List.append_nil, Nat.zero_add, Nat.reduceAdd, Nat.add_zero, freshP, zW, resP, tupV, List.reverse_cons, List.reverse_nil, wfV, List.map_cons, List.map_nil, List.drop_zero, List.take_zero, List.drop_nil, Bool.and_true, true_and, and_true, V.v.injEq, Value.int.injEq, Value.bool.injEq, List.not_mem_nil, List.length_map, not_false_eq_true, Nat.le_refl, lg0, zY, zZ, kc, lg1, kg, kh, lg2, kn, lg3, kw, jq, ↓jr, ↓ju, ↓jv, ↓jx, ↓jA, ↓jB, ↓jC, ↓jD, ↓jG, ↓jJ, ↓jO, ↓qaT, List.length_map, List.getElem_map, enc_len, enc_take, enc_0, enc_isC, Int.toNat_natCast, frB]
  simp only [br, decide_eq_true_eq, decide_eq_false_iff_not]
  refine fun hm2 => ⟨fun h2 => ?_, fun h2 => cuB_t ⟨hs, hf, ht, ⟨fun j h _ => hv.h j h (by omega)⟩⟩⟩
  have hk1 : k < arcs.length := by omega
  have hk2 : k < fr.flow.length := by omega
  refine ⟨⟨by omega, h2⟩, by omega, ?_⟩
  have good := hv.next hk1
  have bad : ¬ (_ ∧ _) → false = cuB N arcs f t fr.flow fr.cut := fun h => cuB_f fun hO => h (hO.ha.h k hk1 hk1)
  rw [getD_nat hk2] at good bad
  refine call_is (ok45 fr.cut arcs[k].from_) (by simp [li, lendsOk, lendOk, lends, lend, wkL, wk, wkR]) rfl trivial ?_
  simp -implicitDefEqProofs only [qF, qI, qO, qP, qR, qV, qX, zD, zH, zJ, zN, List.length_nil, List.length_cons, zO, List.getD_eq_getElem?_getD, List.getElem?_cons_zero, ↓reduceIte, Nat.reduceEqDiff, Option.getD_some, List.append_nil, Nat.zero_add, Nat.reduceAdd, List.map_cons, List.map_nil, lg0, lg1, lg2, lg3, jq, ↓jr, ↓ju, ↓jx, ↓jA, ↓jG, enc_1]
  refine call_is (ok45 fr.cut arcs[k].to) (by simp [li, lendsOk, lendOk, lends, lend, wkL, wk, wkR]) rfl trivial ?_
  generalize hasB fr.cut arcs[k].from_ = x at *
  generalize hasB fr.cut arcs[k].to = y at *
  cases x <;> cases y <;> simp -implicitDefEqProofs only [qE, qF, qH, qI, qJ, qN, qO, qP, qQ, qR, qS, qV, qX, qY, qZ, zd, zH, zJ, zK, zN, ofConst, List.length_nil, List.length_cons, zO, List.getD_eq_getElem?_getD, List.getElem?_cons_zero, ↓reduceIte, Nat.reduceEqDiff, Option.getD_some, zP, zQ, zR, Bool.not_true, Bool.not_false, ↓zS, ↓zT, zU, zV, List.nil_append, List.append_nil, Nat.zero_add, Nat.reduceAdd, zW, resP, tupV, List.reverse_cons, List.reverse_nil, zX, leE, leH, leB, leV, leVs, keepP, liveP, wfE, wfB, wfV, wfL, Bool.and_true, Bool.and_self, true_and, and_true, and_self, V.v.injEq, Value.int.injEq, Value.bool.injEq, List.length_map, Bool.false_eq_true, lg0, lg1, jq, ↓jr, ↓ju, ↓jv, ↓jx, ↓jA, ↓jG, ↓jJ, ↓qaL, ↓qaS, List.length_map, List.getElem_map, enc_2, encI_0, Int.toNat_natCast] <;> simp only [br, decide_eq_true_eq, decide_eq_false_iff_not, bne_iff_ne, bne_eq_false_iff_eq, lo, hi, maxLen] at * <;>
    (repeat' (first | (refine ⟨(k+1 : _), ?_⟩) | (refine ⟨by omega, ?_⟩) | (refine And.intro ?_ ?_) | (refine (fun _ => ?_)))) <;> first | omega | (apply bad; simp; omega) | (apply good; simp; try omega)
structure OkAc (N : Nat) (arcs : List Arc) (f t am : Int) (fr : Fr) : Prop where
  fl : OkF N arcs f t fr.flow
  hs : 0 ≤ fr.sent ∧ fr.sent ≤ am
  hv : valTo arcs f fr.flow arcs.length = fr.sent
  ht : totTo arcs fr.flow arcs.length = fr.cost
  hp : OkP N arcs f fr.flow fr.price
  hc : if fr.sent = am then fr.cut = [] else OkC N arcs f t fr.flow fr.cut
open Classical in
noncomputable def accI (N : Nat) (arcs : List Arc) (f t am : Int) (fr : Fr) : Int := if OkAc N arcs f t am fr then 0 else 110
theorem accI_t {N : Nat} {arcs : List Arc} {f t am : Int} {fr : Fr} (h : OkAc N arcs f t am fr) : 0 = accI N arcs f t am fr := by simp [accI, h]
theorem accI_f {N : Nat} {arcs : List Arc} {f t am : Int} {fr : Fr} (h : ¬ OkAc N arcs f t am fr) : 110 = accI N arcs f t am fr := by simp [accI, h]
theorem ok16 (N : Nat) (arcs : List Arc) (f t am : Int) (fr : Fr) (hV : Val N arcs) (hf : 0 ≤ f ∧ f < N) : Ok 16 [net N arcs, .i f, .i t, .i am, fr.enc] (Is (.i (accI N arcs f t am fr))) := by
  refine ok_of lw16 (by simp) ?_
  unfold c16 net Fr.enc li
  have hL := hV.hl
  have hN := hV.hn
  have hac := fun a ha => (hV.ha a ha).2.2.2.2
  simp -implicitDefEqProofs only [qF, qI, qO, qP, qR, qT, qV, qX, zD, zH, zJ, zK, zN, ofConst, cells?, List.length_nil, List.length_cons, List.set_cons_zero, zO, List.getD_eq_getElem?_getD, List.getElem?_cons_zero, ↓reduceIte, Nat.reduceEqDiff, Option.getD_some, List.nil_append, List.append_nil, Nat.zero_add, Nat.reduceAdd, Nat.add_zero, reduceCtorEq, freshP, List.map_cons, List.map_nil, List.drop_zero, List.take_nil, true_and, Nat.le_refl, lg0, zY, ka, kc, lg1, ki, kj, jq, ↓jr, ↓ju, ↓jx, ↓jA, ↓jB, ↓jG, cxN, args0]
  refine call_is (ok20 N arcs f t fr.flow hV) (by simp [net, li, lendsOk, lendOk, lends, lend, wkL, wk, wkR]) rfl trivial ?_
  cases hfl : flB N arcs f t fr.flow with
  | false =>
    simp -implicitDefEqProofs only [qa, qb, qc, qe, qi, qw, rdK, qx, qy, qz, qA, qB, qD, qF, qI, qJ, qN, qO, qP, qR, qS, zd, zH, zJ, zK, zN, ofConst, List.length_nil, List.length_cons, ↓reduceIte, Nat.reduceEqDiff, zQ, zR, Bool.not_false, ↓zS, zU, List.nil_append, List.append_nil, Nat.zero_add, Nat.reduceAdd, zW, resP, tupV, List.reverse_cons, List.reverse_nil, wfV, Bool.and_true, true_and, and_true, V.v.injEq, Value.int.injEq, Value.bool.injEq, Bool.false_eq_true, jq]
    exact accI_f fun hO => by have := flB_t hO.fl; rw [hfl] at this; cases this
  | true =>
  have hfl : OkF N arcs f t fr.flow := by
    apply Classical.byContradiction
    intro h
    have := flB_f h; rw [hfl] at this; cases this
  have hl := hfl.hl
  have hfb := hV.flow hl hfl.hp
  simp -implicitDefEqProofs only [qa, qb, qc, qe, qi, qw, rdK, qx, qy, qz, qA, qB, qD, qF, qI, qJ, qN, qO, qP, qR, qS, qV, qX, qZ, zd, zD, zH, zJ, zK, zN, ofConst, List.length_nil, List.length_cons, zO, List.getD_eq_getElem?_getD, List.getElem?_cons_zero, ↓reduceIte, Nat.reduceEqDiff, Option.getD_some, zP, zQ, zR, Bool.not_true, Bool.not_false, ↓zS, ↓zT, zU, List.nil_append, List.append_nil, Nat.zero_add, Nat.reduceAdd, Nat.add_zero, reduceCtorEq, zW, resP, tupV, List.reverse_cons, List.reverse_nil, wfV, List.map_cons, List.map_nil, List.drop_zero, List.take_nil, Bool.and_true, true_and, and_true, V.v.injEq, Value.int.injEq, Value.bool.injEq, Bool.false_eq_true, Nat.le_refl, lg0, ka, lg1, ki, jq, ↓jr, ↓ju, ↓jx, ↓jA, ↓jB, ↓jG, ↓qaT, ↓qaV]
  simp only [br, decide_eq_true_eq, decide_eq_false_iff_not]
  refine ⟨fun h => accI_f fun hO => by have := hO.hs; omega, fun h0 => ⟨fun h => accI_f fun hO => by have := hO.hs; omega, fun h1 => ?_⟩⟩
  refine call_is (ok21 N f arcs fr.flow hl (by omega) hfb) (by simp [net, li, lendsOk, lendOk, lends, lend, wkL, wk, wkR]) rfl trivial ?_
  simp -implicitDefEqProofs only [qa, qb, qc, qe, qi, qw, rdK, qy, qz, qA, qB, qD, qF, qI, qJ, qN, qO, qP, qR, qS, qV, qX, qZ, zD, zH, zJ, zK, zN, ofConst, List.length_nil, List.length_cons, zO, List.getD_eq_getElem?_getD, List.getElem?_cons_zero, ↓reduceIte, Nat.reduceEqDiff, Option.getD_some, zP, zR, Bool.not_false, ↓zS, ↓zT, zU, List.nil_append, List.append_nil, Nat.zero_add, Nat.reduceAdd, zW, resP, tupV, List.reverse_cons, List.reverse_nil, wfV, List.map_cons, List.map_nil, List.drop_zero, List.take_nil, Bool.and_true, true_and, and_true, V.v.injEq, Value.int.injEq, Value.bool.injEq, Bool.false_eq_true, Nat.le_refl, lg0, ka, lg1, ki, jq, ↓jr, ↓ju, ↓jx, ↓jA, ↓jB, ↓jG, ↓qaS]
  simp only [br, bne_iff_ne, bne_eq_false_iff_eq]
  refine ⟨fun h => accI_f fun hO => h hO.hv, fun h2 => ?_⟩
  refine call_is (ok22 N arcs fr.flow hl hL hfb hac) (by simp [net, li, lendsOk, lendOk, lends, lend, wkL, wk, wkR]) rfl trivial ?_
  simp -implicitDefEqProofs only [qa, qb, qe, qi, qw, rdK, qy, qz, qA, qB, qD, qF, qI, qJ, qN, qO, qP, qR, qS, qV, qZ, zD, zH, zJ, zK, zN, ofConst, List.length_nil, List.length_cons, zO, List.getD_eq_getElem?_getD, List.getElem?_cons_zero, ↓reduceIte, Nat.reduceEqDiff, Option.getD_some, zP, zR, Bool.not_false, ↓zS, ↓zT, zU, List.nil_append, List.append_nil, Nat.zero_add, Nat.reduceAdd, reduceCtorEq, zW, resP, tupV, List.reverse_cons, List.reverse_nil, wfV, List.map_cons, List.map_nil, List.drop_zero, List.take_nil, Bool.and_true, true_and, and_true, V.v.injEq, Value.int.injEq, Value.bool.injEq, Bool.false_eq_true, Nat.le_refl, lg0, ka, ki, ko, kx, kB, jq, ↓ju, ↓jx, ↓jB, ↓qaS]
  simp only [br, bne_iff_ne, bne_eq_false_iff_eq]
  refine ⟨fun h => accI_f fun hO => h hO.ht, fun h3 => ?_⟩
  refine call_is (ok33 N arcs f fr hV hf hl) (by simp [Fr.enc, net, li, lendsOk, lendOk, lends, lend, wkL, wk, wkR]) rfl trivial ?_
  cases hp : prB N arcs f fr.flow fr.price with
  | false =>
    simp -implicitDefEqProofs only [qb, qi, qy, qA, qB, qF, qI, qJ, qN, qO, qP, qR, qS, zd, zH, zJ, zK, zN, ofConst, List.length_nil, List.length_cons, ↓reduceIte, Nat.reduceEqDiff, zQ, zR, Bool.not_false, ↓zS, ↓zT, zU, List.nil_append, List.append_nil, Nat.zero_add, Nat.reduceAdd, zW, resP, tupV, List.reverse_cons, List.reverse_nil, wfV, true_and, V.v.injEq, Value.int.injEq, Value.bool.injEq, Bool.false_eq_true, jq]
    exact accI_f fun hO => by have := prB_t hO.hp; rw [hp] at this; cases this
  | true =>
  have hp : OkP N arcs f fr.flow fr.price := by
    apply Classical.byContradiction
    intro h
    have := prB_f h; rw [hp] at this; cases this
  simp -implicitDefEqProofs only [qb, qi, qy, qA, qB, qE, qF, qI, qJ, qN, qO, qP, qR, qS, qV, qX, qZ, zb, zd, zD, zH, zJ, zK, zN, ofConst, List.length_nil, List.length_cons, zO, List.getD_eq_getElem?_getD, List.getElem?_cons_zero, ↓reduceIte, Nat.reduceEqDiff, Option.getD_some, zP, zQ, zR, Bool.not_true, ↓zT, zU, List.nil_append, List.append_nil, Nat.zero_add, Nat.reduceAdd, Nat.add_zero, reduceCtorEq, zW, resP, tupV, List.reverse_cons, List.reverse_nil, wfV, List.map_cons, List.map_nil, List.drop_zero, List.take_nil, true_and, V.v.injEq, Value.int.injEq, Value.bool.injEq, List.length_map, Bool.false_eq_true, Nat.le_refl, lg0, ka, lg1, ki, lg2, ko, lg3, kx, kB, jq, ↓jr, ↓ju, ↓jx, ↓jA, ↓jB, ↓jG, ↓jO, ↓qaR, ↓qaV, List.length_map]
  simp only [br, beq_iff_eq, beq_eq_false_iff_ne, decide_eq_true_eq, decide_eq_false_iff_not]
  refine ⟨fun h4 => ?_, fun h4 => ?_⟩
  · refine fun _ => ⟨fun h5 => accI_f fun hO => ?_, fun h5 => accI_t ⟨hfl, by omega, h2, h3, hp, ?_⟩⟩
    · have := hO.hc
      rw [if_pos h4] at this
      rw [this] at h5
      simp at h5
    · rw [if_pos h4]
      exact List.length_eq_zero_iff.1 (by omega)
  · refine call_is (ok34 N arcs f t fr hV hl) (by simp [Fr.enc, net, li, lendsOk, lendOk, lends, lend, wkL, wk, wkR]) rfl trivial ?_
    cases hc : cuB N arcs f t fr.flow fr.cut with
    | false =>
      simp -implicitDefEqProofs only [qF, qI, qJ, qN, qO, qP, qR, zd, zH, zJ, zK, zN, ofConst, List.length_nil, List.length_cons, ↓reduceIte, zQ, zR, Bool.not_false, ↓zS, List.nil_append, List.append_nil, Nat.zero_add, Nat.reduceAdd, zW, resP, tupV, List.reverse_cons, List.reverse_nil, wfV, true_and, V.v.injEq, Value.int.injEq, Value.bool.injEq, jq]
      exact accI_f fun hO => by have h6 := hO.hc; rw [if_neg h4] at h6; have := cuB_t h6; rw [hc] at this; cases this
    | true =>
    have hc : OkC N arcs f t fr.flow fr.cut := by
      apply Classical.byContradiction
      intro h
      have := cuB_f h; rw [hc] at this; cases this
    simp -implicitDefEqProofs only [qE, qF, qI, qJ, qN, qO, qP, qR, zd, zH, zJ, zK, zN, ofConst, List.length_nil, List.length_cons, ↓reduceIte, zQ, zR, Bool.not_true, ↓zT, List.nil_append, List.append_nil, Nat.zero_add, Nat.reduceAdd, zW, resP, tupV, List.reverse_cons, List.reverse_nil, wfV, true_and, V.v.injEq, Value.int.injEq, Value.bool.injEq, jq]
    exact accI_t ⟨hfl, by omega, h2, h3, hp, by rw [if_neg h4]; exact hc⟩
end Go.Fx.C
namespace Go.Fx.C
open Go Go.Fx Go.Proofs
set_option maxRecDepth 20000
def rowF (N : Nat) (f : Int → Int) : List (List V) := (List.range N).map fun j : Nat => encI (f j)
theorem rowF_len {N : Nat} {f : Int → Int} : (rowF N f).length = N := by simp [rowF]
theorem rowF_get {N : Nat} {f : Int → Int} {i : Nat} (h : i < (rowF N f).length) : (rowF N f)[i] = encI (f i) := by simp [rowF]
theorem rowF_set {N : Nat} {f : Int → Int} {i : Nat} {x : Int} : (rowF N f).set i [.v (.int .i64 x)] = rowF N (fun j => if j = i then x else f j) := by
  apply List.ext_getElem
  · simp [rowF]
  · intro j h1 h2
    simp only [List.getElem_set, rowF_get]
    by_cases h : i = j
    · subst h; simp [encI]
    · have : ¬ (j : Int) = i := by omega
      simp [h, this]
theorem rowF_congr {N : Nat} {f g : Int → Int} (h : ∀ i : Nat, i < N → f i = g i) : rowF N f = rowF N g := by
  simp only [rowF, List.map_inj_left, List.mem_range]
  intro i hi
  rw [h i hi]
theorem rowF_rep {N : Nat} {x : Int} : List.replicate N [V.v (.int .i64 x)] = rowF N (fun _ => x) := by
  apply List.ext_getElem
  · simp [rowF]
  · intro i h1 h2
    simp [rowF, encI]
def rowB (N : Nat) (f : Int → Bool) : List (List V) := (List.range N).map fun j : Nat => encB (f j)
theorem rowB_len {N : Nat} {f : Int → Bool} : (rowB N f).length = N := by simp [rowB]
theorem rowB_get {N : Nat} {f : Int → Bool} {i : Nat} (h : i < (rowB N f).length) : (rowB N f)[i] = encB (f i) := by simp [rowB]
theorem rowB_set {N : Nat} {f : Int → Bool} {i : Nat} {x : Bool} : (rowB N f).set i [.v (.bool x)] = rowB N (fun j => if j = i then x else f j) := by
  apply List.ext_getElem
  · simp [rowB]
  · intro j h1 h2
    simp only [List.getElem_set, rowB_get]
    by_cases h : i = j
    · subst h; simp [encB]
    · have : ¬ (j : Int) = i := by omega
      simp [h, this]
theorem rowB_congr {N : Nat} {f g : Int → Bool} (h : ∀ i : Nat, i < N → f i = g i) : rowB N f = rowB N g := by
  simp only [rowB, List.map_inj_left, List.mem_range]
  intro i hi
  rw [h i hi]
theorem rowB_rep {N : Nat} {x : Bool} : List.replicate N [V.v (.bool x)] = rowB N (fun _ => x) := by
  apply List.ext_getElem
  · simp [rowB]
  · intro i h1 h2
    simp [rowB, encB]
theorem valTo_bound2 (arcs : List Arc) (node : Int) (flow : List Int) : ∀ k : Nat, (∀ j, j < k → 0 ≤ flow.getD j 0 ∧ flow.getD j 0 ≤ 1073741824) → -((k : Int) * 1073741824) ≤ valTo arcs node flow k ∧ valTo arcs node flow k ≤ (k : Int) * 1073741824
  | 0, _ => by simp [valTo]
  | k + 1, hf => by
    have h1 := valTo_bound2 arcs node flow k fun j hj => hf j (by omega)
    have h2 := hf k (by omega)
    simp only [valTo]
    split <;> split <;> omega
theorem totTo_bound2 (arcs : List Arc) (flow : List Int) (ha : ∀ a ∈ arcs, 0 ≤ a.cost ∧ a.cost ≤ 1048576) : ∀ k : Nat, (∀ j, j < k → 0 ≤ flow.getD j 0 ∧ flow.getD j 0 ≤ 1073741824) → 0 ≤ totTo arcs flow k ∧ totTo arcs flow k ≤ (k : Int) * 1125899906842624
  | 0, _ => by simp [totTo]
  | k + 1, hf => by
    have h1 := totTo_bound2 arcs flow ha k fun j hj => hf j (by omega)
    have h2 := hf k (by omega)
    have h3 : 0 ≤ (arcs.getD k ⟨0,0,0,0⟩).cost ∧ (arcs.getD k ⟨0,0,0,0⟩).cost ≤ 1048576 := by
      rw [List.getD_eq_getElem?_getD]
      cases h : arcs[k]? with
      | none => simp
      | some x => exact ha x (List.mem_of_getElem? h)
    have := mul_b h2 h3
    simp only [totTo]
    omega
open Classical in
noncomputable def flwB (n : Int) (arcs : List Arc) (f t : Int) (fr : Fr) : Bool := decide (OkF n arcs f t fr.flow ∧ valTo arcs f fr.flow arcs.length = fr.sent ∧ totTo arcs fr.flow arcs.length = fr.cost)
theorem flwB_t {n : Int} {arcs : List Arc} {f t : Int} {fr : Fr} (h : OkF n arcs f t fr.flow ∧ valTo arcs f fr.flow arcs.length = fr.sent ∧ totTo arcs fr.flow arcs.length = fr.cost) : flwB n arcs f t fr = true := by simp [flwB, h]
theorem flwB_f {n : Int} {arcs : List Arc} {f t : Int} {fr : Fr} (h : ¬ (OkF n arcs f t fr.flow ∧ valTo arcs f fr.flow arcs.length = fr.sent ∧ totTo arcs fr.flow arcs.length = fr.cost)) : flwB n arcs f t fr = false := by simp only [flwB, h, decide_false]
structure ZInw (arcs : List Arc) (f t s : Int) (flow : List Int) (k : Nat) : Prop where
  h : ∀ j : Nat, j < k → ((j : Int) ≠ f → (j : Int) ≠ t → valTo arcs j flow arcs.length = 0) ∧ ((j : Int) = f → valTo arcs j flow arcs.length = s)
theorem ok35 (N : Nat) (arcs : List Arc) (f t : Int) (fr : Fr) (hV : Val N arcs) (hf : 0 ≤ f ∧ f < N) : Ok 35 [net N arcs, .i f, .i t, fr.enc] (Is (.b (flwB N arcs f t fr))) := by
  refine ok_of lw35 (by simp) ?_
  unfold c35 net Fr.enc li
  have hL := hV.hl
  have hN := hV.hn
  have hac := fun a ha => (hV.ha a ha).2.2.2.2
  simp -implicitDefEqProofs only [qE, qF, qI, qJ, qK, qL, qN, qO, qP, qR, qT, qV, qX, qZ, zb, zq, zH, zJ, zK, zN, ofConst, cells?, List.length_nil, List.length_cons, List.set_cons_zero, zO, List.getD_eq_getElem?_getD, List.getElem?_cons_zero, ↓reduceIte, Nat.reduceEqDiff, Option.getD_some, zP, zR, List.nil_append, List.cons_append, List.append_nil, Nat.zero_add, Nat.reduceAdd, Nat.add_zero, reduceCtorEq, freshP, zW, resP, tupV, List.reverse_cons, List.reverse_nil, wfV, List.map_cons, List.map_nil, true_and, V.v.injEq, Value.int.injEq, Value.bool.injEq, List.length_map, lg0, zY, kc, lg1, kg, kj, jq, ↓jr, ↓ju, ↓jx, ↓jA, ↓jG, ↓jO, ↓qaS, List.length_map, Int.toNat_natCast, cxN, args0]
  simp only [br, decide_eq_true_eq, decide_eq_false_iff_not, bne_iff_ne, bne_eq_false_iff_eq]
  refine fun hm1 hm2 => ⟨fun h => (flwB_f fun hO => ?_).symm, fun h => ⟨by omega, fun _ => ?_⟩⟩
  · have := hO.1.hl; omega
  have hl : fr.flow.length = arcs.length := by omega
  refine loopP_intro (fun k : Nat => ⟨[(29, .i k), (28, .i arcs.length), (27, .ro 4 (arcs.map Arc.enc)), (10, .i (totTo arcs fr.flow k)), (9, .sl 2 0 N), (7, .ptr 1 0 0), (4, .ptr 0 0 0), (2, .i t), (1, .i f)], [.var [.i N, .ro 4 (arcs.map Arc.enc)], frB fr, .arr 1 (rowF N (fun j => valTo arcs j fr.flow k))], 0⟩) (fun k => k ≤ arcs.length ∧ PInv arcs fr.flow k) (fun k => arcs.length - k) 0 ⟨by omega, ⟨by simp⟩⟩ ?_ ?_
  · have h0 : rowF N (fun j => valTo arcs j fr.flow 0) = List.replicate N [V.i 0] := by rw [rowF_rep]; rfl
    simp -implicitDefEqProofs only [zN, List.getElem?_cons_zero, ↓reduceIte, Nat.reduceEqDiff, reduceCtorEq, zX, leE, leH, leB, leV, leVs, keepP, liveP, wfE, wfB, wfV, wfL, Bool.and_self, and_self, lg0, lg1, leVs, leV, Int.natCast_zero, frB, h0, totTo]
  rintro k ⟨hk, hv⟩
  simp -implicitDefEqProofs only [qE, qF, qI, qJ, qK, qL, qM, qN, qO, qP, qQ, qR, qS, qU, qV, qW, qX, qY, qZ, zb, zH, zI, zJ, zK, zN, ofConst, cells?, List.length_nil, List.length_cons, List.set_cons_zero, splice, zO, List.getD_eq_getElem?_getD, List.getElem?_cons_zero, ↓reduceIte, Nat.reduceEqDiff, Option.getD_some, zP, arrSz, zR, Bool.not_false, ↓zS, ↓zT, zU, List.nil_append, List.cons_append, List.append_nil, Nat.zero_add, Nat.reduceAdd, Nat.add_zero, freshP, zW, resP, tupV, List.reverse_cons, List.reverse_nil, zX, leE, leH, leB, leV, leVs, keepP, liveP, wfE, wfB, wfV, wfL, List.map_cons, List.map_nil, List.drop_zero, List.take_zero, List.drop_nil, List.all_cons, List.all_nil, isD, isC, Bool.and_true, Bool.and_self, true_and, and_true, and_self, V.v.injEq, Value.int.injEq, Value.bool.injEq, List.not_mem_nil, List.length_map, not_false_eq_true, Bool.false_eq_true, Nat.le_refl, lg0, zY, zZ, kc, lg1, kg, kh, lg2, kk, kn, kw, jq, ↓jr, ↓ju, ↓jv, ↓jx, ↓jy, ↓jA, ↓jB, ↓jC, ↓jD, ↓jE, ↓jG, ↓jI, ↓jJ, ↓jN, ↓qaL, ↓qaN, ↓qaP, ↓qaT, ↓qaV, List.length_map, List.getElem_map, enc_len, enc_take, enc_0, enc_1, enc_2, enc_3, enc_isC, encI_0, Int.toNat_natCast, encI_drop, frB, rowF_len, rowF_get, rowF_set]
  simp only [br, decide_eq_true_eq, decide_eq_false_iff_not]
  refine ⟨fun h2 => ?_, fun h2 => ?_⟩
  · have hk1 : k < arcs.length := by omega
    have hk2 : k < fr.flow.length := by omega
    have hva := hV.ha arcs[k] (List.getElem_mem hk1)
    have bad : ¬ (0 ≤ fr.flow[k] ∧ fr.flow[k] ≤ arcs[k].cap) → false = flwB N arcs f t fr := fun h => (flwB_f fun hO => h (hO.1.hp k hk2 hk1)).symm
    have good : (0 ≤ fr.flow[k] ∧ fr.flow[k] ≤ arcs[k].cap) → PInv arcs fr.flow (k + 1) := by
      refine fun hx => ⟨fun j h3 h4 h5 => ?_⟩
      by_cases h6 : j = k
      · subst h6; exact hx
      · exact hv.h j h3 h4 (by omega)
    have hfb : ∀ j, j < k → 0 ≤ fr.flow.getD j 0 ∧ fr.flow.getD j 0 ≤ 1073741824 := by
      intro j hj
      have h1 := hv.h j (by omega) (by omega) hj
      have h3 := hV.ha arcs[j] (List.getElem_mem _)
      rw [getD_nat (by omega)]
      omega
    have hb1 := valTo_bound2 arcs arcs[k].from_ fr.flow k hfb
    have hb2 := valTo_bound2 arcs arcs[k].to fr.flow k hfb
    have hb3 := totTo_bound2 arcs fr.flow hac k hfb
    have e1 : ((arcs[k].from_.toNat : Nat) : Int) = arcs[k].from_ := by omega
    have e2 : ((arcs[k].to.toNat : Nat) : Int) = arcs[k].to := by omega
    have e3 : ¬ arcs[k].to = arcs[k].from_ := by omega
    refine ⟨⟨by omega, h2⟩, by omega, ⟨by omega, by omega⟩, by omega, fun h3 => bad (by omega), fun h3 => ⟨fun h4 => bad (by omega), fun h4 => ?_⟩⟩
    have hfk : 0 ≤ fr.flow[k] ∧ fr.flow[k] ≤ 1073741824 := by omega
    have hmb := mul_b hfk hva.2.2.2.2
    have hst := totTo_step hk1 hk2
    simp only [e1, e2, e3, if_false, lo, hi, rowF_len]
    repeat' (first | (refine ⟨(k+1 : _), ?_⟩) | (refine ⟨by omega, ?_⟩) | (refine And.intro ?_ ?_) | (refine (fun _ => ?_)))
    all_goals first | omega | (apply good; omega) | skip
    congr 1
    apply rowF_congr
    intro i hi
    simp only [valTo_step (node := i) hk1 hk2]
    grind
  have hp : possP arcs fr.flow := fun i h3 h4 => hv.h i h3 h4 (by omega)
  have hk0 : k = arcs.length := by omega
  subst hk0
  refine fun _ => loopP_intro (fun k : Nat => ⟨[(72, .i k), (71, .i N), (70, .sl 2 0 N), (10, .i (totTo arcs fr.flow arcs.length)), (7, .ptr 1 0 0), (2, .i t), (1, .i f)], [.dead, frB fr, .arr 1 (rowF N (fun j => valTo arcs j fr.flow arcs.length))], 0⟩) (fun k => k ≤ N ∧ ZInw arcs f t fr.sent fr.flow k) (fun k => N - k) 0 ⟨by omega, ⟨by simp⟩⟩ ?_ ?_
  · simp -implicitDefEqProofs only [zN, List.getElem?_cons_zero, ↓reduceIte, Nat.reduceEqDiff, zX, leE, leH, leB, leV, leVs, keepP, liveP, wfE, wfB, wfV, wfL, Bool.and_self, and_self, lg0, lg1, leVs, leV, Int.natCast_zero, frB]
  rintro k ⟨hk, hv⟩
  simp -implicitDefEqProofs only [qE, qF, qI, qJ, qK, qM, qN, qO, qP, qQ, qR, qS, qV, qX, qY, qZ, zH, zJ, zK, zN, ofConst, List.length_nil, List.length_cons, zO, List.getD_eq_getElem?_getD, List.getElem?_cons_zero, ↓reduceIte, Nat.reduceEqDiff, Option.getD_some, zP, arrSz, zR, Bool.not_true, Bool.not_false, ↓zS, ↓zT, zU, zV, List.nil_append, List.append_nil, Nat.zero_add, Nat.reduceAdd, Nat.add_zero, zW, resP, tupV, List.reverse_cons, List.reverse_nil, zX, leE, leH, leB, leV, leVs, keepP, liveP, wfE, wfB, wfV, wfL, Bool.and_true, Bool.and_self, true_and, and_true, and_self, V.v.injEq, Value.int.injEq, Value.bool.injEq, Bool.false_eq_true, lg0, lg1, jq, ↓jr, ↓ju, ↓jx, ↓jy, ↓jA, ↓jG, ↓jI, ↓qaL, ↓qaR, ↓qaS, ↓qaT, encI_0, Int.toNat_natCast, frB, rowF_len, rowF_get]
  simp only [br, decide_eq_true_eq, decide_eq_false_iff_not, bne_iff_ne, bne_eq_false_iff_eq, beq_iff_eq, beq_eq_false_iff_ne]
  refine ⟨fun h3 => ?_, fun h3 => ?_⟩
  · have h4 : k < N := by omega
    have bad1 : (k : Int) = f → valTo arcs k fr.flow arcs.length ≠ fr.sent → false = flwB N arcs f t fr := fun h h5 => (flwB_f fun hO => h5 (by rw [h]; exact hO.2.1)).symm
    have bad2 : (k : Int) ≠ f → (k : Int) ≠ t → valTo arcs k fr.flow arcs.length ≠ 0 → false = flwB N arcs f t fr := fun h h5 h6 => (flwB_f fun hO => h6 (hO.1.hz k (by omega) (by omega) h h5)).symm
    have good : ((k : Int) ≠ f → (k : Int) ≠ t → valTo arcs k fr.flow arcs.length = 0) ∧ ((k : Int) = f → valTo arcs k fr.flow arcs.length = fr.sent) → ZInw arcs f t fr.sent fr.flow (k + 1) := by
      refine fun h5 => ⟨fun j hj => ?_⟩
      by_cases h6 : j = k
      · subst h6; exact h5
      · exact hv.h j (by omega)
    simp only [lo, hi, maxLen, rowF_len] at *
    repeat' (first | (refine ⟨(k+1 : _), ?_⟩) | (refine ⟨by omega, ?_⟩) | (refine And.intro ?_ ?_) | (refine (fun _ => ?_)))
    all_goals first | omega | exact bad1 ‹_› ‹_› | exact bad2 ‹_› ‹_› ‹_› | (exact good ⟨fun _ _ => by first | assumption | omega, fun _ => by first | assumption | omega⟩)
  · have hOF : OkF N arcs f t fr.flow := ⟨hl, hp, fun j h1 h2 h4 h6 => by
      have := (hv.h j.toNat (by omega)).1
      rw [Int.toNat_of_nonneg h1] at this
      exact this h4 h6⟩
    have hval : valTo arcs f fr.flow arcs.length = fr.sent := by
      have := (hv.h f.toNat (by omega)).2
      rw [Int.toNat_of_nonneg hf.1] at this
      exact this rfl
    by_cases hc : totTo arcs fr.flow arcs.length = fr.cost <;> simp [flwB, hOF, hval, hc]
end Go.Fx.C
namespace Go.Fx.C
open Go Go.Fx Go.Proofs
def sm (g : Nat → Int) : Nat → Int
  | 0 => 0
  | n + 1 => sm g n + g n
theorem sm_zero : ∀ n, sm (fun _ => 0) n = 0
  | 0 => rfl
  | n + 1 => by simp [sm, sm_zero n]
theorem sm_congr {g h : Nat → Int} : ∀ n, (∀ v, v < n → g v = h v) → sm g n = sm h n
  | 0, _ => rfl
  | n + 1, hh => by simp only [sm]; rw [sm_congr n fun v hv => hh v (by omega), hh n (by omega)]
theorem sm_add (g h : Nat → Int) : ∀ n, sm (fun v => g v + h v) n = sm g n + sm h n
  | 0 => rfl
  | n + 1 => by simp only [sm, sm_add g h n]; omega
theorem sm_sub (g h : Nat → Int) : ∀ n, sm (fun v => g v - h v) n = sm g n - sm h n
  | 0 => rfl
  | n + 1 => by simp only [sm, sm_sub g h n]; omega
theorem sm_le {g h : Nat → Int} : ∀ n, (∀ v, v < n → g v ≤ h v) → sm g n ≤ sm h n
  | 0, _ => Int.le_refl _
  | n + 1, hh => by
    have := sm_le n fun v hv => hh v (by omega)
    have := hh n (by omega)
    simp only [sm]; omega
theorem sm_one (a : Nat) (c : Int) : ∀ n, sm (fun v => if v = a then c else 0) n = if a < n then c else 0
  | 0 => by simp [sm]
  | n + 1 => by
    simp only [sm, sm_one a c n]
    by_cases h : a = n
    · subst h; simp
    · have h2 : ¬ n = a := fun e => h e.symm
      rw [if_neg h2]
      by_cases h3 : a < n
      · rw [if_pos h3, if_pos (by omega)]; omega
      · rw [if_neg h3, if_neg (by omega)]; omega
theorem sm_two {g : Nat → Int} {a b : Nat} (hab : a ≠ b) {n : Nat} (ha : a < n) (hb : b < n) (h : ∀ v, v < n → v ≠ a → v ≠ b → g v = 0) : sm g n = g a + g b := by
  have : sm g n = sm (fun v => (if v = a then g a else 0) + (if v = b then g b else 0)) n := by
    refine sm_congr n fun v hv => ?_
    by_cases h1 : v = a
    · subst h1
      rw [if_pos rfl, if_neg hab]; omega
    · rw [if_neg h1]
      by_cases h2 : v = b
      · subst h2; rw [if_pos rfl]; omega
      · rw [if_neg h2, h v hv h1 h2]; rfl
  rw [this, sm_add, sm_one, sm_one, if_pos ha, if_pos hb]
abbrev gA (arcs : List Arc) (k : Nat) : Arc := arcs.getD k ⟨0,0,0,0⟩
theorem gA_at {arcs : List Arc} {k : Nat} (h : k < arcs.length) : gA arcs k = arcs[k] := by
  unfold gA
  rw [List.getD_eq_getElem?_getD, List.getElem?_eq_getElem h]; rfl
theorem Val.at {N : Nat} {arcs : List Arc} (hV : Val N arcs) {k : Nat} (hk : k < arcs.length) : (0 ≤ (gA arcs k).from_ ∧ (gA arcs k).from_ < N) ∧ (0 ≤ (gA arcs k).to ∧ (gA arcs k).to < N) ∧ (gA arcs k).from_ ≠ (gA arcs k).to ∧ (0 ≤ (gA arcs k).cap ∧ (gA arcs k).cap ≤ 1073741824) ∧ 0 ≤ (gA arcs k).cost ∧ (gA arcs k).cost ≤ 1048576 := by
  rw [gA_at hk]
  exact hV.ha arcs[k] (List.getElem_mem hk)
theorem pot {N : Nat} {arcs : List Arc} (hV : Val N arcs) (fl : List Int) (p : Nat → Int) : ∀ k, k ≤ arcs.length →
    sm (fun v => p v * valTo arcs v fl k) N = sm (fun j => fl.getD j 0 * (p (gA arcs j).from_.toNat - p (gA arcs j).to.toNat)) k
  | 0, _ => by
    simp only [valTo, Int.mul_zero]
    rw [sm_zero]; rfl
  | k + 1, hk => by
    have ih := pot hV fl p k (by omega)
    have hv := hV.at (show k < arcs.length by omega)
    have e : sm (fun v => p v * valTo arcs v fl (k + 1)) N = sm (fun v => (p v * valTo arcs v fl k + (if v = (gA arcs k).from_.toNat then p (gA arcs k).from_.toNat * fl.getD k 0 else 0)) - (if v = (gA arcs k).to.toNat then p (gA arcs k).to.toNat * fl.getD k 0 else 0)) N := by
      refine sm_congr N fun v _ => ?_
      have hs : valTo arcs v fl (k + 1) = valTo arcs v fl k + (if (gA arcs k).from_ = v then fl.getD k 0 else 0) - (if (gA arcs k).to = v then fl.getD k 0 else 0) := rfl
      rw [hs, Int.mul_sub, Int.mul_add]
      have e1 : p v * (if (gA arcs k).from_ = (v : Int) then fl.getD k 0 else 0) = if v = (gA arcs k).from_.toNat then p (gA arcs k).from_.toNat * fl.getD k 0 else 0 := by
        by_cases h : (gA arcs k).from_ = v
        · have : v = (gA arcs k).from_.toNat := by omega
          rw [if_pos h, if_pos this, ← this]
        · have : ¬ v = (gA arcs k).from_.toNat := by omega
          rw [if_neg h, if_neg this, Int.mul_zero]
      have e2 : p v * (if (gA arcs k).to = (v : Int) then fl.getD k 0 else 0) = if v = (gA arcs k).to.toNat then p (gA arcs k).to.toNat * fl.getD k 0 else 0 := by
        by_cases h : (gA arcs k).to = v
        · have : v = (gA arcs k).to.toNat := by omega
          rw [if_pos h, if_pos this, ← this]
        · have : ¬ v = (gA arcs k).to.toNat := by omega
          rw [if_neg h, if_neg this, Int.mul_zero]
      rw [e1, e2]
    rw [e, sm_sub, sm_add, sm_one, sm_one, if_pos (by omega), if_pos (by omega), ih]
    simp only [sm]
    rw [Int.mul_sub, Int.mul_comm (p _), Int.mul_comm (p _)]
    omega
theorem pot_flow {N : Nat} {arcs : List Arc} (hV : Val N arcs) {f t : Int} (hf : 0 ≤ f ∧ f < N) (ht : 0 ≤ t ∧ t < N) (hft : f ≠ t) (fl : List Int) (h0 : ∀ j : Int, 0 ≤ j → j < N → j ≠ f → j ≠ t → valTo arcs j fl arcs.length = 0) (p : Nat → Int) :
    sm (fun j => fl.getD j 0 * (p (gA arcs j).from_.toNat - p (gA arcs j).to.toNat)) arcs.length = (p f.toNat - p t.toNat) * valTo arcs f fl arcs.length := by
  have two : ∀ p : Nat → Int, sm (fun j => fl.getD j 0 * (p (gA arcs j).from_.toNat - p (gA arcs j).to.toNat)) arcs.length = p f.toNat * valTo arcs f fl arcs.length + p t.toNat * valTo arcs t fl arcs.length := by
    intro p
    rw [← pot hV fl p _ (Nat.le_refl _), sm_two (a := f.toNat) (b := t.toNat) (by omega) (by omega) (by omega)]
    · rw [Int.toNat_of_nonneg hf.1, Int.toNat_of_nonneg ht.1]
    · intro v hv h1 h2
      rw [h0 v (by omega) (by omega) (by omega) (by omega), Int.mul_zero]
  have h1 := two fun _ => 1
  simp only [Int.sub_self, Int.mul_zero, Int.one_mul] at h1
  rw [sm_zero] at h1
  rw [two p, Int.sub_mul]
  have : valTo arcs t fl arcs.length = - valTo arcs f fl arcs.length := by omega
  rw [this, Int.mul_neg]
  omega
theorem totTo_sm (arcs : List Arc) (fl : List Int) : ∀ k, totTo arcs fl k = sm (fun j => fl.getD j 0 * (gA arcs j).cost) k
  | 0 => rfl
  | k + 1 => by simp only [totTo, sm, totTo_sm arcs fl k]
theorem mul_sign {a r : Int} (h1 : r < 0 → a ≤ 0) (h2 : 0 < r → 0 ≤ a) : 0 ≤ a * r := by
  rcases Int.lt_trichotomy r 0 with h | h | h
  · have := Int.mul_nonneg (show 0 ≤ -a by have := h1 h; omega) (show 0 ≤ -r by omega)
    rwa [Int.neg_mul_neg] at this
  · subst h; simp
  · exact Int.mul_nonneg (h2 h) (by omega)
end Go.Fx.C
namespace Go.Fx.C
open Go Go.Fx Go.Proofs
set_option maxRecDepth 20000
def encN (i : Nat) : List V := [.i i]
def outs (arcs : List Arc) (v : Nat) (k : Nat) : List Nat := (List.range k).filter fun i => decide ((gA arcs i).from_ = v ∨ (gA arcs i).to = v)
def outR (arcs : List Arc) (N : Nat) : List (List V) := (List.range N).map fun (v : Nat) => [.ro 1 ((outs arcs v arcs.length).map encN)]
theorem outR_len {arcs : List Arc} {N : Nat} : (outR arcs N).length = N := by simp [outR]
theorem outR_get {arcs : List Arc} {N v : Nat} (h : v < (outR arcs N).length) : (outR arcs N)[v] = [.ro 1 ((outs arcs v arcs.length).map encN)] := by simp [outR]
theorem wfL_all {h : List Blk} : ∀ {xs : List V}, (∀ x ∈ xs, wfV h x) → wfL h xs
  | [], _ => trivial
  | x :: r, hx => ⟨hx x List.mem_cons_self, wfL_all fun y hy => hx y (List.mem_cons_of_mem _ hy)⟩
theorem outR_wf {arcs : List Arc} {N : Nat} {h : List Blk} : wfL h (outR arcs N).flatten := by
  refine wfL_all fun x hx => ?_
  rw [List.mem_flatten] at hx
  obtain ⟨l, h1, h2⟩ := hx
  unfold outR at h1
  rw [List.mem_map] at h1
  obtain ⟨v, _, rfl⟩ := h1
  rw [List.mem_singleton] at h2
  subst h2
  trivial
theorem outR_wfT {arcs : List Arc} {N : Nat} {h : List Blk} : wfL h (outR arcs N).flatten = True := eq_true outR_wf
theorem outR_kill {arcs : List Arc} {N : Nat} {M : List Nat} : (outR arcs N).map (kills M) = outR arcs N := by
  unfold outR
  rw [List.map_map]
  rfl
theorem outR_ren {arcs : List Arc} {N : Nat} {g : Nat → Option Nat} : (outR arcs N).map (rens g) = outR arcs N := by
  unfold outR
  rw [List.map_map]
  rfl
theorem outR_gv {arcs : List Arc} {N : Nat} {M : Nat → Bool} {h : List Blk} : (outR arcs N).map (gvL M h) = outR arcs N := by
  unfold outR
  rw [List.map_map]
  rfl
theorem outR_mv {arcs : List Arc} {N i j : Nat} : (outR arcs N).map (mvL i j) = outR arcs N := by
  unfold outR
  rw [List.map_map]
  rfl
def wB (N M : Nat) (arcs : List Arc) (b c d : Nat) : Blk := .var [.i N, .ro 4 (arcs.map Arc.enc), .sl b 0 M, .sl c 0 N, .sl d 0 N]
def wH (N : Nat) (arcs : List Arc) (x p : List Int) : List Blk := [wB N x.length arcs 1 2 3, .arr 1 (x.map encI), .arv 1 (outR arcs N), .arr 1 (p.map encI)]
structure WOk (N : Nat) (arcs : List Arc) (x p : List Int) : Prop where
  hV : Val N arcs
  hN : N ≤ 64
  hx : x.length = arcs.length
  hp : p.length = N
  hb : ∀ j, 0 ≤ p.getD j 0 ∧ p.getD j 0 ≤ 1073741824
theorem ok41 (N : Nat) (arcs : List Arc) (x p : List Int) (v : Int) : OkN Try.prog 41 [.ptr 0 0 0, .i v] (wH N arcs x p) [] (IsA (.clo 50 [.ptr 4 0 0, .ptr 5 0 0]) (wH N arcs x p ++ [.var [.ptr 0 0 0], .var [.i v]])) := by
  refine okN_of pol [0, 1, 2, 3] lw41 (by simp) ⟨trivial, trivial, trivial, trivial, trivial⟩ (by simp [wH]; omega) ?_
  unfold c41 wH wB
  simp -implicitDefEqProofs only [qF, qI, qN, qO, qP, qR, qT, zh, zH, zJ, zK, zN, ofConst, cells?, List.length_nil, List.length_cons, List.set_cons_zero, List.getElem?_cons_zero, ↓reduceIte, Nat.reduceEqDiff, List.nil_append, List.cons_append, List.append_nil, Nat.zero_add, Nat.reduceAdd, Nat.add_zero, reduceCtorEq, freshP, resP, tupV, List.reverse_cons, List.reverse_nil, leH, leB, leV, leVs, keepP, liveP, wfB, wfV, wfL, List.map_cons, List.map_nil, Bool.and_true, Bool.and_self, true_and, and_true, and_self, Nat.reduceLeDiff, lg0, zY, kc, lg1, kg, kj, lg2, kk, lg3, kr, lg4, kz, jq, ↓jr, cxN, args0, retP_isA, outR_wfT]
theorem ok42 (N : Nat) (arcs : List Arc) (x p : List Int) (v to cost : Int) (a b c : V) (hW : WOk N arcs x p) (hv : 0 ≤ v ∧ v < N) (ht : 0 ≤ to ∧ to < N) (hc : -1048576 ≤ cost ∧ cost ≤ 1048576) :
    OkN Try.prog 42 [.ptr 0 0 0, .i v, .agg [a, .i to, b, .i cost, c]] (wH N arcs x p) [] (IsA (.i (cost + p.getD v.toNat 0 - p.getD to.toNat 0)) (wH N arcs x p)) := by
  refine okN_of pol [0, 1, 2, 3] lw42 (by simp) ⟨trivial, trivial, trivial, trivial, trivial⟩ (by simp [wH]; omega) ?_
  have h1 := hW.hb v.toNat
  have h2 := hW.hb to.toNat
  have hp := hW.hp
  have hN := hW.hN
  rw [getD_at (by omega)] at h1 h2 ⊢
  rw [getD_at (l := p) (i := to) (by omega)]
  unfold c42 wH wB
  simp -implicitDefEqProofs only [qF, qH, qI, qN, qO, qP, qR, qT, qV, qX, qY, qZ, zF, zH, zJ, zK, zN, ofConst, cells?, List.length_nil, List.length_cons, List.set_cons_zero, zO, List.getD_eq_getElem?_getD, List.getElem?_cons_zero, ↓reduceIte, Nat.reduceEqDiff, Option.getD_some, zP, arrSz, List.nil_append, List.cons_append, List.append_nil, Nat.zero_add, Nat.reduceAdd, Nat.add_zero, reduceCtorEq, freshP, resP, tupV, List.reverse_cons, List.reverse_nil, leH, leB, leV, leVs, keepP, liveP, wfB, wfV, wfL, Bool.and_true, Bool.and_self, true_and, and_true, and_self, V.v.injEq, Value.int.injEq, Value.bool.injEq, List.length_map, Nat.le_refl, lg0, zY, kc, lg1, kg, lg2, kk, lg3, kr, jq, ↓jr, ↓ju, ↓jx, ↓jy, ↓jA, ↓jG, ↓jI, ↓jU, ↓qaL, ↓qaN, List.length_map, List.getElem_map, encI_0, cxN, args0, retP_isA, outR_wfT]
  simp only [lo, hi]
  repeat' (first | (refine ⟨(0 : _), ?_⟩) | (refine ⟨by omega, ?_⟩) | (refine And.intro ?_ ?_) | (refine (fun _ => ?_)))
  all_goals omega
end Go.Fx.C
namespace Go.Fx.C
open Go Go.Fx Go.Proofs
set_option maxRecDepth 20000
def hpB (n : Nat) (ks vs : List Int) : List Blk := [.var [.sl 1 0 n, .sl 2 0 n], .arr 1 (ks.map encI), .arr 1 (vs.map encI)]
def EntH (n : Nat) (ks vs : List Int) (k v : Int) : Prop := ∃ j, j < n ∧ ks.getD j 0 = k ∧ vs.getD j 0 = v
def sw (l : List Int) (i k : Nat) : List Int := (l.set i (l.getD k 0)).set k (l.getD i 0)
theorem sw_len {l : List Int} {i k : Nat} : (sw l i k).length = l.length := by simp [sw]
theorem getD_set0 {l : List Int} {i j : Nat} {x : Int} (h : i < l.length) : (l.set i x).getD j 0 = if j = i then x else l.getD j 0 := by
  rw [List.getD_eq_getElem?_getD, List.getElem?_set]
  by_cases e : i = j
  · subst e; simp [h]
  · rw [if_neg e, if_neg (Ne.symm e), List.getD_eq_getElem?_getD]
theorem sw_get {l : List Int} {i k j : Nat} (hi : i < l.length) (hk : k < l.length) : (sw l i k).getD j 0 = if j = k then l.getD i 0 else if j = i then l.getD k 0 else l.getD j 0 := by
  unfold sw
  rw [getD_set0 (by simpa using hk), getD_set0 hi]
theorem ent_sw {n : Nat} {ks vs : List Int} {i k : Nat} (hi : i < n) (hk : k < n) (h1 : n ≤ ks.length) (h2 : n ≤ vs.length) (a b : Int) : EntH n (sw ks i k) (sw vs i k) a b ↔ EntH n ks vs a b := by
  have key : ∀ {ks vs : List Int}, n ≤ ks.length → n ≤ vs.length → EntH n (sw ks i k) (sw vs i k) a b → EntH n ks vs a b := by
    rintro ks vs h1 h2 ⟨j, hj, q1, q2⟩
    rw [sw_get (by omega) (by omega)] at q1 q2
    by_cases e1 : j = k
    · rw [if_pos e1] at q1 q2; exact ⟨i, hi, q1, q2⟩
    · rw [if_neg e1] at q1 q2
      by_cases e2 : j = i
      · rw [if_pos e2] at q1 q2; exact ⟨k, hk, q1, q2⟩
      · rw [if_neg e2] at q1 q2; exact ⟨j, hj, q1, q2⟩
  refine ⟨key h1 h2, fun h => ?_⟩
  have e : ∀ {l : List Int}, n ≤ l.length → sw (sw l i k) i k = l := by
    intro l hl
    apply List.ext_getElem
    · simp [sw_len]
    · intro j hj1 hj2
      have g := sw_get (l := sw l i k) (i := i) (k := k) (j := j) (by rw [sw_len]; omega) (by rw [sw_len]; omega)
      rw [getD_nat hj1] at g
      rw [g]
      simp only [sw_get (l := l) (show i < l.length by omega) (show k < l.length by omega)]
      have : l.getD j 0 = l[j] := getD_nat hj2
      grind
  exact key (by rw [sw_len]; exact h1) (by rw [sw_len]; exact h2) (by rw [e h1, e h2]; exact h)
theorem encI_set {l : List Int} {i : Nat} {x : Int} : (l.map encI).set i [.v (.int .i64 x)] = (l.set i x).map encI := by
  rw [List.map_set]; rfl
theorem ok49 (n : Nat) (ks vs : List Int) (i k : Nat) (hi : i < n) (hk : k < n) (h1 : n ≤ ks.length) (h2 : n ≤ vs.length) : OkN Try.prog 49 [.ptr 0 0 0, .i i, .i k] (hpB n ks vs) [] (IsA (.tup []) (hpB n (sw ks i k) (sw vs i k))) := by
  refine okN_of pol [0, 1, 2] lw49 (by simp) ⟨trivial, trivial, trivial, trivial⟩ (by simp [hpB]; omega) ?_
  unfold sw
  rw [getD_nat (show i < ks.length by omega), getD_nat (show i < vs.length by omega), getD_nat (show k < ks.length by omega), getD_nat (show k < vs.length by omega)]
  unfold c49 hpB
  simp -implicitDefEqProofs only [qa, qc, qd, qu, qw, rdK, qx, qy, qz, qA, qC, qI, qR, qV, qW, qX, qY, zF, zH, zI, zJ, zN, cells?, List.length_nil, List.length_cons, List.set_cons_zero, splice, zO, List.getD_eq_getElem?_getD, List.getElem?_cons_zero, ↓reduceIte, Nat.reduceEqDiff, Option.getD_some, zP, arrSz, List.nil_append, List.cons_append, List.append_nil, Nat.zero_add, Nat.reduceAdd, Nat.add_zero, reduceCtorEq, resP, tupV, List.reverse_nil, leH, leB, leV, leVs, keepP, liveP, wfB, wfV, wfL, List.take_zero, List.all_cons, List.all_nil, isD, isC, Bool.and_true, Bool.and_self, true_and, and_true, and_self, List.not_mem_nil, List.length_map, not_false_eq_true, Bool.false_eq_true, Nat.le_refl, lg0, zY, lg1, kg, jq, ↓jr, ↓ju, ↓jx, ↓jy, ↓jA, ↓jC, ↓jE, ↓jG, ↓jI, ↓jU, List.length_map, List.getElem_map, encI_0, Int.toNat_natCast, encI_drop, cxN, args0, retP_isA, encI_set, List.length_set]
  repeat' (first | (refine ⟨(0 : _), ?_⟩) | (refine ⟨by omega, ?_⟩) | (refine And.intro ?_ ?_) | (refine (fun _ => ?_)))
  all_goals first | omega | rfl | simp
end Go.Fx.C
namespace Go.Fx.C
open Go Go.Fx Go.Proofs
set_option maxRecDepth 20000
structure PushQ (n : Nat) (ks vs : List Int) (key val : Int) (g : List Int × List Int) : Prop where
  h1 : g.1.length = n + 1
  h2 : g.2.length = n + 1
  he : ∀ a b, EntH (n + 1) g.1 g.2 a b ↔ (EntH n ks vs a b ∨ (a = key ∧ b = val))
theorem ent_snoc {n : Nat} {ks vs : List Int} (h1 : n ≤ ks.length) (h2 : n ≤ vs.length) (key val a b : Int) : EntH (n + 1) (ks.take n ++ [key]) (vs.take n ++ [val]) a b ↔ (EntH n ks vs a b ∨ (a = key ∧ b = val)) := by
  have hg : ∀ {l : List Int} {x : Int} {j : Nat}, n ≤ l.length → (l.take n ++ [x]).getD j 0 = if j < n then l.getD j 0 else if j = n then x else 0 := by
    intro l x j hl
    rw [List.getD_eq_getElem?_getD]
    by_cases e : j < n
    · rw [if_pos e, List.getElem?_append_left (by rw [List.length_take]; omega), List.getElem?_take_of_lt e, List.getD_eq_getElem?_getD]
    · rw [if_neg e, List.getElem?_append_right (by rw [List.length_take]; omega), List.length_take, Nat.min_eq_left hl]
      by_cases e2 : j = n
      · subst e2; simp
      · rw [if_neg e2, List.getElem?_eq_none (by simp; omega)]; rfl
  constructor
  · rintro ⟨j, hj, q1, q2⟩
    rw [hg h1] at q1
    rw [hg h2] at q2
    by_cases e : j < n
    · rw [if_pos e] at q1 q2; exact .inl ⟨j, e, q1, q2⟩
    · rw [if_neg e, if_pos (by omega)] at q1 q2; exact .inr ⟨q1.symm, q2.symm⟩
  · rintro (⟨j, hj, q1, q2⟩ | ⟨rfl, rfl⟩)
    · exact ⟨j, by omega, by rw [hg h1, if_pos hj]; exact q1, by rw [hg h2, if_pos hj]; exact q2⟩
    · exact ⟨n, by omega, by rw [hg h1, if_neg (by omega), if_pos rfl], by rw [hg h2, if_neg (by omega), if_pos rfl]⟩
theorem tdiv2 {i : Nat} (h : 0 < i) : ((i : Int) - 1).tdiv 2 = (((i - 1) / 2 : Nat) : Int) := by
  rw [Int.tdiv_eq_ediv_of_nonneg (by omega)]
  omega
abbrev pat39 (n : Nat) (g : Nat × List Int × List Int) : St := ⟨[(6, .i g.1), (0, .ptr 0 0 0)], hpB (n + 1) g.2.1 g.2.2, 0⟩
theorem body39 (n : Nat) (ks vs : List Int) (key val : Int) (hn : n ≤ 8796093022208) {RR : St → Prop} {X : Nat → St → Prop} (hX : ∀ g, PushQ n ks vs key val g → ∀ e b, X 0 ⟨e, hpB (n + 1) g.1 g.2, b⟩)
    (g : Nat × List Int × List Int) (hg : g.1 ≤ n ∧ PushQ n ks vs key val g.2) :
    aw (cxN Try.prog [0]) c39l0 (fun s' => ∃ g' : Nat × List Int × List Int, ((g'.1 ≤ n ∧ PushQ n ks vs key val g'.2) ∧ g'.1 < g.1) ∧ leS [0] s' (pat39 n g')) X RR (pat39 n g) := by
  obtain ⟨i, a, c⟩ := g
  obtain ⟨hi0, q1, q2, q3⟩ := hg
  simp only at hi0 q1 q2 q3
  have hex : ∀ e b, X 0 ⟨e, hpB (n + 1) a c, b⟩ := fun e b => hX (a, c) ⟨q1, q2, q3⟩ e b
  unfold c39l0 pat39 hpB
  unfold hpB at hex
  simp -implicitDefEqProofs only [qE, qF, qH, qI, qJ, qK, qM, qO, qP, qQ, qR, qS, qV, qX, qY, qZ, zD, zF, zH, zJ, zK, zN, ofConst, List.length_nil, List.length_cons, zO, List.getD_eq_getElem?_getD, List.getElem?_cons_zero, ↓reduceIte, Nat.reduceEqDiff, Option.getD_some, zP, arrSz, zR, Bool.not_true, ↓zS, ↓zT, zU, List.append_nil, Nat.zero_add, Nat.reduceAdd, Nat.add_zero, reduceCtorEq, List.map_cons, List.map_nil, true_and, List.length_map, lg0, jq, ↓jr, ↓ju, ↓jx, ↓jy, ↓jA, ↓jG, ↓jI, ↓jU, ↓qaN, ↓qaT, ↓qaV, ↓qaX, List.length_map, List.getElem_map, encI_0, Int.toNat_natCast, cxN]
  simp only [br, decide_eq_true_eq, decide_eq_false_iff_not]
  refine ⟨fun h0 => ?_, fun h0 => hex _ _⟩
  rw [tdiv2 (by omega)]
  have hi2 : (i - 1) / 2 < i := by omega
  refine ⟨⟨by omega, by omega⟩, by omega, by simp only [lo, hi, maxLen] at *; omega, by omega, by simp only [lo, hi, maxLen] at *; omega, ⟨by omega, by omega⟩, by simp; omega, fun hlt => ?_, fun _ => hex _ _⟩
  refine ⟨by simp only [lo, hi, maxLen] at *; omega, by omega, by simp only [lo, hi, maxLen] at *; omega, ?_⟩
  refine call_isN [0, 1, 2] [.ptr 0 0 0, .i i, .i ((i - 1) / 2 : Nat)] (.tup []) (.tup []) (hpB (n + 1) a c) (hpB (n + 1) (sw a i ((i - 1) / 2)) (sw c i ((i - 1) / 2))) (hpB (n + 1) (sw a i ((i - 1) / 2)) (sw c i ((i - 1) / 2)))
    (ok49 (n + 1) a c i ((i - 1) / 2) (by omega) (by omega) (by omega) (by omega)) (by simp) rfl (by simp [lendsOk, lendOk, lends, lend, wkL, wk, pos]) (by simp [hpB]) rfl rfl ⟨trivial, trivial⟩ ?_
  unfold hpB
  simp -implicitDefEqProofs only [qF, qO, qP, qR, qZ, zH, zJ, zK, zN, ofConst, List.length_nil, List.length_cons, List.getElem?_cons_zero, ↓reduceIte, Nat.reduceEqDiff, zP, List.append_nil, Nat.zero_add, Nat.reduceAdd, reduceCtorEq, zX, leE, leH, leB, leV, leVs, keepP, liveP, wfE, wfB, wfV, wfL, Bool.and_true, Bool.and_self, true_and, and_true, and_self, V.v.injEq, Value.int.injEq, Value.bool.injEq, lg0, lg1, jq, ↓qaN, ↓qaX, Int.toNat_natCast]
  rw [tdiv2 (by omega)]
  refine ⟨by simp only [lo, hi, maxLen] at *; omega, by omega, by simp only [lo, hi, maxLen] at *; omega, ((i - 1) / 2, sw a i ((i - 1) / 2), sw c i ((i - 1) / 2)), ⟨⟨by show (i - 1) / 2 ≤ n; omega, ⟨?_, ?_, fun x y => ?_⟩⟩, hi2⟩, ?_⟩
  · show (sw a i ((i - 1) / 2)).length = n + 1
    rw [sw_len]; exact q1
  · show (sw c i ((i - 1) / 2)).length = n + 1
    rw [sw_len]; exact q2
  · exact (ent_sw (by omega) (by omega) (by omega) (by omega) x y).trans (q3 x y)
  · exact ⟨rfl, rfl, rfl⟩
theorem core39 (n : Nat) (ks vs : List Int) (key val : Int) (h1 : n ≤ ks.length) (h2 : n ≤ vs.length) (hn : n ≤ 8796093022208) {RR : St → Prop} (hR : ∀ g, PushQ n ks vs key val g → ∀ e b, RR ⟨e, hpB (n + 1) g.1 g.2, b⟩) :
    aw (cxN Try.prog [0]) c39 RR (fun _ _ => False) RR ⟨args0 0 [.ptr 0 0 0, .i key, .i val], hpB n ks vs, 0⟩ := by
  unfold c39 hpB
  have t1 : List.take n (ks.map encI) ++ [[V.i key]] = (ks.take n ++ [key]).map encI := by rw [List.map_append, List.map_take]; rfl
  have t2 : List.take n (vs.map encI) ++ [[V.i val]] = (vs.take n ++ [val]).map encI := by rw [List.map_append, List.map_take]; rfl
  have l1 : (ks.take n ++ [key]).length = n + 1 := by simp; omega
  have l2 : (vs.take n ++ [val]).length = n + 1 := by simp; omega
  simp -implicitDefEqProofs only [qa, qc, qu, qw, rdK, qx, qy, qz, qA, qC, qF, qI, qK, qL, qO, qP, qR, qV, qW, qX, qZ, zb, zp, zr, zF, zH, zI, zJ, zK, zN, ofConst, cells?, List.length_nil, List.length_cons, List.set_cons_zero, splice, zO, List.getD_eq_getElem?_getD, List.getElem?_cons_zero, ↓reduceIte, Nat.reduceEqDiff, Option.getD_some, zP, List.nil_append, List.cons_append, List.append_nil, Nat.zero_add, Nat.reduceAdd, Nat.add_zero, reduceCtorEq, freshP, litsP, killE, killB, kill, kills, St.kill, List.map_cons, List.map_nil, List.drop_zero, List.take_zero, List.take_nil, List.drop_nil, List.all_cons, List.all_nil, isD, isC, Bool.and_true, Bool.and_self, true_and, and_true, and_self, List.mem_cons, List.not_mem_nil, or_false, false_or, List.length_append, List.length_map, not_false_eq_true, Bool.false_eq_true, Nat.reduceLT, Nat.reduceLeDiff, Nat.le_refl, lg0, zY, zZ, ka, kc, lg1, kg, kh, kj, lg2, kk, kq, lg3, kr, ky, lg4, kz, jq, ↓jr, ↓ju, ↓jx, ↓jA, ↓jC, ↓jD, ↓jG, ↓jN, ↓jU, ↓jY, ↓jZ, ↓qap, ↓qaq, ↓qaN, List.length_map, cxN, args0, t1, t2]
  have he := ent_snoc h1 h2 key val
  generalize ks.take n ++ [key] = ks' at *
  generalize vs.take n ++ [val] = vs' at *
  repeat' (first | omega | refine And.intro ?_ ?_ | refine fun hm => ?_)
  all_goals first | (simp only [lo, hi, maxLen] at *; omega) | skip
  all_goals
    refine loopP_intro (pat39 n) (fun g => g.1 ≤ n ∧ PushQ n ks vs key val g.2) (fun g => g.1) (n, ks', vs') ⟨Nat.le_refl _, l1, l2, he⟩ ?_ (body39 n ks vs key val hn (fun g hg e b => hR g hg e b))
    unfold pat39 hpB
    simp -implicitDefEqProofs only [zN, List.getElem?_cons_zero, ↓reduceIte, reduceCtorEq, zX, leE, leH, leB, leV, leVs, keepP, liveP, wfE, wfB, wfV, wfL, Bool.and_true, Bool.and_self, true_and, and_true, and_self, V.v.injEq, Value.int.injEq, Value.bool.injEq, lg0, lg1]
    omega
theorem ok39 (n : Nat) (ks vs : List Int) (key val : Int) (h1 : n ≤ ks.length) (h2 : n ≤ vs.length) (hn : n ≤ 8796093022208) :
    OkN Try.prog 39 [.ptr 0 0 0, .i key, .i val] (hpB n ks vs) [1, 2] (IsQ (PushQ n ks vs key val) (fun _ => .tup []) (fun g => hpB (n + 1) g.1 g.2)) := by
  refine okN_of pol [0] lw39 (by simp) ⟨trivial, trivial⟩ (by simp [hpB]; omega) ?_
  refine core39 n ks vs key val h1 h2 hn fun g hg e b => ?_
  refine retP_isQ g hg ?_
  unfold hpB
  simp -implicitDefEqProofs only [List.length_nil, List.length_cons, List.getElem?_cons_zero, Nat.zero_add, Nat.reduceAdd, resP, tupV, List.reverse_nil, leH, leB, leV, leVs, keepP, liveP, wfB, wfV, wfL, Bool.and_self, and_self, Nat.le_refl, lg0, lg1]
end Go.Fx.C
namespace Go.Fx.C
open Go Go.Fx Go.Proofs
set_option maxRecDepth 20000
theorem ent_last {n : Nat} {ks vs : List Int} (hn : 0 < n) (a b : Int) : EntH n ks vs a b ↔ (EntH (n - 1) ks vs a b ∨ (a = ks.getD (n - 1) 0 ∧ b = vs.getD (n - 1) 0)) := by
  constructor
  · rintro ⟨j, hj, q1, q2⟩
    by_cases e : j = n - 1
    · subst e; exact .inr ⟨q1.symm, q2.symm⟩
    · exact .inl ⟨j, by omega, q1, q2⟩
  · rintro (⟨j, hj, q1, q2⟩ | ⟨q1, q2⟩)
    · exact ⟨j, by omega, q1, q2⟩
    · exact ⟨n - 1, by omega, q1.symm, q2.symm⟩
structure PopI (n : Nat) (E : Int → Int → Prop) (ks vs : List Int) : Prop where
  h1 : n ≤ ks.length
  h2 : n ≤ vs.length
  he : ∀ a b, EntH n ks vs a b ↔ E a b
structure PopQ (n : Nat) (ks vs : List Int) (g : (Int × Int) × List Int × List Int) : Prop where
  hin : EntH n ks vs g.1.1 g.1.2
  h1 : n - 1 ≤ g.2.1.length
  h2 : n - 1 ≤ g.2.2.length
  he : ∀ a b, EntH n ks vs a b ↔ (EntH (n - 1) g.2.1 g.2.2 a b ∨ (a = g.1.1 ∧ b = g.1.2))
def e40 (key v : Int) (last i least : Nat) : Env := [(8, .i least), (7, .i i), (6, .i last), (5, .i v), (4, .i key), (0, .ptr 0 0 0)]
def h40 (last i : Nat) (ks vs : List Int) : List Blk := hpB last ks vs ++ [.arr 1 [[.i (2 * i + 1)], [.i (2 * i + 2)]]]
abbrev pat40i (key v : Int) (last i : Nat) (ks vs : List Int) (g : Nat × Nat) : St := ⟨(59, .i g.1) :: (58, .i 2) :: (57, .sl 3 0 2) :: e40 key v last i g.2, h40 last i ks vs, 0⟩
theorem body40i (key v : Int) (last i : Nat) (ks vs : List Int) (hl : last ≤ 8796093022208) (hi0 : i ≤ last) (h1 : last ≤ ks.length) (h2 : last ≤ vs.length) {RR : St → Prop} {X : Nat → St → Prop}
    (hX : ∀ least : Nat, (least = i ∨ (i < least ∧ least < last)) → ∀ y z b, X 2 ⟨(60, y) :: (59, z) :: (58, .i 2) :: (57, .sl 3 0 2) :: e40 key v last i least, h40 last i ks vs, b⟩)
    (g : Nat × Nat) (hg : g.1 ≤ 2 ∧ (g.2 = i ∨ (i < g.2 ∧ g.2 < last))) :
    aw (cxN Try.prog [0, 1, 2]) c40l1 (fun s' => ∃ g' : Nat × Nat, ((g'.1 ≤ 2 ∧ (g'.2 = i ∨ (i < g'.2 ∧ g'.2 < last))) ∧ 2 - g'.1 < 2 - g.1) ∧ leS [0, 1, 2] s' (pat40i key v last i ks vs g')) X RR (pat40i key v last i ks vs g) := by
  obtain ⟨j, least⟩ := g
  obtain ⟨hj, hleast⟩ := hg
  simp only at hj hleast
  unfold c40l1 pat40i e40 h40 hpB
  have hex := hX least hleast
  unfold e40 h40 hpB at hex
  have hj3 : j = 0 ∨ j = 1 ∨ j = 2 := by omega
  have t1 : ((2 : Int) * i + 1).toNat = 2 * i + 1 := by omega
  have t2 : ((2 : Int) * i + 2).toNat = 2 * i + 2 := by omega
  rcases hj3 with rfl | rfl | rfl
  · simp -implicitDefEqProofs only [qE, qF, qH, qI, qJ, qK, qM, qO, qP, qQ, qR, qS, qV, qX, qY, qZ, zF, zH, zJ, zK, zN, ofConst, List.length_nil, List.length_cons, zO, List.getD_eq_getElem?_getD, List.getElem?_cons_zero, ↓reduceIte, Nat.reduceEqDiff, Option.getD_some, zP, arrSz, zR, Bool.not_true, ↓zS, ↓zT, zU, List.nil_append, List.cons_append, List.append_nil, Nat.zero_add, Nat.reduceAdd, Nat.add_zero, reduceCtorEq, zX, leE, leH, leB, leV, leVs, keepP, liveP, wfE, wfB, wfV, wfL, Bool.and_true, Bool.and_self, true_and, and_true, and_self, V.v.injEq, Value.int.injEq, Value.bool.injEq, List.length_map, lg0, lg1, lg2, jq, ↓jr, ↓ju, ↓jx, ↓jy, ↓jA, ↓jG, ↓jI, ↓jU, ↓qaL, ↓qaT, List.length_map, List.getElem_map, encI_0, Int.toNat_natCast, cxN, Int.natCast_zero]
    simp only [br, decide_eq_true_eq, decide_eq_false_iff_not, lo, hi, maxLen] at *
    refine ⟨fun _ => ⟨⟨by omega, by omega⟩, by simp, ?_⟩, fun h => absurd h (by decide)⟩
    simp only [Int.toNat_zero, List.getElem_cons_zero, List.getElem?_cons_zero, jr, zP, t1]
    refine ⟨trivial, fun hlt => ⟨⟨by omega, by omega⟩, by omega, ⟨by omega, by omega⟩, by omega, fun _ => ⟨by omega, (1, 2 * i + 1), ⟨⟨by simp, by right; show i < 2 * i + 1 ∧ 2 * i + 1 < last; omega⟩, by simp⟩, by simp, by simp⟩, fun _ => ⟨by omega, (1, least), ⟨⟨by simp, hleast⟩, by simp⟩, by simp, rfl⟩⟩,
      fun hge => ⟨by omega, (1, least), ⟨⟨by simp, hleast⟩, by simp⟩, by simp, rfl⟩⟩
  · simp -implicitDefEqProofs only [qE, qF, qH, qI, qJ, qK, qM, qO, qP, qQ, qR, qS, qV, qX, qY, qZ, zF, zH, zJ, zK, zN, ofConst, List.length_nil, List.length_cons, zO, List.getD_eq_getElem?_getD, List.getElem?_cons_zero, ↓reduceIte, Nat.reduceEqDiff, Option.getD_some, zP, arrSz, zR, Bool.not_true, ↓zS, ↓zT, zU, List.nil_append, List.cons_append, List.append_nil, Nat.zero_add, Nat.reduceAdd, Nat.add_zero, reduceCtorEq, zX, leE, leH, leB, leV, leVs, keepP, liveP, wfE, wfB, wfV, wfL, Bool.and_true, Bool.and_self, true_and, and_true, and_self, V.v.injEq, Value.int.injEq, Value.bool.injEq, List.length_map, lg0, lg1, lg2, jq, ↓jr, ↓ju, ↓jx, ↓jy, ↓jA, ↓jG, ↓jI, ↓jU, ↓qaL, ↓qaT, List.length_map, List.getElem_map, encI_0, Int.toNat_natCast, cxN, Int.natCast_one]
    simp only [br, decide_eq_true_eq, decide_eq_false_iff_not, lo, hi, maxLen] at *
    refine ⟨fun _ => ⟨⟨by omega, by omega⟩, by simp, ?_⟩, fun h => absurd h (by decide)⟩
    simp only [Int.toNat_one, List.getElem_cons_zero, List.getElem_cons_succ, List.getElem?_cons_zero, jr, zP, t2]
    refine ⟨trivial, fun hlt => ⟨⟨by omega, by omega⟩, by omega, ⟨by omega, by omega⟩, by omega, fun _ => ⟨by omega, (2, 2 * i + 2), ⟨⟨by simp, by right; show i < 2 * i + 2 ∧ 2 * i + 2 < last; omega⟩, by simp⟩, by simp, by simp⟩, fun _ => ⟨by omega, (2, least), ⟨⟨by simp, hleast⟩, by simp⟩, by simp, rfl⟩⟩,
      fun hge => ⟨by omega, (2, least), ⟨⟨by simp, hleast⟩, by simp⟩, by simp, rfl⟩⟩
  · simp -implicitDefEqProofs only [qE, qF, qH, qI, qJ, qK, qM, qO, qP, qQ, qR, qS, qV, qX, qY, qZ, zF, zH, zJ, zK, zN, ofConst, List.length_nil, List.length_cons, zO, List.getD_eq_getElem?_getD, List.getElem?_cons_zero, ↓reduceIte, Nat.reduceEqDiff, Option.getD_some, zP, arrSz, zR, Bool.not_true, ↓zS, ↓zT, zU, List.nil_append, List.cons_append, List.append_nil, Nat.zero_add, Nat.reduceAdd, Nat.add_zero, reduceCtorEq, zX, leE, leH, leB, leV, leVs, keepP, liveP, wfE, wfB, wfV, wfL, Bool.and_true, Bool.and_self, true_and, and_true, and_self, V.v.injEq, Value.int.injEq, Value.bool.injEq, List.length_map, Nat.reduceLT, lg0, lg1, lg2, jq, ↓jr, ↓ju, ↓jx, ↓jy, ↓jA, ↓jG, ↓jI, ↓jU, ↓qaL, ↓qaT, List.length_map, List.getElem_map, encI_0, Int.toNat_natCast, cxN]
    simp only [br, decide_eq_true_eq, decide_eq_false_iff_not, lo, hi, maxLen] at *
    exact ⟨fun h => absurd h (by decide), fun _ => hex _ _ _⟩
abbrev pat40o (key v : Int) (last : Nat) (g : Nat × List Int × List Int) : St := ⟨[(7, .i g.1), (6, .i last), (5, .i v), (4, .i key), (0, .ptr 0 0 0)], hpB last g.2.1 g.2.2, 0⟩
theorem body40o (key v : Int) (last : Nat) (E : Int → Int → Prop) (hl : last ≤ 8796093022208) {RR : St → Prop} {X : Nat → St → Prop} (hR : ∀ ks vs, PopI last E ks vs → ∀ e h b, RR ⟨(3, .i v) :: (2, .i key) :: e, hpB last ks vs ++ h, b⟩)
    (g : Nat × List Int × List Int) (hg : g.1 ≤ last ∧ PopI last E g.2.1 g.2.2) :
    aw (cxN Try.prog [0, 1, 2]) c40l0 (fun s' => ∃ g' : Nat × List Int × List Int, ((g'.1 ≤ last ∧ PopI last E g'.2.1 g'.2.2) ∧ last - g'.1 < last - g.1) ∧ leS [0, 1, 2] s' (pat40o key v last g')) X RR (pat40o key v last g) := by
  obtain ⟨i, ks, vs⟩ := g
  obtain ⟨hi0, hP⟩ := hg
  simp only at hi0 hP
  have hRp := hR ks vs hP
  unfold hpB at hRp
  unfold c40l0 pat40o hpB
  simp -implicitDefEqProofs only [qF, qI, qK, qL, qO, qP, qR, qZ, zb, zp, zH, zJ, zK, zN, ofConst, cells?, List.length_nil, List.length_cons, List.set_cons_zero, List.getElem?_cons_zero, ↓reduceIte, Nat.reduceEqDiff, zP, List.nil_append, List.cons_append, List.append_nil, Nat.zero_add, Nat.reduceAdd, Nat.add_zero, freshP, litsP, List.map_cons, List.map_nil, List.all_cons, List.all_nil, isD, Bool.and_true, Bool.and_self, true_and, and_true, and_self, Nat.reduceLT, lg0, zY, kc, lg1, kg, kj, lg2, kk, jq, ↓jr, ↓jN, ↓qaL, ↓qaP, cxN]
  refine ⟨by simp only [lo, hi]; omega, by simp only [lo, hi]; omega, by simp only [lo, hi]; omega, by simp only [lo, hi]; omega, ?_⟩
  intro _
  refine loopP_intro (pat40i key v last i ks vs) (fun g => g.1 ≤ 2 ∧ (g.2 = i ∨ (i < g.2 ∧ g.2 < last))) (fun g => 2 - g.1) (0, i) ⟨by simp, .inl rfl⟩ ?_ (body40i key v last i ks vs hl hi0 hP.h1 hP.h2 ?_)
  · unfold pat40i e40 h40 hpB
    simp -implicitDefEqProofs only [zN, List.getElem?_cons_zero, ↓reduceIte, Nat.reduceEqDiff, List.nil_append, List.cons_append, reduceCtorEq, zX, leE, leH, leB, leV, leVs, keepP, liveP, wfE, wfB, wfV, wfL, Bool.and_true, Bool.and_self, true_and, and_true, and_self, V.v.injEq, Value.int.injEq, Value.bool.injEq, lg0, lg1, lg2, Int.natCast_zero]
    rfl
  intro least hleast y z b
  unfold e40 h40 hpB
  simp -implicitDefEqProofs only [qE, qF, qI, qJ, qN, qO, qP, qR, qZ, zD, zH, zJ, zN, List.length_nil, List.length_cons, ↓reduceIte, Nat.reduceEqDiff, zP, zR, List.nil_append, List.cons_append, List.append_nil, Nat.zero_add, Nat.reduceAdd, reduceCtorEq, List.map_cons, List.map_nil, true_and, jq, ↓qaR]
  simp only [br, beq_iff_eq, beq_eq_false_iff_ne]
  refine ⟨fun h => hRp _ [_] _, fun h => ?_⟩
  have hne : least ≠ i := by omega
  have hlt : i < least ∧ least < last := by omega
  refine call_isN [0, 1, 2] [.ptr 0 0 0, .i i, .i least] (.tup []) (.tup []) (hpB last ks vs) (hpB last (sw ks i least) (sw vs i least)) (hpB last (sw ks i least) (sw vs i least) ++ [.arr 1 [[.i (2 * i + 1)], [.i (2 * i + 2)]]])
    (ok49 last ks vs i least (by omega) (by omega) hP.h1 hP.h2) (by simp) rfl (by simp [lendsOk, lendOk, lends, lend, wkL, wk, pos]) (by simp [hpB]) rfl rfl (by simp [keepP, liveP, hpB]) ?_
  unfold hpB
  simp -implicitDefEqProofs only [qF, qO, qP, qR, zH, zJ, zN, List.length_nil, List.length_cons, List.getElem?_cons_zero, ↓reduceIte, Nat.reduceEqDiff, List.nil_append, List.cons_append, List.append_nil, Nat.zero_add, Nat.reduceAdd, reduceCtorEq, zX, leE, leH, leB, leV, leVs, keepP, liveP, wfE, wfB, wfV, wfL, Bool.and_true, Bool.and_self, true_and, and_true, and_self, V.v.injEq, Value.int.injEq, Value.bool.injEq, lg0, lg1, jq]
  refine ⟨(least, sw ks i least, sw vs i least), ⟨⟨by show least ≤ last; omega, ⟨by rw [sw_len]; exact hP.h1, by rw [sw_len]; exact hP.h2, fun a b => ?_⟩⟩, by show last - least < last - i; omega⟩, rfl, rfl, rfl⟩
  exact (ent_sw (by omega) (by omega) hP.h1 hP.h2 a b).trans (hP.he a b)
theorem ok40 (n : Nat) (ks vs : List Int) (h0 : 0 < n) (h1 : n ≤ ks.length) (h2 : n ≤ vs.length) (hn : n ≤ 8796093022208) :
    OkN Try.prog 40 [.ptr 0 0 0] (hpB n ks vs) [] (IsQ (PopQ n ks vs) (fun g => .tup [.i g.1.1, .i g.1.2]) (fun g => hpB (n - 1) g.2.1 g.2.2)) := by
  refine okN_of pol [0, 1, 2] lw40 (by simp) ⟨trivial, trivial, trivial, trivial⟩ (by simp [hpB]; omega) ?_
  unfold c40 hpB
  have hn1 : ((n : Int) - 1) = ((n - 1 : Nat) : Int) := by omega
  simp -implicitDefEqProofs only [qF, qH, qI, qO, qP, qR, qV, qX, qY, qZ, zb, zD, zF, zH, zJ, zK, zN, ofConst, List.length_nil, List.length_cons, zO, List.getD_eq_getElem?_getD, List.getElem?_cons_zero, ↓reduceIte, Nat.reduceEqDiff, Option.getD_some, zP, arrSz, List.append_nil, Nat.zero_add, Nat.reduceAdd, Nat.add_zero, reduceCtorEq, List.map_cons, List.map_nil, true_and, List.length_map, lg0, lg1, jq, ↓jr, ↓ju, ↓jx, ↓jy, ↓jA, ↓jG, ↓jI, ↓jN, ↓jU, ↓qaN, List.length_map, List.getElem_map, encI_0, cxN, args0, hn1]
  refine ⟨⟨by omega, by omega⟩, by simp; omega, ⟨by omega, by omega⟩, by simp; omega, fun _ => ⟨by simp only [lo, hi, maxLen] at *; omega, ?_⟩⟩
  refine call_isN [0, 1, 2] [.ptr 0 0 0, .i 0, .i (n - 1 : Nat)] (.tup []) (.tup []) (hpB n ks vs) (hpB n (sw ks 0 (n - 1)) (sw vs 0 (n - 1))) (hpB n (sw ks 0 (n - 1)) (sw vs 0 (n - 1)))
    (ok49 n ks vs 0 (n - 1) (by omega) (by omega) h1 h2) (by simp) rfl (by simp [lendsOk, lendOk, lends, lend, wkL, wk, pos]) (by simp [hpB]) rfl rfl ⟨trivial, trivial, trivial, trivial⟩ ?_
  have k1 : n ≤ (sw ks 0 (n - 1)).length := by rw [sw_len]; exact h1
  have k2 : n ≤ (sw vs 0 (n - 1)).length := by rw [sw_len]; exact h2
  have g1 : (sw ks 0 (n - 1)).getD (n - 1) 0 = ks.getD 0 0 := by rw [sw_get (by omega) (by omega), if_pos rfl]
  have g2 : (sw vs 0 (n - 1)).getD (n - 1) 0 = vs.getD 0 0 := by rw [sw_get (by omega) (by omega), if_pos rfl]
  have hE : ∀ a b, EntH n ks vs a b ↔ (EntH (n - 1) (sw ks 0 (n - 1)) (sw vs 0 (n - 1)) a b ∨ (a = ks.getD 0 0 ∧ b = vs.getD 0 0)) := by
    intro a b
    rw [← ent_sw (n := n) (ks := ks) (vs := vs) (i := 0) (k := n - 1) (by omega) (by omega) h1 h2, ent_last h0, g1, g2]
  generalize sw ks 0 (n - 1) = ks1 at *
  generalize sw vs 0 (n - 1) = vs1 at *
  have e1 : ks.getD 0 0 = ks[Int.toNat 0]'(by simp; omega) := getD_nat (by omega)
  have e2 : vs.getD 0 0 = vs[Int.toNat 0]'(by simp; omega) := getD_nat (by omega)
  rw [e1, e2] at hE
  have hin : EntH n ks vs (ks[Int.toNat 0]'(by simp; omega)) (vs[Int.toNat 0]'(by simp; omega)) := ⟨0, h0, e1, e2⟩
  generalize ks[Int.toNat 0]'(by simp; omega) = key at *
  generalize vs[Int.toNat 0]'(by simp; omega) = v at *
  unfold hpB
  simp -implicitDefEqProofs only [qa, qc, qo, qu, qw, rdK, qx, qy, qz, qA, qC, qF, qI, qK, qL, qO, qP, qR, qV, qW, qX, zj, zF, zH, zI, zJ, zK, zN, ofConst, cells?, List.length_nil, List.length_cons, List.set_cons_zero, splice, zO, List.getD_eq_getElem?_getD, List.getElem?_cons_zero, ↓reduceIte, Nat.reduceEqDiff, Option.getD_some, arrSz, List.nil_append, List.cons_append, List.append_nil, Nat.zero_add, Nat.reduceAdd, Nat.add_zero, reduceCtorEq, Option.map_some, Option.map_none, slcOk, Option.getD_none, List.drop_zero, List.take_zero, List.drop_nil, List.all_cons, List.all_nil, isC, Bool.and_true, Bool.and_self, true_and, and_true, and_self, List.not_mem_nil, List.length_append, not_false_eq_true, Bool.false_eq_true, Nat.reduceLeDiff, Nat.le_refl, lg0, zZ, ka, lg1, kh, jq, ↓jr, ↓ju, ↓jx, ↓jA, ↓jC, ↓jD, ↓jG, ↓jU, ↓qae, ↓qaf, ↓qag, Int.toNat_natCast]
  refine ⟨by omega, by omega, ?_⟩
  refine loopP_intro (pat40o key v (n - 1)) (fun g => g.1 ≤ n - 1 ∧ PopI (n - 1) (EntH (n - 1) ks1 vs1) g.2.1 g.2.2) (fun g => n - 1 - g.1) (0, ks1, vs1) ⟨by simp, by show n - 1 ≤ ks1.length; omega, by show n - 1 ≤ vs1.length; omega, fun a b => Iff.rfl⟩ ?_ (body40o key v (n - 1) _ (by omega) fun ks' vs' hP e h b => ?_)
  · unfold pat40o hpB
    simp -implicitDefEqProofs only [zN, List.getElem?_cons_zero, ↓reduceIte, Nat.reduceEqDiff, reduceCtorEq, zX, leE, leH, leB, leV, leVs, keepP, liveP, wfE, wfB, wfV, wfL, Bool.and_true, Bool.and_self, true_and, and_true, and_self, lg0, lg1, Int.natCast_zero]
    exact ⟨rfl, rfl⟩
  refine retP_isQ ((key, v), ks', vs') ⟨hin, hP.h1, hP.h2, fun a b => ?_⟩ ?_
  · rw [hE a b, ← hP.he a b]
  unfold hpB
  simp -implicitDefEqProofs only [zN, List.length_nil, List.length_cons, List.getElem?_cons_zero, ↓reduceIte, Nat.reduceEqDiff, List.nil_append, List.cons_append, Nat.zero_add, Nat.reduceAdd, resP, tupV, List.reverse_cons, List.reverse_nil, leH, leB, leV, leVs, keepP, liveP, wfB, wfV, wfL, Bool.and_self, and_self, Nat.le_refl, lg0, lg1]
end Go.Fx.C
namespace Go.Fx.C
open Go Go.Fx Go.Proofs
set_option maxRecDepth 20000
theorem bi_an {k : IntKind} {a c : Int} {K : V → Prop} {x : Bool} : binInt .and x k a c K = K (.v (.int k (k.wrap ((BitVec.ofInt k.bits a &&& BitVec.ofInt k.bits c).toNat : Int)))) := rfl
theorem sh_r {k : IntKind} {a c : Int} {K : V → Prop} : shiftInt .shr k a c K = (0 ≤ c ∧ K (.v (.int k (a.fdiv (2 ^ (min c.toNat k.bits)))))) := rfl
theorem and_mask {a : Nat} (h : a < 4294967296) : IntKind.wrap .u64 (((BitVec.ofInt (IntKind.bits .u64) (a : Int) &&& BitVec.ofInt (IntKind.bits .u64) 4294967295).toNat : Nat) : Int) = (a : Int) := by
  have h1 : (BitVec.ofInt (IntKind.bits .u64) (a : Int) &&& BitVec.ofInt (IntKind.bits .u64) 4294967295).toNat = a := by
    rw [BitVec.toNat_and]
    have e1 : (BitVec.ofInt (IntKind.bits .u64) (a : Int)).toNat = a := by
      rw [BitVec.toNat_ofInt]
      show (((a : Int) % ((2 ^ 64 : Nat) : Int)).toNat) = a
      omega
    have e2 : (BitVec.ofInt (IntKind.bits .u64) 4294967295).toNat = 2 ^ 32 - 1 := by decide
    rw [e1, e2, Nat.and_two_pow_sub_one_eq_mod]
    omega
  rw [h1]
  exact wrap_in .u64 _ (by simp only [lo, hi]; omega)
theorem shr32 {a : Nat} (h : a < 4294967296) : (a : Int).fdiv (2 ^ (min (Int.toNat 32) (IntKind.bits .u64))) = 0 := by
  show (a : Int).fdiv (2 ^ 32) = 0
  rw [Int.fdiv_eq_ediv_of_nonneg _ (by decide)]
  omega
theorem ok53 (n : Nat) (h : n < 1000000) : Ok 53 [.v (.int .u64 ((1 : Nat) : Int)), .v (.int .u64 n)] (Is (.tup [.v (.int .u64 ((0 : Nat) : Int)), .v (.int .u64 n)])) := by
  refine ok_of lw53 (by simp) ?_
  unfold c53
  have e1 := and_mask (a := 1) (by omega)
  have e0 := and_mask (a := 0) (by omega)
  have en := and_mask (a := n) (by omega)
  have s1 := shr32 (a := 1) (by omega)
  have s0 := shr32 (a := 0) (by omega)
  have sn := shr32 (a := n) (by omega)
  have m1 : ((1 : Nat) : Int) * (n : Int) = n := by simp
  have m0 : (0 : Int) * (n : Int) = 0 := Int.zero_mul _
  have mz : ((1 : Nat) : Int) * 0 = 0 := rfl
  have zz : (0 : Int) * 0 = 0 := rfl
  have za : (0 : Int) + 0 = 0 := rfl
  have ez : IntKind.wrap .u64 (((BitVec.ofInt (IntKind.bits .u64) (0 : Int) &&& BitVec.ofInt (IntKind.bits .u64) 4294967295).toNat : Nat) : Int) = (0 : Int) := e0
  have sz : (0 : Int).fdiv (2 ^ (min (Int.toNat 32) (IntKind.bits .u64))) = 0 := s0
  have h32 : (0 : Int) ≤ 32 := by omega
  have b0 : (lo .u64 ≤ (0 : Int) ∧ (0 : Int) ≤ hi .u64) := by simp only [lo, hi]; omega
  have bn : (lo .u64 ≤ (n : Int) ∧ (n : Int) ≤ hi .u64) := by simp only [lo, hi]; omega
  simp -implicitDefEqProofs only [qF, qI, qN, qO, qP, qR, qZ, zn, zH, zJ, zK, zN, ofConst, List.length_nil, ↓reduceIte, Nat.reduceEqDiff, zP, List.nil_append, List.cons_append, List.append_nil, Nat.zero_add, reduceCtorEq, zW, resP, tupV, List.reverse_cons, List.reverse_nil, wfV, wfL, Bool.and_self, true_and, and_self, jq, ↓qaL, ↓qaP, cxN, args0, ↓bi_an, ↓sh_r, e1, en, s1, sn, m1, m0, mz, zz, za, ez, sz, eq_true h32, eq_true b0, eq_true bn]
  first | rfl | trivial
theorem ok48 (n : Nat) (h : n < 1000000) : Ok 48 [.v (.int .u64 ((1 : Nat) : Int)), .v (.int .u64 n)] (Is (.tup [.v (.int .u64 ((0 : Nat) : Int)), .v (.int .u64 n)])) := by
  refine ok_of lw48 (by simp) ?_
  unfold c48
  simp -implicitDefEqProofs only [qE, qF, qI, qJ, qO, qP, qR, zf, zD, zH, zJ, zK, zN, ofConst, List.length_nil, ↓reduceIte, Nat.reduceEqDiff, zP, zR, ↓zT, List.append_nil, Nat.zero_add, reduceCtorEq, List.map_cons, List.map_nil, Bool.false_eq_true, jq, cxN, args0]
  refine call_is (ok53 n h) ?_ rfl trivial ?_
  · simp [lendsOk, lendOk, lends, lend, wkL, wk, pos]
  simp -implicitDefEqProofs only [qF, qI, qN, qO, qP, qR, zE, zH, zJ, zN, List.length_nil, List.getElem?_cons_zero, ↓reduceIte, Nat.reduceEqDiff, List.nil_append, List.cons_append, List.append_nil, zW, resP, tupV, List.reverse_cons, List.reverse_nil, wfV, wfL, Bool.and_self, and_self, lg0, jq, ↓jr, ↓jT]
theorem rep_app {n m : Nat} {x : List V} : List.replicate n x ++ List.replicate m x = List.replicate (n + m) x := by
  rw [List.replicate_append_replicate]
theorem ok38 (N : Nat) (x : Int) (h1 : 1 ≤ N) (h2 : N ≤ 1000) : Ok 38 [.bro 1 [encI x], .i N] (IsA (.sl 0 0 N) [.arr 1 (List.replicate N (encI x))]) := by
  refine ok_of lw38 (by simp) ?_
  unfold c38
  have w1 : IntKind.wrap .u64 (((1 : Nat) : Int)) = ((1 : Nat) : Int) := wrap_in .u64 _ (by simp only [lo, hi]; omega)
  have wn : IntKind.wrap .u64 (N : Int) = N := wrap_in .u64 _ (by simp only [lo, hi]; omega)
  have wi : IntKind.wrap .i64 (N : Int) = N := wrap_in .i64 _ (by simp only [lo, hi]; omega)
  have hneg : decide ((N : Int) < 0) = false := decide_eq_false (by omega)
  have hz : decide ((0 : Int) < ((0 : Nat) : Int)) = false := rfl
  have hbig : decide ((9223372036854775807 : Int) < (N : Int)) = false := decide_eq_false (by omega)
  have hff : (if false = true then (lo .u64 ≤ 0 ∧ 0 ≤ hi .u64) else False) = False := by simp
  simp -implicitDefEqProofs only [qE, qF, qI, qJ, qO, qP, qR, qZ, zb, zf, zD, zH, zJ, zK, zN, ofConst, List.length_nil, List.length_cons, ↓reduceIte, Nat.reduceEqDiff, zP, zR, ↓zT, List.append_nil, Nat.zero_add, reduceCtorEq, List.map_cons, List.map_nil, true_and, Bool.false_eq_true, jq, ↓jP, ↓qaT, cxN, args0, hneg]
  intro _
  simp -implicitDefEqProofs only [w1, wn]
  refine call_is (ok48 N (by omega)) ?_ rfl trivial ?_
  · simp [lendsOk, lendOk, lends, lend, wkL, wk, pos, w1]
  simp -implicitDefEqProofs only [qE, qF, qI, qJ, qK, qL, qO, qP, qQ, qR, qS, qZ, zf, zq, zt, zE, zH, zJ, zK, zN, ofConst, List.length_nil, List.length_cons, List.set_cons_zero, zO, List.getD_eq_getElem?_getD, List.getElem?_cons_zero, ↓reduceIte, Nat.reduceEqDiff, Option.getD_some, zP, zR, Bool.not_false, ↓zS, ↓zT, zU, List.nil_append, List.append_nil, Nat.zero_add, Nat.add_zero, reduceCtorEq, freshP, List.map_cons, List.map_nil, List.take_zero, Bool.and_self, true_and, and_self, List.not_mem_nil, false_or, List.length_replicate, not_false_eq_true, Bool.false_eq_true, Nat.le_refl, lg0, kc, jq, ↓jr, ↓jT, ↓qab, ↓qat, ↓qau, ↓qaV, Int.toNat_natCast, hz, hbig, wi]
  refine ⟨⟨⟨by omega, by omega⟩, by omega, by omega⟩, ?_⟩
  have hmin : min 1 N = 1 := by omega
  refine loopP_intro (fun n : Nat => ⟨[(8, .i n), (7, .sl 0 0 N)], [.arr 1 (List.replicate n (encI x) ++ List.replicate (N - n) (encI 0))], 0⟩) (fun n => 1 ≤ n ∧ n ≤ N) (fun n => N - n) 1 (by omega) ?_ ?_
  · simp -implicitDefEqProofs only [zN, List.getElem?_cons_zero, ↓reduceIte, Nat.reduceEqDiff, List.nil_append, List.cons_append, zX, leE, leH, leB, keepP, liveP, wfE, wfB, wfV, Bool.and_true, Bool.and_self, true_and, and_true, and_self, kc, jq, hmin]
    have : List.take N [encI x] = [encI x] := List.take_of_length_le (by simp; omega)
    rw [this, List.drop_replicate]
    simp
    exact .inr rfl
  rintro n ⟨hn1, hn2⟩
  simp -implicitDefEqProofs only [qa, qe, qo, qx, qy, qz, qA, qC, qE, qF, qI, qJ, qK, qM, qN, qO, qP, qR, qZ, zb, zj, zt, zH, zJ, zN, List.length_nil, List.length_cons, List.set_cons_zero, zO, List.getD_eq_getElem?_getD, List.getElem?_cons_zero, ↓reduceIte, Nat.reduceEqDiff, Option.getD_some, zP, arrSz, zR, List.nil_append, List.append_nil, Nat.zero_add, Option.map_some, Option.map_none, slcOk, Option.getD_none, resP, tupV, List.reverse_cons, List.reverse_nil, zX, leE, leH, leB, keepP, liveP, wfE, wfB, wfV, Bool.and_true, Bool.and_self, true_and, and_true, and_self, V.v.injEq, Value.int.injEq, Value.bool.injEq, List.not_mem_nil, List.length_append, List.length_replicate, not_false_eq_true, Bool.false_eq_true, Nat.reduceLeDiff, Nat.le_refl, jq, ↓jN, ↓jY, ↓jZ, ↓qae, ↓qaf, ↓qag, ↓qat, ↓qau, ↓qaL, ↓qaT, Int.toNat_natCast, retP_isA]
  intro hmx
  simp only [br, decide_eq_true_eq, decide_eq_false_iff_not]
  refine ⟨fun h => ?_, fun h => ?_⟩
  · have h00 : Int.toNat 0 = 0 := rfl
    have e1 : List.take n (List.replicate n (encI x) ++ List.replicate (N - n) (encI 0)) = List.replicate n (encI x) := by
      rw [List.take_append_of_le_length (by simp), List.take_of_length_le (by simp)]
    simp only [h00, Nat.sub_zero, List.drop_zero, Nat.zero_add, e1, List.length_replicate]
    refine ⟨⟨⟨by omega, by omega⟩, by omega⟩, ⟨⟨by omega, by omega⟩, by omega, by omega⟩, by omega, .inr trivial, ⟨by simp only [lo]; omega, by simp only [hi]; omega⟩, n + min n (N - n), ⟨⟨by omega, by omega⟩, by omega⟩, by omega, ?_⟩
    have e2 : List.drop (n + min n (N - n)) (List.replicate n (encI x) ++ List.replicate (N - n) (encI 0)) = List.replicate (N - (n + min n (N - n))) (encI 0) := by
      rw [List.drop_append, List.drop_replicate, List.drop_replicate, List.length_replicate, show n - (n + min n (N - n)) = 0 by omega, show N - n - (n + min n (N - n) - n) = N - (n + min n (N - n)) by omega]
      rfl
    rw [e2, List.take_replicate, rep_app, show min (N - n) n = min n (N - n) by omega]
  · have : N - n = 0 := by omega
    have : n = N := by omega
    subst this
    simp
end Go.Fx.C
namespace Go.Fx
open Go.RowKit
theorem Fn_ghostN {P : Program} {f : FuncId} {args : List V} {h0 : List Blk} {mv : List Nat} {R R' : V → List Blk → Prop} (fx : List Nat) (hfx : ∀ k, k < h0.length → k ∉ mv → k ∈ fx) (hlt : ∀ k ∈ fx, k < h0.length ∧ k ∉ mv) (h : Fn P f args h0 mv R)
    (hR : ∀ r hs, R r hs → keepP fx hs ∧ ∃ r' hs', R' r' hs' ∧ h0.length ≤ hs'.length ∧ leG fx ⟨[(0, r)], hs, 0⟩ ⟨[(0, r')], hs', 0⟩) : Fn P f args h0 mv R' := by
  intro ρ X w vals h1 h2
  refine Calls.mono (h ρ X w vals h1 h2) ?_
  rintro e w' ⟨val, r, h', ρ', q1, q2, q3, q4, q5, q6⟩
  obtain ⟨hk, r', hs', g1, g1l, g2⟩ := hR r h' q2.1
  have hg : Good ρ X w fx 1 ⟨[(0, r)], h', 0⟩ ⟨#[val], []⟩ w' := by
    refine ⟨ρ', ⟨⟨q3, fun k hk => q6 k (hlt k hk).1 (hlt k hk).2⟩, hk⟩, ⟨q4, fun i => ?_⟩, rfl, Marks.nil⟩
    by_cases hi : i = 0
    · subst hi; exact q5
    · have : get [(0, r)] i = .any := by simp [get, hi]
      rw [this]; trivial
  obtain ⟨ρ2, ⟨⟨p1, p1b⟩, _⟩, ⟨p2, p3⟩, _⟩ := hg.leG g2
  exact ⟨val, r', hs', ρ2, q1, ⟨g1, g1l⟩, p1, p2, p3 0, fun k hk hm => p1b k (hfx k hk hm)⟩
theorem Fn_wk {P : Program} {f : FuncId} {args : List V} {h0 : List Blk} {mv : List Nat} {R R' : V → List Blk → Prop} (h : Fn P f args h0 mv R) (hR : ∀ r hs, R r hs → ∃ r', wk r' r ∧ R' r' hs) : Fn P f args h0 mv R' := by
  intro ρ X w vals h1 h2
  refine Calls.mono (h ρ X w vals h1 h2) ?_
  rintro e w' ⟨val, r, h', ρ', q1, q2, q3, q4, q5, q6⟩
  obtain ⟨r', g1, g2⟩ := hR r h' q2.1
  exact ⟨val, r', h', ρ', q1, ⟨g2, q2.2⟩, q3, q4, wk_rep _ _ _ g1 q5, q6⟩
theorem Fn_giveQ {P : Program} {f : FuncId} {args : List V} {mv : List Nat} {R R' : V → List Blk → Prop} (h : Fn P f args [] mv R) (hy : ∀ r hs, R r hs → ∃ y, wk y (gvV (fun _ => true) hs r) ∧ R' y []) : Fn P f args [] mv R' := by
  intro ρ X w vals h1 h2
  refine Calls.mono (h ρ X w vals h1 h2) ?_
  rintro e w' ⟨val, r, h', ρ', q1, q2, q3, q4, q5, q6⟩
  obtain ⟨y, g1, g2⟩ := hy r h' q2.1
  exact ⟨val, y, [], _, q1, ⟨g2, Nat.zero_le _⟩, q3.trans gv_fr, rep_none q4, wk_rep _ _ _ g1 (gv_rep q4 _ _ q5), fun k hk hm => by
    have := q6 k hk hm
    exact absurd hk (by simp)⟩
theorem okN_ofG {P : Program} (hP : P.follows .mixedOrders = true) {f : FuncId} {l0 l : LCode} {rs : List LRes} {nt : Nat} (fx : List Nat) (hl : rlF P f l0 = some (l, rs, nt)) {args : List V} {h0 : List Blk} {mv : List Nat} {R : V → List Blk → Prop} (hlen : args.length ≤ nt) (hb : keepP fx h0)
    (hfx : ∀ k, k < h0.length → k ∉ mv → k ∈ fx) {s0 : St} (hg : leG fx ⟨args0 0 args, h0, 0⟩ s0) (h : aw (cxN P fx) l (retP fx h0.length rs R) (fun _ _ => False) (retP fx h0.length rs R) s0) : OkN P f args h0 mv R := by
  refine ⟨rlF_callable hl, ?_⟩
  unfold rlF at hl
  split at hl
  · rename_i fn hf
    split at hl
    · rename_i c rs' hb' hr ht
      simp only [Bool.and_eq_true, Bool.not_eq_true', decide_eq_true_eq] at ht
      cases hm : rlC P fn.ntmps c l0 with
      | none => simp [hm] at hl
      | some l1 =>
        simp only [hm, Option.map_some, Option.some.injEq, Prod.mk.injEq] at hl
        obtain ⟨rfl, rfl, rfl⟩ := hl
        intro ρ X w vals hr0 ha
        have hvl := RepL_len ha
        refine (callsIn_wide (n := 0)).1 (callsIn_of_wp_marks hf hb' trivial ?_)
        have hgd : Good ρ X w fx fn.ntmps ⟨args0 0 args, h0, 0⟩ { tmps := vals.toArray ++ Array.replicate (fn.ntmps - vals.toArray.size) undef, defers := [] } w :=
          ⟨ρ, ⟨⟨Fr.refl _ _, fun _ _ => rfl⟩, hb⟩, ⟨hr0, args0_rep ha _⟩, by simp; omega, Marks.nil⟩
        have hend : ∀ s, retP fx h0.length rs' R s → ∀ a w', Good ρ X w fx fn.ntmps s a w' → ∃ v, (results fn a.tmps).run P w' = .ok v w' ∧ ∃ val r h' ρ', Ending.returned v = .returned val ∧ (R r h' ∧ h0.length ≤ h'.length) ∧ Fr ρ w ρ' w' ∧ Rep ρ' X w' h' ∧ RepV ρ' X w' r val ∧
            ∀ k, k < h0.length → k ∉ mv → ρ' k = ρ k := by
          intro s hret a w' hgood
          obtain ⟨ρ', ⟨⟨hf1, hfx1⟩, hk1⟩, ⟨hr1, he1⟩, hN1, hd1⟩ := hgood
          obtain ⟨xs, vs, h5, h6, h7⟩ := resP_run hr1 he1 fn.results.toList rs' [] [] hr trivial hret
          obtain ⟨p, ⟨h8, h9, h10, h11, h12⟩, h13⟩ := h5
          refine ⟨tupU vs, results_run ht.1 h7, _, _, p, dropLoc ρ' p, rfl, ⟨h13, h10⟩, hf1.trans drop_fr, dropRep hr1 h8 h12, ?_, fun k hk hkm => ?_⟩
          · exact drop_rep _ _ h11 (tup_rep (by simpa using h6))
          · have hkf := hfx k hk hkm
            rw [live_loc (keepP_get h9 k hkf)]
            exact hfx1 k hkf
        refine aw_sound (P := P) (X := X) (N := fn.ntmps) hP c l0 l1 hm none (cxN P fx) ρ w (cxN_ok P fx) (.inl rfl) trivial (fun k => YOk_none) _ (retP fx h0.length rs' R) (fun _ _ => False) (retP fx h0.length rs' R) ?_ ?_ (fun _ _ _ _ hx _ => hx.elim) ?_ _ _ _ h (hgd.leG hg)
        · rintro ⟨a, w', val, _, _, _, hq, _⟩
          cases hq
        · intro s a w' hret hgood
          exact leaves_of (hend s hret) a.defers a w' rfl hgood
        · intro s a w' hret hgood
          exact leaves_of (hend s hret) a.defers a w' rfl hgood
    · cases hl
  · cases hl
end Go.Fx
namespace Go.Fx.C
open Go Go.Fx Go.Proofs
set_option maxRecDepth 20000
theorem get5 {α : Type} {a b c d f : α} {l : List α} {q : Nat} : (a :: b :: c :: d :: f :: l)[q + 5]? = l[q]? := rfl
theorem set5 {α : Type} {a b c d f x : α} {l : List α} {q : Nat} : (a :: b :: c :: d :: f :: l).set (q + 5) x = a :: b :: c :: d :: f :: l.set q x := rfl
def encR (l : List Nat) : List (List V) := l.map encN
theorem encR_len {l : List Nat} : (encR l).length = l.length := by simp [encR]
def rowsS (N : Nat) (L : Nat → List Nat) : List (List V) := (List.range N).map fun (v : Nat) => [.sl (v + 5) 0 (L v).length]
def rowsB (N : Nat) (L : Nat → List Nat) : List Blk := (List.range N).map fun (v : Nat) => .arr 1 (encR (L v))
section
variable {N : Nat} {L : Nat → List Nat}
theorem rowsS_len : (rowsS N L).length = N := by simp [rowsS]
theorem rowsB_len : (rowsB N L).length = N := by simp [rowsB]
theorem rowsS_get {v : Nat} (h : v < (rowsS N L).length) : (rowsS N L)[v] = [.sl (v + 5) 0 (L v).length] := by simp [rowsS]
theorem rowsB_in {v : Nat} {l : List Blk} (h : v < N) : (rowsB N L ++ l)[v]? = some (.arr 1 (encR (L v))) := by
  rw [List.getElem?_append_left (by rw [rowsB_len]; exact h)]
  simp [rowsB, h]
theorem rowsB_out {q : Nat} {l : List Blk} : (rowsB N L ++ l)[N + q]? = l[q]? := by
  rw [List.getElem?_append_right (by rw [rowsB_len]; omega), rowsB_len]; congr 1; omega
theorem rowsB_out0 {l : List Blk} : (rowsB N L ++ l)[N]? = l[0]? := rowsB_out (q := 0)
theorem rowsB_set {q : Nat} {l : List Blk} {x : Blk} : (rowsB N L ++ l).set (N + q) x = rowsB N L ++ l.set q x := by
  rw [List.set_append_right _ _ (by rw [rowsB_len]; omega), rowsB_len]; congr 2; omega
theorem rowsB_set0 {l : List Blk} {x : Blk} : (rowsB N L ++ l).set N x = rowsB N L ++ l.set 0 x := rowsB_set (q := 0)
theorem rowsB_put {v : Nat} {l : List Blk} {x : Blk} (h : v < N) : (rowsB N L ++ l).set v x = (rowsB N L).set v x ++ l := by
  rw [List.set_append_left _ _ (by rw [rowsB_len]; exact h)]
theorem rowsB_kill {M : List Nat} : (rowsB N L).map (killB M) = rowsB N L := by
  unfold rowsB
  rw [List.map_map]
  rfl
def app (L : Nat → List Nat) (v k : Nat) : Nat → List Nat := fun u => if u = v then L u ++ [k] else L u
theorem rowsS_next {v : Nat} (k : Nat) (hv : v < N) : ((rowsS N L).map (kills [v + 5])).set v [.sl (v + 5) 0 ((L v).length + 1)] = rowsS N (app L v k) := by
  apply List.ext_getElem
  · simp [rowsS]
  · intro q h1 h2
    have hq : q < N := by simpa [rowsS] using h2
    rw [List.getElem_set, rowsS_get]
    by_cases e : v = q
    · subst e
      simp [app]
    · rw [if_neg e, List.getElem_map, rowsS_get]
      have : ¬ (q + 5 = v + 5) := by omega
      simp [kills, kill, this, app, Ne.symm e]
theorem rowsB_next {v : Nat} (k : Nat) (hv : v < N) : (rowsB N L).set v (.arr 1 (encR (L v) ++ [encN k])) = rowsB N (app L v k) := by
  apply List.ext_getElem
  · simp [rowsB]
  · intro q h1 h2
    have hq : q < N := by simpa [rowsB] using h2
    rw [List.getElem_set]
    simp only [rowsB, List.getElem_map, List.getElem_range]
    by_cases e : v = q
    · subst e
      rw [if_pos rfl]
      simp [encR, app]
    · rw [if_neg e]; simp [app, Ne.symm e]
theorem rowsB_all {Q : List Blk → Prop} (h0 : Q []) (h1 : ∀ els r, Q r → Q (.arr 1 els :: r)) : Q (rowsB N L) := by
  have : ∀ l : List Blk, (∀ b ∈ l, ∃ els, b = .arr 1 els) → Q l := by
    intro l
    induction l with
    | nil => intro _; exact h0
    | cons b r ih =>
      intro h
      obtain ⟨els, rfl⟩ := h b List.mem_cons_self
      exact h1 _ _ (ih fun b hb => h b (List.mem_cons_of_mem _ hb))
  refine this _ fun b hb => ?_
  unfold rowsB at hb
  rw [List.mem_map] at hb
  obtain ⟨v, _, rfl⟩ := hb
  exact ⟨_, rfl⟩
theorem rowsB_wf {q : List Blk} : wfB q (rowsB N L) := rowsB_all trivial fun _ _ h => h
theorem rowsB_leH {l : List Blk} : leH (rowsB N L ++ l) (rowsB N L) := rowsB_all (Q := fun m => leH (m ++ l) m) (by unfold leH; trivial) fun _ _ h => ⟨rfl, h⟩
theorem rowsS_wf {a b c d f : Blk} : wfL (a :: b :: c :: d :: f :: rowsB N L) (rowsS N L).flatten := by
  refine wfL_all fun x hx => ?_
  rw [List.mem_flatten] at hx
  obtain ⟨l, h1, h2⟩ := hx
  unfold rowsS at h1
  rw [List.mem_map] at h1
  obtain ⟨v, hv, rfl⟩ := h1
  rw [List.mem_range] at hv
  rw [List.mem_singleton] at h2
  subst h2
  simp only [wfV, liveP, get5]
  have := rowsB_in (L := L) (l := []) hv
  rw [List.append_nil] at this
  rw [this]
  trivial
end
def hp27 (N : Nat) (arcs : List Arc) (x : List Int) (L : Nat → List Nat) : List Blk :=
  .arr 1 (x.map encI) :: .var [.i N, .ro 4 (arcs.map Arc.enc)] :: .arv 1 (rowsS N L) :: .arr 1 (List.replicate N (encI 0)) :: wB N x.length arcs 0 2 3 :: rowsB N L
def pat27 (N : Nat) (arcs : List Arc) (x : List Int) (k : Nat) : St :=
  ⟨[(21, .i k), (20, .i arcs.length), (19, .ro 4 (arcs.map Arc.enc)), (5, .ptr 4 0 0), (2, .ptr 1 0 0)], hp27 N arcs x (fun v => outs arcs v k), 0⟩
theorem outs_len {arcs : List Arc} {v k : Nat} : (outs arcs v k).length ≤ k := by
  have := List.length_filter_le (fun i => decide ((gA arcs i).from_ = v ∨ (gA arcs i).to = v)) (List.range k)
  rwa [List.length_range] at this
theorem outs_next {arcs : List Arc} {k f t : Nat} (hf : (gA arcs k).from_ = f) (ht : (gA arcs k).to = t) (hft : f ≠ t) : (fun v => outs arcs v (k + 1)) = app (app (fun v => outs arcs v k) f k) t k := by
  funext v
  have h1 : outs arcs v (k + 1) = outs arcs v k ++ (if (gA arcs k).from_ = v ∨ (gA arcs k).to = v then [k] else []) := by
    unfold outs
    rw [List.range_succ, List.filter_append]
    congr 1
    by_cases h : (gA arcs k).from_ = v ∨ (gA arcs k).to = v
    · rw [if_pos h]; simp only [List.filter_cons, List.filter_nil, h, decide_true]; rfl
    · rw [if_neg h]; simp only [List.filter_cons, List.filter_nil, h, decide_false]; rfl
  rw [h1, hf, ht]
  unfold app
  by_cases e1 : v = t
  · subst e1
    rw [if_pos rfl, if_neg (Ne.symm hft)]
    simp
  · rw [if_neg e1]
    by_cases e2 : v = f
    · subst e2; simp
    · rw [if_neg e2]
      have : ¬ ((f : Int) = v ∨ (t : Int) = v) := by omega
      rw [if_neg this]; simp
theorem body27 (N : Nat) (arcs : List Arc) (x : List Int) (hV : Val N arcs) {RR : St → Prop} {X : Nat → St → Prop}
    (hX : ∀ e b, get e 5 = .ptr 4 0 0 → X 0 ⟨e, hp27 N arcs x (fun v => outs arcs v arcs.length), b⟩) (k : Nat) (hk : k ≤ arcs.length) :
    aw (cxN Try.prog [0]) c27l0 (fun s' => ∃ g' : Nat, (g' ≤ arcs.length ∧ arcs.length - g' < arcs.length - k) ∧ leS [0] s' (pat27 N arcs x g')) X RR (pat27 N arcs x k) := by
  have hL := hV.hl
  have hfl := fun v => outs_len (arcs := arcs) (k := k) (v := v)
  have hnext := fun f t => outs_next (arcs := arcs) (k := k) (f := f) (t := t)
  unfold c27l0 pat27 hp27 wB
  simp -implicitDefEqProofs only [qa, qc, qd, qu, qw, rdK, qx, qz, qA, qC, qE, qF, qI, qJ, qK, qM, qO, qP, qR, qU, qV, qW, qX, qY, qZ, zp, zr, zF, zH, zI, zJ, zN, ofConst, cells?, List.length_nil, List.length_cons, List.set_cons_zero, splice, zO, List.getD_eq_getElem?_getD, List.getElem?_cons_zero, ↓reduceIte, Nat.reduceEqDiff, Option.getD_some, zP, arrSz, zR, List.nil_append, List.cons_append, List.append_nil, Nat.zero_add, Nat.reduceAdd, Nat.add_zero, reduceCtorEq, freshP, litsP, List.map_cons, List.map_nil, List.drop_zero, List.take_zero, List.take_nil, List.drop_nil, List.all_cons, List.all_nil, isD, Bool.and_true, Bool.and_self, true_and, and_true, and_self, List.not_mem_nil, false_or, List.length_append, List.length_map, not_false_eq_true, Nat.reduceLT, Nat.le_refl, lg0, zY, zZ, ka, kc, lg1, kh, kj, lg2, kn, lg3, kw, jq, ↓jr, ↓ju, ↓jv, ↓jx, ↓jz, ↓jA, ↓jB, ↓jC, ↓jD, ↓jG, ↓jI, ↓jJ, ↓jU, ↓jY, ↓jZ, ↓qaT, List.length_map, List.getElem_map, enc_len, enc_take, enc_0, enc_isC, Int.toNat_natCast, cxN, get5, set5, rowsB_len, rowsB_out, rowsB_out0, rowsB_set, rowsB_set0, rowsS_len, List.append_assoc]
  simp only [br, decide_eq_true_eq, decide_eq_false_iff_not]
  refine ⟨fun h => ?_, fun h => ?_⟩
  · have hk1 : k < arcs.length := by omega
    have hgk : gA arcs k = arcs[k] := gA_at hk1
    have hva := hV.at hk1
    rw [hgk] at hva hnext
    have hnx := hnext arcs[k].from_.toNat arcs[k].to.toNat (by omega) (by omega) (by omega)
    have hf : arcs[k].from_.toNat < N := by omega
    have ht : arcs[k].to.toNat < N := by omega
    have if5 : ∀ (L : Nat → List Nat) (l : List Blk), (rowsB N L ++ l)[arcs[k].from_.toNat]? = some (.arr 1 (encR (L arcs[k].from_.toNat))) := fun L l => rowsB_in hf
    have it5 : ∀ (L : Nat → List Nat) (l : List Blk), (rowsB N L ++ l)[arcs[k].to.toNat]? = some (.arr 1 (encR (L arcs[k].to.toNat))) := fun L l => rowsB_in ht
    have tk : ∀ l : List Nat, List.take l.length (encR l) = encR l := fun l => List.take_of_length_le (by rw [encR_len]; omega)
    have ek : [V.v (Value.int IntKind.i64 (k : Int))] = encN k := rfl
    have ke : ∀ M : List Nat, kills M arcs[k].enc = arcs[k].enc := fun M => rfl
    have n0 : (N = arcs[k].from_.toNat) = False := eq_false (by omega)
    have n1 : (N + 1 = arcs[k].from_.toNat) = False := eq_false (by omega)
    have n2 : (N = arcs[k].to.toNat) = False := eq_false (by omega)
    have n3 : (N + 1 = arcs[k].to.toNat) = False := eq_false (by omega)
    have n4 : (arcs[k].from_.toNat = N) = False := eq_false (by omega)
    have n5 : (arcs[k].to.toNat = N) = False := eq_false (by omega)
    have n6 : (N + 3 = arcs[k].to.toNat) = False := eq_false (by omega)
    have n7 : (arcs[k].from_.toNat = arcs[k].to.toNat) = False := eq_false (by omega)
    have n8 : (arcs[k].to.toNat = arcs[k].from_.toNat) = False := eq_false (by omega)
    have eN : (encN k).length = 1 := rfl
    have eD : (encN k).all isD = true := rfl
    have hap : ∀ (L : Nat → List Nat), app L arcs[k].from_.toNat k arcs[k].to.toNat = L arcs[k].to.toNat := fun L => by simp [app, n8]
    have mk : ∀ (L : Nat → List Nat) (M : List Nat), ((rowsS N L).map (kills M)).length = N := fun L M => by rw [List.length_map, rowsS_len]
    refine ⟨⟨by omega, h⟩, by omega, by omega, by omega, ?_⟩
    simp -implicitDefEqProofs only [qa, qc, qd, qu, qw, rdK, qx, qy, qz, qA, qC, qF, qO, qP, qR, qV, qW, qX, qY, qZ, zp, zr, zF, zH, zI, zJ, zK, zN, ofConst, cells?, List.length_nil, List.length_cons, List.set_cons_zero, splice, zO, List.getD_eq_getElem?_getD, List.getElem?_cons_zero, ↓reduceIte, Nat.reduceEqDiff, Option.getD_some, zP, arrSz, List.nil_append, List.cons_append, List.append_nil, Nat.zero_add, Nat.reduceAdd, Nat.add_zero, reduceCtorEq, freshP, litsP, zX, leE, leH, leB, leV, leVs, keepP, liveP, wfE, wfB, wfV, wfL, killE, killB, kill, kills, St.kill, List.map_cons, List.map_nil, List.drop_zero, List.take_zero, List.take_nil, List.drop_nil, List.all_cons, List.all_nil, isC, Bool.and_true, Bool.and_self, true_and, and_true, and_self, V.v.injEq, Value.int.injEq, Value.bool.injEq, List.mem_cons, List.not_mem_nil, or_false, false_or, List.length_append, not_false_eq_true, Bool.false_eq_true, Nat.reduceLT, Nat.le_refl, lg0, zY, zZ, ka, kc, lg1, kg, kj, lg2, kk, lg3, jq, ↓jr, ↓ju, ↓jx, ↓jz, ↓jA, ↓jC, ↓jF, ↓jG, ↓jI, ↓jU, ↓jY, ↓jZ, ↓qap, ↓qaq, ↓qaL, List.getElem_map, enc_1, get5, set5, rowsB_len, rowsB_out, rowsB_out0, rowsB_set, rowsS_len, rowsS_get, List.append_assoc, if5, it5, tk, ek, mk, encR_len, ke, n0, n1, n2, n3, n4, n5, n6, n7, eN, eD, hap, List.map_append, rowsB_kill, rowsB_put hf, rowsB_put ht, fun L => rowsS_next (L := L) k hf, fun L => rowsS_next (L := L) k ht, fun L => rowsB_next (L := L) k hf, fun L => rowsB_next (L := L) k ht]
    have r1 := rowsS_next (L := app (fun v => outs arcs v k) arcs[k].from_.toNat k) k ht
    have r2 := rowsB_next (L := app (fun v => outs arcs v k) arcs[k].from_.toNat k) k ht
    rw [hap] at r1 r2
    have o1 := hfl arcs[k].from_.toNat
    have o2 := hfl arcs[k].to.toNat
    refine ⟨by omega, hva.1, by omega, hva.2.1, by omega, by omega, hva.2.1, by omega, by simp only [lo, hi]; omega, k + 1, ⟨by omega, by omega⟩, by omega, ?_⟩
    rw [r1, r2, ← hnx]
    exact ⟨⟨rfl, rowsB_leH⟩, rowsS_wf, rowsB_wf⟩
  · have hke : k = arcs.length := by omega
    subst hke
    exact hX _ _ rfl
theorem raw27 (N : Nat) (arcs : List Arc) (x : List Int) (hV : Val N arcs) : OkN Try.prog 27 [net N arcs, .sl 0 0 x.length] [.arr 1 (x.map encI)] [] (IsA (.ptr 4 0 0) (hp27 N arcs x (fun v => outs arcs v arcs.length))) := by
  refine okN_of pol [0] lw27 (by simp) ⟨trivial, trivial⟩ (by simp) ?_
  have hL := hV.hl
  have hN := hV.hn
  unfold c27 net
  simp -implicitDefEqProofs only [qa, qc, qp, qw, rdK, qx, qy, qz, qA, qC, qF, qI, qK, qL, qO, qP, qR, qT, qV, qX, zb, zk, zq, zu, zH, zJ, zK, zN, ofConst, cells?, List.length_nil, List.length_cons, List.set_cons_zero, splice, zO, List.getD_eq_getElem?_getD, List.getElem?_cons_zero, ↓reduceIte, Nat.reduceEqDiff, Option.getD_some, zP, List.nil_append, List.cons_append, List.append_nil, Nat.zero_add, Nat.reduceAdd, Nat.add_zero, reduceCtorEq, freshP, buildP, List.map_cons, List.map_nil, List.drop_zero, List.take_zero, List.take_nil, List.drop_nil, Bool.and_true, true_and, and_true, List.length_append, List.length_map, Bool.false_eq_true, Nat.reduceLeDiff, Nat.le_refl, lg0, zY, zZ, ka, kc, lg1, kg, kh, ki, kj, lg2, kk, kn, ko, kq, lg3, kr, kw, kx, kA, jq, ↓jr, ↓ju, ↓jx, ↓jA, ↓jB, ↓jG, ↓jO, List.length_map, Int.toNat_natCast, cxN, args0]
  have hrows : ∀ v, outs arcs v 0 = [] := fun v => rfl
  have e0 : rowsB N (fun v => outs arcs v 0) = List.replicate N (.arr 1 []) := by
    apply List.ext_getElem
    · simp [rowsB]
    · intro q h1 h2
      simp [rowsB, hrows, encR]
  have hnil : nilRows (List.replicate N [V.nil]) (rowsS N (fun v => outs arcs v 0)) := by
    refine ⟨by simp [rowsS_len], fun i a b h1 h2 => ?_⟩
    have hi : i < N := by
      have := (List.getElem?_eq_some_iff.1 h1).1
      simpa using this
    have ha : a = [V.nil] := by
      rw [List.getElem?_replicate, if_pos hi] at h1
      simpa using h1.symm
    have hb : b = [.sl (i + 5) 0 0] := by
      rw [List.getElem?_eq_getElem (by rw [rowsS_len]; exact hi), rowsS_get] at h2
      simpa [hrows] using h2.symm
    subst ha hb
    refine ⟨rfl, fun j x y q1 q2 => ?_⟩
    cases j with
    | zero =>
      simp only [List.getElem?_cons_zero, Option.some.injEq] at q1 q2
      subst q1 q2
      exact .inr ⟨rfl, _, rfl⟩
    | succ j => simp at q1
  have hfin : ∀ e b, get e 5 = .ptr 4 0 0 → aw (cxN Try.prog [0]) ((LCode.reg 0 [{ dst := some 63, op := LOp.mov (Operand.tmp 5) }, { dst := some 4, op := LOp.mov (Operand.tmp 63) }]).seq LCode.ret)
      (retP [0] 1 [LRes.tmp 4] (IsA (V.ptr 4 0 0) (hp27 N arcs x fun v => outs arcs v arcs.length))) (fun x x_1 => False) (retP [0] 1 [LRes.tmp 4] (IsA (V.ptr 4 0 0) (hp27 N arcs x fun v => outs arcs v arcs.length))) ⟨e, hp27 N arcs x fun v => outs arcs v arcs.length, b⟩ := by
    intro e b he
    have hle := rowsB_leH (N := N) (L := fun v => outs arcs v arcs.length) (l := [])
    rw [List.append_nil] at hle
    unfold hp27 wB
    simp -implicitDefEqProofs only [qF, qI, qN, qO, qP, qR, zH, zJ, zN, List.length_cons, List.getElem?_cons_zero, ↓reduceIte, List.nil_append, List.append_nil, resP, tupV, List.reverse_cons, List.reverse_nil, leH, leB, leV, leVs, keepP, liveP, wfB, wfV, wfL, Bool.and_self, and_self, Nat.reduceLeDiff, lg0, lg1, lg2, lg3, jq, cxN, he, retP_isA, eq_true hle, eq_true rowsB_wf, eq_true rowsS_wf]
  refine ⟨⟨⟨by omega, by omega, by omega⟩, ⟨by omega, by omega, by omega⟩, fun hm => ?_⟩, ⟨by omega, by omega, by omega⟩, ⟨by omega, by omega, by omega⟩, fun hm => ?_⟩
  all_goals
    refine loopP_ghost (.virt N 1 (by decide) (.nilW 2 1 _ (rowsS N fun v => outs arcs v 0) rfl hnil (.refl _))) (pat27 N arcs x) (fun k => k ≤ arcs.length) (fun k => arcs.length - k) 0 (Nat.zero_le _) ?_ (body27 N arcs x hV (fun e b he => hfin e b he))
    unfold pat27 hp27 wB
    rw [e0]
    have hle := rowsB_leH (N := N) (L := fun v => outs arcs v 0) (l := [])
    rw [List.append_nil, e0] at hle
    have hwf := fun q => rowsB_wf (N := N) (L := fun v => outs arcs v 0) (q := q)
    rw [e0] at hwf
    have hws := fun a b c d f => rowsS_wf (N := N) (L := fun v => outs arcs v 0) (a := a) (b := b) (c := c) (d := d) (f := f)
    rw [e0] at hws
    simp -implicitDefEqProofs only [zN, List.set_cons_zero, List.getElem?_cons_zero, ↓reduceIte, Nat.reduceEqDiff, List.nil_append, List.cons_append, zX, leE, leH, leB, leV, leVs, keepP, liveP, wfE, wfB, wfV, wfL, Bool.and_true, Bool.and_self, true_and, and_true, and_self, lg0, zY, lg1, kg, lg2, lg3, Int.natCast_zero, eq_true hle, fun q => eq_true (hwf q), fun a b c d f => eq_true (hws a b c d f)]
    rfl
theorem rowsS_give {N : Nat} {L : Nat → List Nat} {a b c d f : Blk} : (rowsS N L).map (gvL (fun k => decide (5 ≤ k)) (a :: b :: c :: d :: f :: rowsB N L)) = (List.range N).map fun (v : Nat) => [.ro 1 (encR (L v))] := by
  apply List.ext_getElem
  · simp [rowsS]
  · intro v h1 h2
    have hv : v < N := by simpa using h2
    rw [List.getElem_map, rowsS_get]
    have hb : blk (a :: b :: c :: d :: f :: rowsB N L) (v + 5) = .arr 1 (encR (L v)) := by
      unfold blk
      have := rowsB_in (L := L) (l := []) hv
      rw [List.append_nil] at this
      rw [List.getD_eq_getElem?_getD, get5, this]; rfl
    simp only [gvL, gvV, hb]
    have : List.take (L v).length (encR (L v)) = encR (L v) := List.take_of_length_le (by rw [encR_len]; omega)
    simp [encR_len, this]
theorem ok27 (N : Nat) (arcs : List Arc) (x : List Int) (hV : Val N arcs) : OkN Try.prog 27 [net N arcs, .sl 0 0 x.length] [.arr 1 (x.map encI)] [] (IsA (.ptr 4 0 0) [.arr 1 (x.map encI), .dead, .arv 1 (outR arcs N), .arr 1 (List.replicate N (encI 0)), wB N x.length arcs 0 2 3]) := by
  refine ⟨(raw27 N arcs x hV).1, Fn_ghostN [0] (by simp) (by simp) (raw27 N arcs x hV).2 ?_⟩
  rintro r hs ⟨rfl, rfl⟩
  refine ⟨by simp [keepP, liveP, hp27], _, _, ⟨rfl, rfl⟩, by simp, ?_⟩
  refine ⟨_, .give (fun k => decide (5 ≤ k)) (by simp) (.refl _), ?_⟩
  have hg := fun a b c d f => rowsS_give (N := N) (L := fun v => outs arcs v arcs.length) (a := a) (b := b) (c := c) (d := d) (f := f)
  have hO : ((List.range N).map fun (v : Nat) => [V.ro 1 (encR (outs arcs v arcs.length))]) = outR arcs N := rfl
  unfold hp27 wB
  simp only [St.give, gvH, gvB, gvE, gvV]
  simp -implicitDefEqProofs only [zN, List.getElem?_cons_zero, ↓reduceIte, Nat.zero_add, Nat.reduceAdd, zX, leE, leH, leB, leV, leVs, keepP, liveP, wfE, wfB, wfV, wfL, Bool.and_self, and_self, Bool.false_eq_true, Nat.reduceLeDiff, lg0, lg1, lg2, lg3, gvL, gvV, hg, hO, outR_wfT, Nat.reduceLeDiff, decide_false, Bool.false_eq_true]
end Go.Fx.C
