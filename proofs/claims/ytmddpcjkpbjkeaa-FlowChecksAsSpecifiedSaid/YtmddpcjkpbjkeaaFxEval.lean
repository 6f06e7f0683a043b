import Derived.Test.YtmddpcjkpbjkeaaFxDefs
set_option linter.unusedVariables false
set_option linter.unusedSimpArgs false
set_option linter.unusedSectionVars false
namespace Go.Fx
def rdK (x : V) (bn : List Nat) : List Nat :=
  match x with
  | .ptr k _ _ => k :: bn
  | _ => bn
def tupK (x : V) (K : List V → Prop) : Prop :=
  match x with
  | .tup vs => K vs
  | _ => False
def nilK (x : V) (K : V → Prop) : Prop :=
  match x with
  | .ptr k i f => K (.ptr k i f)
  | .clo f cs => K (.clo f cs)
  | _ => False
def cloK (x : V) (K : FuncId → List V → Prop) : Prop :=
  match x with
  | .clo g cs => K g cs
  | _ => False

mutual
theorem kill_nil : ∀ x : V, kill [] x = x
  | .any => rfl
  | .v _ => rfl
  | .ro _ _ => rfl
  | .bro _ _ => rfl
  | .full _ _ => rfl
  | .rp _ _ _ _ => rfl
  | .sl _ _ _ => by simp [kill]
  | .ptr _ _ _ => by simp [kill]
  | .mp _ => by simp [kill]
  | .itr _ => by simp [kill]
  | .agg cs => by simp [kill, kills_nil cs]
  | .tup cs => by simp [kill, kills_nil cs]
  | .clo _ cs => by simp [kill, kills_nil cs]
theorem kills_nil : ∀ xs : List V, kills [] xs = xs
  | [] => rfl
  | x :: r => by simp [kills, kill_nil x, kills_nil r]
end
theorem killE_nil : ∀ e : Env, killE [] e = e
  | [] => rfl
  | (_, x) :: r => by simp [killE, kill_nil x, killE_nil r]
theorem killB_nil (l : List Blk) : l.map (killB []) = l := by
  have : killB [] = id := by
    funext b
    cases b <;> simp [killB, kills_nil, kill_nil, funext kills_nil]
  simp [this]

/-! The executor's rules, each at a state that is written out. -/
section
variable {cx : Cx} {e : Env} {h : List Blk} {b : Nat} {K : V → St → Prop} {Ks : St → Prop} {N R : St → Prop} {X : Nat → St → Prop} {d : Option Nat} {op : LOp}
theorem put_some {d : Nat} {x : V} : St.put ⟨e, h, b⟩ (some d) x = ⟨(d, x) :: e, h, b⟩ := rfl
theorem put_none {x : V} : St.put ⟨e, h, b⟩ none x = ⟨e, h, b⟩ := rfl
theorem aOps_nil : aOps cx [] ⟨e, h, b⟩ Ks = Ks ⟨e, h, b⟩ := rfl
theorem aOps_none {r : List LOper} : aOps cx (⟨d, op, none⟩ :: r) ⟨e, h, b⟩ Ks = aOp cx op ⟨e, h, b⟩ fun x s' => aOps cx r (s'.put d x) Ks := rfl
theorem aOps_some {g : Nat} {w : Bool} {r : List LOper} : aOps cx (⟨d, op, some (g, w)⟩ :: r) ⟨e, h, b⟩ Ks = guardP (get e g) w
      (aOp cx op ⟨(g, .b w) :: e, h, b⟩ fun x s' => aOps cx r (s'.put d x) Ks)
      (aOps cx r (St.put ⟨(g, .b !w) :: e, h, b⟩ d (.v (.tuple #[]))) Ks)
      (aOps cx r (St.put ⟨e, h, b⟩ d (.v (.tuple #[]))) Ks) := rfl
theorem rdB_mov {x : Operand} {bn : List Nat} : rdB (.mov x) e bn = bn := rfl
theorem op_mov {x : Operand} : aOp cx (.mov x) ⟨e, h, b⟩ K = K (ev e x) ⟨e, h, b⟩ := rfl
theorem rdB_pick {c x y : Operand} {bn : List Nat} : rdB (.pick c x y) e bn = bn := rfl
theorem op_pick {c x y : Operand} : aOp cx (.pick c x y) ⟨e, h, b⟩ K = brV (ev e c) (K (ev e x) ⟨e, h, b⟩) (K (ev e y) ⟨e, h, b⟩) := rfl
theorem op_box {j : Nat} {x : Operand} : aOp cx (.box j x) ⟨e, h, b⟩ K = optK (cells? (ev e x)) fun cs => freshP h (b + j) ∧ K (.ptr (b + j) 0 0) ⟨e, h.set (b + j) (.var cs), b⟩ := rfl
theorem op_alloc {j : Nat} {z : Value} : aOp cx (.alloc j z) ⟨e, h, b⟩ K = optK (cells? (ofConst z)) fun cs => freshP h (b + j) ∧ K (.ptr (b + j) 0 0) ⟨e, h.set (b + j) (.var cs), b⟩ := rfl
theorem op_load {n : Option Nat} {x : Operand} : aOp cx (.load n x) ⟨e, h, b⟩ K = loadP h n (ev e x) fun y => K y ⟨e, h, b⟩ := rfl
theorem op_store {n : Nat} {x y : Operand} : aOp cx (.store n x y) ⟨e, h, b⟩ K = optK (cells? (ev e y)) fun cs => storeP cx.bn h n (ev e x) cs fun h => K (.v (.tuple #[])) ⟨e, h, b⟩ := rfl
theorem rdB_fld {n : Nat} {x : Operand} {bn : List Nat} : rdB (.fld n x) e bn = bn := rfl
theorem op_fld {n : Nat} {x : Operand} : aOp cx (.fld n x) ⟨e, h, b⟩ K = fldP n (ev e x) fun y => K y ⟨e, h, b⟩ := rfl
theorem rdB_idx {n : Nat} {x i : Operand} {bn : List Nat} : rdB (.idx n x i) e bn = bn := rfl
theorem op_idx {n : Nat} {x i : Operand} : aOp cx (.idx n x i) ⟨e, h, b⟩ K = intK (ev e i) fun _ m => idxP h n m (ev e x) fun y => K y ⟨e, h, b⟩ := rfl
theorem rdB_bin {o : BinOp} {ex : Bool} {x y : Operand} {bn : List Nat} : rdB (.bin o ex x y) e bn = bn := rfl
theorem op_bin {o : BinOp} {ex : Bool} {x y : Operand} : aOp cx (.bin o ex x y) ⟨e, h, b⟩ K = intK (ev e x) fun k a => intK (ev e y) fun k' c => k' = k ∧ binInt o ex k a c fun z => K z ⟨e, h, b⟩ := rfl
theorem rdB_len {x : Operand} {bn : List Nat} : rdB (.len x) e bn = bn := rfl
theorem op_len {x : Operand} : aOp cx (.len x) ⟨e, h, b⟩ K = lenP (ev e x) fun y => K y ⟨e, h, b⟩ := rfl
theorem rdB_lens {x : Operand} {bn : List Nat} : rdB (.lens x) e bn = bn := rfl
theorem op_lens {x : Operand} : aOp cx (.lens x) ⟨e, h, b⟩ K = lensP (ev e x) fun y => K y ⟨e, h, b⟩ := rfl
theorem rdB_not {x : Operand} {bn : List Nat} : rdB (.not x) e bn = bn := rfl
theorem op_not {x : Operand} : aOp cx (.not x) ⟨e, h, b⟩ K = boolK (ev e x) fun t => K (.b (!t)) ⟨e, h, b⟩ := rfl
theorem rdB_neg {x : Operand} {bn : List Nat} : rdB (.neg x) e bn = bn := rfl
theorem op_neg {x : Operand} : aOp cx (.neg x) ⟨e, h, b⟩ K = intK (ev e x) fun k a => K (.v (.int k (k.wrap (-a)))) ⟨e, h, b⟩ := rfl
theorem rdB_conv {ex : Bool} {k : IntKind} {x : Operand} {bn : List Nat} : rdB (.conv ex k x) e bn = bn := rfl
theorem op_conv {ex : Bool} {k : IntKind} {x : Operand} : aOp cx (.conv ex k x) ⟨e, h, b⟩ K = intK (ev e x) fun _ a => if ex then (lo k ≤ a ∧ a ≤ hi k) ∧ K (.v (.int k a)) ⟨e, h, b⟩ else K (.v (.int k (k.wrap a))) ⟨e, h, b⟩ := rfl
theorem rdB_minmax {mx : Bool} {x y : Operand} {bn : List Nat} : rdB (.minmax mx x y) e bn = bn := rfl
theorem op_minmax {mx : Bool} {x y : Operand} : aOp cx (.minmax mx x y) ⟨e, h, b⟩ K = intK (ev e x) fun k a => intK (ev e y) fun k' c => k' = k ∧ K (.v (.int k (if mx then max a c else min a c))) ⟨e, h, b⟩ := rfl
theorem rdB_fn {f : FuncId} {cs : List Operand} {bn : List Nat} : rdB (.fn f cs) e bn = bn := rfl
theorem op_fn {f : FuncId} {cs : List Operand} : aOp cx (.fn f cs) ⟨e, h, b⟩ K = K (.clo f (cs.map (ev e))) ⟨e, h, b⟩ := rfl
theorem rdB_field {off : Nat} {n : Option Nat} {x : Operand} {bn : List Nat} : rdB (.field off n x) e bn = bn := rfl
theorem op_field {off : Nat} {n : Option Nat} {x : Operand} : aOp cx (.field off n x) ⟨e, h, b⟩ K = aggK (ev e x) fun cs => loadCs n off cs fun y => K y ⟨e, h, b⟩ := rfl
theorem rdB_slice {z : Nat} {x : Operand} {l u m : Option Operand} {bn : List Nat} : rdB (.slice z x l u m) e bn = bn := rfl
theorem op_slice {z : Nat} {x : Operand} {l u m : Option Operand} : aOp cx (.slice z x l u m) ⟨e, h, b⟩ K = optI (l.map (ev e)) fun l => optI (u.map (ev e)) fun u => optI (m.map (ev e)) fun m => slcP h z (ev e x) l u m fun y => K y ⟨e, h, b⟩ := rfl
theorem rdB_build {z : List Value} {ps : List (Nat × Nat × Operand)} {bn : List Nat} : rdB (.build z ps) e bn = bn := rfl
theorem op_build {z : List Value} {ps : List (Nat × Nat × Operand)} : aOp cx (.build z ps) ⟨e, h, b⟩ K = buildP e (z.map .v) ps fun y => K y ⟨e, h, b⟩ := rfl
theorem rdB_eqb {neg : Bool} {x y : Operand} {bn : List Nat} : rdB (.eqb neg x y) e bn = bn := rfl
theorem op_eqb {neg : Bool} {x y : Operand} : aOp cx (.eqb neg x y) ⟨e, h, b⟩ K = boolK (ev e x) fun a => boolK (ev e y) fun c => K (.b (if neg then a != c else a == c)) ⟨e, h, b⟩ := rfl
theorem rdB_eqf {neg : Bool} {ks : List (Nat × TypeDesc)} {x y : Operand} {bn : List Nat} : rdB (.eqf neg ks x y) e bn = bn := rfl
theorem op_eqf {neg : Bool} {ks : List (Nat × TypeDesc)} {x y : Operand} : aOp cx (.eqf neg ks x y) ⟨e, h, b⟩ K = optK (aggC (ev e x)) fun xs => optK (aggC (ev e y)) fun ys => eqFs xs ys ks fun t => K (.b (if neg then !t else t)) ⟨e, h, b⟩ := rfl
theorem rdB_shift {o : BinOp} {x y : Operand} {bn : List Nat} : rdB (.shift o x y) e bn = bn := rfl
theorem op_shift {o : BinOp} {x y : Operand} : aOp cx (.shift o x y) ⟨e, h, b⟩ K = intK (ev e x) fun k a => intK (ev e y) fun _ c => shiftInt o k a c fun z => K z ⟨e, h, b⟩ := rfl
theorem op_eqn {neg : Bool} {x : Operand} {v : Value} : aOp cx (.eqn neg x (.const v)) ⟨e, h, b⟩ K = match ofConst v with | .v _ => eqnP (ev e x) fun t => K (.b (if neg then !t else t)) ⟨e, h, b⟩ | _ => False := rfl
theorem op_lits {j sz n : Nat} {z : List Value} {ps : List (Nat × Operand)} : aOp cx (.lits j sz n z ps) ⟨e, h, b⟩ K = litsP e sz (List.replicate n (z.map .v)) ps fun els => freshP h (b + j) ∧ K (.sl (b + j) 0 n) ⟨e, h.set (b + j) (.arr sz els), b⟩ := rfl
theorem op_mk {j sz bytes : Nat} {z : List Value} {l c : Operand} : aOp cx (.mk j sz bytes z l c) ⟨e, h, b⟩ K = intK (ev e l) fun _ a => intK (ev e c) fun _ d => ((0 ≤ a ∧ a ≤ d) ∧ (bytes : Int) * d ≤ 281474976710656 ∧ d ≤ 9223372036854775807) ∧ freshP h (b + j) ∧ K (.sl (b + j) 0 a.toNat) ⟨e, h.set (b + j) (.arr sz (List.replicate a.toNat (z.map .v))), b⟩ := rfl
theorem op_append {j sz bytes : Nat} {x y : Operand} : aOp cx (.append j sz bytes x y) ⟨e, h, b⟩ K = viewK h (ev e y) fun sz' new => (new = [] ∨ sz' = sz) ∧ appP cx.fx cx.bn (b + j) sz bytes ⟨e, h, b⟩ (ev e x) new K := rfl
theorem op_copy {sz : Nat} {x y : Operand} : aOp cx (.copy sz x y) ⟨e, h, b⟩ K = viewK h (ev e y) fun sz' new => (new = [] ∨ sz' = sz) ∧ copyP cx.bn sz ⟨e, h, b⟩ (ev e x) new K := rfl
theorem op_call {f : FuncId} {xs : List Operand} : aOp cx (.call f xs) ⟨e, h, b⟩ K = callP cx f (xs.map (ev e)) ⟨e, h, b⟩ K := rfl
theorem rdB_ext {x : Operand} {i : Nat} {bn : List Nat} : rdB (.ext x i) e bn = bn := rfl
theorem rdB_nilc {x : Operand} {bn : List Nat} : rdB (.nilc x) e bn = bn := rfl
theorem rdB_eqn {t : Bool} {x y : Operand} {bn : List Nat} : rdB (.eqn t x y) e bn = bn := rfl
theorem rdB_load {n : Option Nat} {x : Operand} {bn : List Nat} : rdB (.load n x) e bn = rdK (ev e x) bn := by
  show (match ev e x with | .ptr k _ _ => k :: bn | _ => bn) = _
  unfold rdK
  cases ev e x <;> rfl
theorem op_ext {x : Operand} {i : Nat} : aOp cx (.ext x i) ⟨e, h, b⟩ K = tupK (ev e x) fun vs => optK vs[i]? fun y => K y ⟨e, h, b⟩ := by
  simp only [aOp, tupK]; split <;> simp_all
theorem op_nilc {x : Operand} : aOp cx (.nilc x) ⟨e, h, b⟩ K = nilK (ev e x) fun y => K y ⟨e, h, b⟩ := by
  simp only [aOp, nilK]; split <;> simp_all
theorem op_callv {f : Operand} {xs : List Operand} : aOp cx (.callv f xs) ⟨e, h, b⟩ K = cloK (ev e f) fun g cs => callP cx g (xs.map (ev e) ++ cs) ⟨e, h, b⟩ K := by
  simp only [aOp, cloK]; split <;> simp_all
theorem aw_skip : aw cx .skip N X R ⟨e, h, b⟩ = N ⟨e, h, b⟩ := rfl
theorem aw_reg {n : Nat} {l : List LOper} : aw cx (.reg n l) N X R ⟨e, h, b⟩ = aOps cx l ⟨e, h ++ List.replicate n .dead, h.length⟩ N := rfl
theorem aw_tail {m n : Nat} {l : List LOper} : aw cx (.tail m n l) N X R ⟨e, h, b⟩ = aOps cx l ⟨e, h ++ List.replicate n .dead, h.length⟩ N := rfl
theorem aw_qui {n : Nat} {l : List LOper} : aw cx (.qui n l) N X R ⟨e, h, b⟩ = aOps cx l ⟨e, h ++ List.replicate n .dead, h.length⟩ N := rfl
theorem aw_tree {n : Nat} {p : LPlan} : aw cx (.tree n p) N X R ⟨e, h, b⟩ = awP cx p [] N ⟨e, h ++ List.replicate n .dead, h.length⟩ := rfl
theorem awP_done {bn : List Nat} : awP cx .done bn Ks ⟨e, h, b⟩ = Ks ⟨e, h, b⟩ := rfl
theorem awP_none {bn : List Nat} : awP cx .none bn Ks ⟨e, h, b⟩ = True := rfl
theorem awP_take {i : Nat} {D bn : List Nat} {p : LPlan} : awP cx (.take i D ⟨d, op, none⟩ p) bn Ks ⟨e, h, b⟩ = aOp cx op ⟨e, h, b⟩ fun x s' => awP cx p (rdB op e bn) Ks (s'.put d x) := rfl
theorem awP_takeg {i g : Nat} {w : Bool} {D bn : List Nat} {p : LPlan} : awP cx (.take i D ⟨d, op, some (g, w)⟩ p) bn Ks ⟨e, h, b⟩ = guardP (get e g) w
      (aOp cx op ⟨(g, .b w) :: e, h, b⟩ fun x s' => awP cx p (rdB op e bn) Ks (s'.put d x))
      (awP cx p (rdB op e bn) Ks (St.put ⟨(g, .b !w) :: e, h, b⟩ d (.v (.tuple #[]))))
      (awP cx p (rdB op e bn) Ks (St.put ⟨e, h, b⟩ d (.v (.tuple #[])))) := rfl
theorem awP_alt {i : Nat} {r : Bool} {bn : List Nat} {p q : LPlan} : awP cx (.alt i ⟨d, op, none⟩ r p q) bn Ks ⟨e, h, b⟩ =
      ((aOp ⟨cx.C, cx.fx, if r then bn else []⟩ op ⟨e, h, b⟩ fun x s' => awP cx p (if r then bn else []) Ks (s'.put d x)) ∧ awP cx q bn Ks ⟨e, h, b⟩) := rfl
theorem awP_altg {i g : Nat} {w r : Bool} {bn : List Nat} {p q : LPlan} : awP cx (.alt i ⟨d, op, some (g, w)⟩ r p q) bn Ks ⟨e, h, b⟩ =
      ((guardP (get e g) w
        (aOp ⟨cx.C, cx.fx, if r then bn else []⟩ op ⟨(g, .b w) :: e, h, b⟩ fun x s' => awP cx p (if r then bn else []) Ks (s'.put d x))
        (awP cx p (if r then bn else []) Ks (St.put ⟨(g, .b !w) :: e, h, b⟩ d (.v (.tuple #[]))))
        (awP cx p (if r then bn else []) Ks (St.put ⟨e, h, b⟩ d (.v (.tuple #[]))))) ∧ awP cx q bn Ks ⟨e, h, b⟩) := rfl
theorem aw_seq {x y : LCode} : aw cx (.seq x y) N X R ⟨e, h, b⟩ = aw cx x (fun s' => aw cx y N X R s') X R ⟨e, h, b⟩ := rfl
theorem aw_cond {c : Operand} {x y : LCode} : aw cx (.cond c x y) N X R ⟨e, h, b⟩ = brV (ev e c) (aw cx x N X R ⟨e, h, b⟩) (aw cx y N X R ⟨e, h, b⟩) := rfl
theorem aw_block {i : Nat} {x : LCode} : aw cx (.block i x) N X R ⟨e, h, b⟩ = aw cx x N (fun j s' => if j = i then N s' else X j s') R ⟨e, h, b⟩ := rfl
theorem aw_loop {x : LCode} : aw cx (.loop x) N X R ⟨e, h, b⟩ = loopP cx.fx (fun N => aw cx x N X R) ⟨e, h, b⟩ := rfl
theorem aw_exit {i : Nat} : aw cx (.exit i) N X R ⟨e, h, b⟩ = X i ⟨e, h, b⟩ := rfl
theorem aw_ret : aw cx .ret N X R ⟨e, h, b⟩ = R ⟨e, h, b⟩ := rfl
theorem br_true {A B : Prop} : br true A B = A := by simp [br]
theorem br_false {A B : Prop} : br false A B = B := by simp [br]
theorem brV_v {t : Bool} {A B : Prop} : brV (.v (.bool t)) A B = br t A B := rfl
theorem guardP_b {t : Bool} {w : Bool} {A B C : Prop} : guardP (.v (.bool t)) w A B C = if w then br t A B else br t B A := rfl
theorem guardP_u {w : Bool} {A B C : Prop} : guardP (.v (.tuple #[])) w A B C = C := rfl
theorem intK_i {k : IntKind} {a : Int} {K : IntKind → Int → Prop} : intK (.v (.int k a)) K = K k a := rfl
theorem boolK_b {a : Bool} {K : Bool → Prop} : boolK (.v (.bool a)) K = K a := rfl
theorem retP_eq {fx : List Nat} {n : Nat} {rs : List LRes} {R : V → List Blk → Prop} : retP fx n rs R ⟨e, h, b⟩ = resP h e rs [] fun xs => ∃ p, (leH h p ∧ keepP fx p ∧ n ≤ p.length ∧ wfV p (tupV xs) ∧ wfB p p) ∧ R (tupV xs) p := rfl
theorem leS_eq {fx : List Nat} {p : Env} {q : List Blk} {b' : Nat} : leS fx ⟨e, h, b⟩ ⟨p, q, b'⟩ = (leE e p ∧ leH h q ∧ keepP fx q ∧ wfE q p ∧ wfB q q) := rfl
end

/-! What comes behind an operation is looked at when the operation is done, not before. -/
section
variable {cx : Cx} {h : List Blk} {e : Env} {s : St} {fx bn : List Nat}
/-- A plain result's contract. -/
def Is (x : V) : V → List Blk → Prop := fun r h => r = x ∧ h = []
theorem retP_is {e : Env} {h : List Blk} {b : Nat} {rs : List LRes} {x : V} : retP [] 0 rs (Is x) ⟨e, h, b⟩ = resP h e rs [] fun xs => wfV [] (tupV xs) ∧ tupV xs = x := by
  unfold retP Is
  simp only
  congr 1
  funext xs
  apply propext
  constructor
  · rintro ⟨p, ⟨_, _, _, h4, _⟩, h5, rfl⟩
    exact ⟨h4, h5⟩
  · rintro ⟨h4, h5⟩
    exact ⟨[], ⟨by unfold leH; trivial, trivial, Nat.le_refl _, h4, trivial⟩, h5, rfl⟩
theorem ev_tmp {t : Nat} : ev e (.tmp t) = get e t := rfl
theorem ev_const {c : Value} : ev e (.const c) = ofConst c := rfl
theorem ev_func {f : FuncId} : ev e (.func f) = .clo f [] := rfl
theorem get_no {i : Nat} : get [] i = .any := rfl
theorem get_at {j i : Nat} {x : V} {r : Env} : get ((j, x) :: r) i = if i = j then x else get r i := rfl
theorem blk_at {k : Nat} : blk h k = h.getD k .dead := rfl
@[congr] theorem c_optK {α : Type} {o o' : Option α} {K : α → Prop} (q : o = o') : optK o K = optK o' K := by rw [q]
@[congr] theorem c_intK {x x' : V} {K : IntKind → Int → Prop} (q : x = x') : intK x K = intK x' K := by rw [q]
@[congr] theorem c_boolK {x x' : V} {K : Bool → Prop} (q : x = x') : boolK x K = boolK x' K := by rw [q]
@[congr] theorem c_brV {x x' : V} {A B : Prop} (q : x = x') : brV x A B = brV x' A B := by rw [q]
@[congr] theorem c_guardP {x x' : V} {w : Bool} {A B C : Prop} (q : x = x') : guardP x w A B C = guardP x' w A B C := by rw [q]
@[congr] theorem c_loadP {n : Option Nat} {p p' : V} {K : V → Prop} (q : p = p') : loadP h n p K = loadP h n p' K := by rw [q]
@[congr] theorem c_loadB {n : Option Nat} {i f : Nat} {b b' : Blk} {K : V → Prop} (q : b = b') : loadB n i f b K = loadB n i f b' K := by rw [q]
@[congr] theorem c_loadCs {n : Option Nat} {f : Nat} {cs cs' : List V} {K : V → Prop} (q : cs = cs') : loadCs n f cs K = loadCs n f cs' K := by rw [q]
@[congr] theorem c_storeP {n : Nat} {p p' : V} {cs cs' : List V} {K : List Blk → Prop} (q : p = p') (q2 : cs = cs') : storeP bn h n p cs K = storeP bn h n p' cs' K := by rw [q, q2]
@[congr] theorem c_storeB {n i f : Nat} {cs : List V} {b b' : Blk} {K : Blk → Prop} (q : b = b') : storeB n i f cs b K = storeB n i f cs b' K := by rw [q]
@[congr] theorem c_fldP {n : Nat} {x x' : V} {K : V → Prop} (q : x = x') : fldP n x K = fldP n x' K := by rw [q]
@[congr] theorem c_idxP {z : Nat} {n n' : Int} {x x' : V} {K : V → Prop} (q : x = x') (q2 : n = n') : idxP h z n x K = idxP h z n' x' K := by rw [q, q2]
@[congr] theorem c_lenP {x x' : V} {K : V → Prop} (q : x = x') : lenP x K = lenP x' K := by rw [q]
@[congr] theorem c_lensP {x x' : V} {K : V → Prop} (q : x = x') : lensP x K = lensP x' K := by rw [q]
@[congr] theorem c_viewK {x x' : V} {K : Nat → List (List V) → Prop} (q : x = x') : viewK h x K = viewK h x' K := by rw [q]
@[congr] theorem c_optI {x x' : Option V} {K : Option Int → Prop} (q : x = x') : optI x K = optI x' K := by rw [q]
@[congr] theorem c_slcP {z : Nat} {x x' : V} {l u m : Option Int} {K : V → Prop} (q : x = x') : slcP h z x l u m K = slcP h z x' l u m K := by rw [q]
@[congr] theorem c_buildP {acc acc' : List V} {ps : List (Nat × Nat × Operand)} {K : V → Prop} (q : acc = acc') : buildP e acc ps K = buildP e acc' ps K := by rw [q]
@[congr] theorem c_litsP {sz : Nat} {acc acc' : List (List V)} {ps : List (Nat × Operand)} {K : List (List V) → Prop} (q : acc = acc') : litsP e sz acc ps K = litsP e sz acc' ps K := by rw [q]
@[congr] theorem c_eqnP {x x' : V} {K : Bool → Prop} (q : x = x') : eqnP x K = eqnP x' K := by rw [q]
@[congr] theorem c_appP {id sz bytes : Nat} {x x' : V} {new new' : List (List V)} {K : V → St → Prop} (q : x = x') (q2 : new = new') : appP fx bn id sz bytes s x new K = appP fx bn id sz bytes s x' new' K := by rw [q, q2]
@[congr] theorem c_appB {k i n sz bytes : Nat} {new : List (List V)} {b b' : Blk} {K : V → St → Prop} (q : b = b') : appB fx bn k i n sz bytes s new b K = appB fx bn k i n sz bytes s new b' K := by rw [q]
@[congr] theorem c_appNew {id sz bytes : Nat} {old old' new : List (List V)} {K : V → St → Prop} (q : old = old') : appNew id sz bytes s old new K = appNew id sz bytes s old' new K := by rw [q]
@[congr] theorem c_copyP {sz : Nat} {x x' : V} {new : List (List V)} {K : V → St → Prop} (q : x = x') : copyP bn sz s x new K = copyP bn sz s x' new K := by rw [q]
@[congr] theorem c_tupK {x x' : V} {K : List V → Prop} (q : x = x') : tupK x K = tupK x' K := by rw [q]
@[congr] theorem c_nilK {x x' : V} {K : V → Prop} (q : x = x') : nilK x K = nilK x' K := by rw [q]
@[congr] theorem c_cloK {x x' : V} {K : FuncId → List V → Prop} (q : x = x') : cloK x K = cloK x' K := by rw [q]
@[congr] theorem c_aggK {x x' : V} {K : List V → Prop} (q : x = x') : aggK x K = aggK x' K := by rw [q]
@[congr] theorem c_callP {f : FuncId} {xs xs' : List V} {s s' : St} {K : V → St → Prop} (q : xs = xs') (q2 : s = s') : callP cx f xs s K = callP cx f xs' s' K := by rw [q, q2]
@[congr] theorem c_binInt {op : BinOp} {ex : Bool} {k : IntKind} {a a' b b' : Int} {K : V → Prop} (q : a = a') (q2 : b = b') : binInt op ex k a b K = binInt op ex k a' b' K := by rw [q, q2]
@[congr] theorem c_eqFs {xs xs' ys ys' : List V} {ks : List (Nat × TypeDesc)} {K : Bool → Prop} (q : xs = xs') (q2 : ys = ys') : eqFs xs ys ks K = eqFs xs' ys' ks K := by rw [q, q2]
@[congr] theorem c_eqC {kd : TypeDesc} {x x' y y' : Option V} {K : Bool → Prop} (q : x = x') (q2 : y = y') : eqC kd x y K = eqC kd x' y' K := by rw [q, q2]
@[congr] theorem c_resP {ls : List LRes} {acc acc' : List V} {K : List V → Prop} (q : acc = acc') : resP h e ls acc K = resP h e ls acc' K := by rw [q]
@[congr] theorem c_awP {p : LPlan} {s s' : St} {Ks : St → Prop} (q : s = s') : awP cx p bn Ks s = awP cx p bn Ks s' := by rw [q]
@[congr] theorem c_aOps {l : List LOper} {s s' : St} {Ks : St → Prop} (q : s = s') : aOps cx l s Ks = aOps cx l s' Ks := by rw [q]
@[congr] theorem c_aw {c : LCode} {s s' : St} {N R : St → Prop} {X : Nat → St → Prop} (q : s = s') : aw cx c N X R s = aw cx c N X R s' := by rw [q]
@[congr] theorem c_aOp {o : LOp} {s s' : St} {K : V → St → Prop} (q : s = s') : aOp cx o s K = aOp cx o s' K := by rw [q]
end

theorem loopP_intro {fx : List Nat} {f : (St → Prop) → St → Prop} {s : St} {G : Type} (pat : G → St) (I : G → Prop) (μ : G → Nat) (g : G) (h0 : I g) (h1 : leS fx s (pat g))
    (h : ∀ g, I g → f (fun s' => ∃ g', (I g' ∧ μ g' < μ g) ∧ leS fx s' (pat g')) (pat g)) : loopP fx f s :=
  ⟨G, pat, I, μ, ⟨g, h0, h1⟩, h⟩

/-- A call of a function that gets data alone, and hands back what is new. -/
theorem callP_pure {cx : Cx} {f : FuncId} {args : List V} {e : Env} {h : List Blk} {b : Nat} {K : V → St → Prop} (as : List V) (R : V → List Blk → Prop) (h1 : lendsOk h (fun _ => none) args ∧ wkL as (lends h (fun _ => none) args)) (h2 : cx.C f as [] [] R)
    (h3 : ∀ r h', R r h' → keepP cx.fx (h ++ h'.map (renB (fun j => some (h.length + j)))) ∧ K (ren (fun j => some (h.length + j)) r) ⟨e, h ++ h'.map (renB (fun j => some (h.length + j))), b⟩) : callP cx f args ⟨e, h, b⟩ K := by
  have hp : pos [] = fun _ => none := rfl
  have hb : back [] h.length = fun j => some (h.length + j) := by funext j; simp [back]
  have hk : ∀ l : List Blk, l.map (killB []) = l := killB_nil
  refine ⟨[], as, [], R, ⟨⟨List.nodup_nil, by simp⟩, by simp⟩, ?_, ?_, by simpa using h2, ?_⟩
  · rw [hp]; exact h1.1
  · rw [hp]; exact h1.2
  · intro r h' hR _
    have := h3 r h' hR
    simp only [hb, setAll, List.filterMap_nil, hk, killE_nil]
    exact this
section
variable {h : List Blk} {e : Env} {s : St} {fx bn : List Nat} {b : Nat}
def viewB (b : Blk) (i n : Nat) (K : Nat → List (List V) → Prop) : Prop :=
  match b with
  | .arr sz els => i + n ≤ els.length ∧ K sz ((els.drop i).take n)
  | _ => False
theorem optK_s {α : Type} {x : α} {K : α → Prop} : optK (some x) K = K x := rfl
theorem optK_n {α : Type} {K : α → Prop} : optK none K = False := rfl
theorem loadP_p {n : Option Nat} {k i f : Nat} {K : V → Prop} : loadP h n (.ptr k i f) K = loadB n i f (blk h k) K := rfl
theorem loadP_r {n : Option Nat} {z i f : Nat} {els : List (List V)} {K : V → Prop} : loadP h n (.rp z els i f) K = ∃ hi : i < els.length, loadCs n f (els[i]'hi) K := rfl
theorem loadB_v {n : Option Nat} {i f : Nat} {cs : List V} {K : V → Prop} : loadB n i f (.var cs) K = loadCs n f cs K := rfl
theorem loadB_a {n : Option Nat} {i f z : Nat} {els : List (List V)} {K : V → Prop} : loadB n i f (.arr z els) K = ∃ hi : i < els.length, loadCs n f (els[i]'hi) K := rfl
theorem loadB_w {n : Option Nat} {i f z : Nat} {els : List (List V)} {K : V → Prop} : loadB n i f (.arv z els) K = ∃ hi : i < els.length, loadCs n f (els[i]'hi) K := rfl
theorem loadCs_n {f : Nat} {cs : List V} {K : V → Prop} : loadCs none f cs K = optK cs[f]? K := rfl
theorem loadCs_s {m f : Nat} {cs : List V} {K : V → Prop} : loadCs (some m) f cs K = (f + m ≤ cs.length ∧ K (.agg ((cs.drop f).take m))) := rfl
theorem storeP_p {n k i f : Nat} {cs : List V} {K : List Blk → Prop} : storeP bn h n (.ptr k i f) cs K = ((cs.length = n ∧ k ∉ bn) ∧ cs.all isC = true ∧ storeB n i f cs (blk h k) fun b => K (h.set k b)) := rfl
theorem storeB_v {n i f : Nat} {cs old : List V} {K : Blk → Prop} : storeB n i f cs (.var old) K = ((f + n ≤ old.length) ∧ K (.var (splice old f cs))) := rfl
theorem storeB_a {n i f z : Nat} {cs : List V} {els : List (List V)} {K : Blk → Prop} : storeB n i f cs (.arr z els) K = ((f + n ≤ z ∧ cs.all isD = true) ∧ ∃ hi : i < els.length, K (.arr z (els.set i (splice (els[i]'hi) f cs)))) := rfl
theorem storeB_w {n i f z : Nat} {cs : List V} {els : List (List V)} {K : Blk → Prop} : storeB n i f cs (.arv z els) K = ((f + n ≤ z) ∧ ∃ hi : i < els.length, K (.arv z (els.set i (splice (els[i]'hi) f cs)))) := rfl
theorem fldP_p {o k i f : Nat} {K : V → Prop} : fldP o (.ptr k i f) K = K (.ptr k i (f + o)) := rfl
theorem fldP_r {o z i f : Nat} {els : List (List V)} {K : V → Prop} : fldP o (.rp z els i f) K = K (.rp z els i (f + o)) := rfl
theorem idxP_s {z k i m : Nat} {n : Int} {K : V → Prop} : idxP h z n (.sl k i m) K = (arrSz z (blk h k) ∧ (0 ≤ n ∧ n < m) ∧ K (.ptr k (i + n.toNat) 0)) := rfl
theorem idxP_r {z y : Nat} {els : List (List V)} {n : Int} {K : V → Prop} : idxP h z n (.ro y els) K = (y = z ∧ (0 ≤ n ∧ n < els.length) ∧ K (.rp y els n.toNat 0)) := rfl
theorem idxP_b {z y : Nat} {els : List (List V)} {n : Int} {K : V → Prop} : idxP h z n (.bro y els) K = (y = z ∧ (0 ≤ n ∧ n < els.length) ∧ K (.rp y els n.toNat 0)) := rfl
theorem idxP_f {z y : Nat} {els : List (List V)} {n : Int} {K : V → Prop} : idxP h z n (.full y els) K = (y = z ∧ (0 ≤ n ∧ n < els.length) ∧ K (.rp y els n.toNat 0)) := rfl
theorem idxP_n {z : Nat} {n : Int} {K : V → Prop} : idxP h z n (.v (.slice none 0 0)) K = False := rfl
theorem lenP_s {k i n : Nat} {K : V → Prop} : lenP (.sl k i n) K = (n ≤ maxLen → K (.i n)) := rfl
theorem lenP_r {y : Nat} {els : List (List V)} {K : V → Prop} : lenP (.ro y els) K = (els.length ≤ maxLen → K (.i els.length)) := rfl
theorem lenP_b {y : Nat} {els : List (List V)} {K : V → Prop} : lenP (.bro y els) K = (els.length ≤ maxLen → K (.i els.length)) := rfl
theorem lenP_f {y : Nat} {els : List (List V)} {K : V → Prop} : lenP (.full y els) K = (els.length ≤ maxLen → K (.i els.length)) := rfl
theorem lenP_n {K : V → Prop} : lenP (.v (.slice none 0 0)) K = K (.i 0) := rfl
theorem lensP_s {t : ByteArray} {K : V → Prop} : lensP (.v (.string t)) K = K (.i t.size) := rfl
theorem tupK_t {vs : List V} {K : List V → Prop} : tupK (.tup vs) K = K vs := rfl
theorem nilK_p {k i f : Nat} {K : V → Prop} : nilK (.ptr k i f) K = K (.ptr k i f) := rfl
theorem nilK_c {f : FuncId} {cs : List V} {K : V → Prop} : nilK (.clo f cs) K = K (.clo f cs) := rfl
theorem cloK_c {f : FuncId} {cs : List V} {K : FuncId → List V → Prop} : cloK (.clo f cs) K = K f cs := rfl
theorem aggK_a {cs : List V} {K : List V → Prop} : aggK (.agg cs) K = K cs := rfl
theorem viewK_s {k i n : Nat} {K : Nat → List (List V) → Prop} : viewK h (.sl k i n) K = viewB (blk h k) i n K := rfl
theorem viewB_a {i n z : Nat} {els : List (List V)} {K : Nat → List (List V) → Prop} : viewB (.arr z els) i n K = (i + n ≤ els.length ∧ K z ((els.drop i).take n)) := rfl
theorem viewK_r {z : Nat} {els : List (List V)} {K : Nat → List (List V) → Prop} : viewK h (.ro z els) K = K z els := rfl
theorem viewK_b {z : Nat} {els : List (List V)} {K : Nat → List (List V) → Prop} : viewK h (.bro z els) K = K z els := rfl
theorem viewK_f {z : Nat} {els : List (List V)} {K : Nat → List (List V) → Prop} : viewK h (.full z els) K = K z els := rfl
theorem viewK_n {K : Nat → List (List V) → Prop} : viewK h (.v (.slice none 0 0)) K = K 0 [] := rfl
theorem optI_n {K : Option Int → Prop} : optI none K = K none := rfl
theorem optI_s {k : IntKind} {n : Int} {K : Option Int → Prop} : optI (some (.v (.int k n))) K = K (some n) := rfl
theorem slcP_s {z k i n : Nat} {l u m : Option Int} {K : V → Prop} : slcP h z (.sl k i n) l u m K = (arrSz z (blk h k) ∧ slcOk n l u m ∧ K (.sl k (i + (l.getD 0).toNat) ((u.getD n).toNat - (l.getD 0).toNat))) := rfl
theorem slcP_r {z y : Nat} {els : List (List V)} {l u m : Option Int} {K : V → Prop} : slcP h z (.ro y els) l u m K = (y = z ∧ slcOk els.length l u m ∧ K (.ro y ((els.drop (l.getD 0).toNat).take ((u.getD els.length).toNat - (l.getD 0).toNat)))) := rfl
theorem slcP_b {z y : Nat} {els : List (List V)} {l u m : Option Int} {K : V → Prop} : slcP h z (.bro y els) l u m K = (y = z ∧ slcOk els.length l u m ∧ K (.bro y ((els.drop (l.getD 0).toNat).take ((u.getD els.length).toNat - (l.getD 0).toNat)))) := rfl
theorem slcP_n {z : Nat} {l u m : Option Int} {K : V → Prop} : slcP h z (.v (.slice none 0 0)) l u m K = (slcOk 0 l u m ∧ K (.v (.slice none 0 0))) := rfl
theorem eqnP_s {k i n : Nat} {K : Bool → Prop} : eqnP (.sl k i n) K = ((0 < n → K false) ∧ (n = 0 → K true ∧ K false)) := rfl
theorem eqnP_r {z : Nat} {els : List (List V)} {K : Bool → Prop} : eqnP (.ro z els) K = ((els ≠ [] → K false) ∧ (els = [] → K true ∧ K false)) := rfl
theorem eqnP_b {z : Nat} {els : List (List V)} {K : Bool → Prop} : eqnP (.bro z els) K = ((els ≠ [] → K false) ∧ (els = [] → K true ∧ K false)) := rfl
theorem eqnP_n {K : Bool → Prop} : eqnP (.v (.slice none 0 0)) K = K true := rfl
theorem appNew_e {id sz bytes : Nat} {old new : List (List V)} {K : V → St → Prop} : appNew id sz bytes ⟨e, h, b⟩ old new K = ((old.length + new.length) * bytes ≤ 140737488355328 ∧ freshP h id ∧ K (.sl id 0 (old.length + new.length)) ⟨e, h.set id (.arr sz (old ++ new)), b⟩) := rfl
theorem appB_a {k i n sz bytes z : Nat} {new els : List (List V)} {K : V → St → Prop} : appB fx bn k i n sz bytes ⟨e, h, b⟩ new (.arr z els) K = ((z = sz ∧ i + n ≤ els.length ∧ (n + new.length) * bytes ≤ 140737488355328) ∧ (k ∉ fx ∧ k ∉ bn) ∧ K (.sl k 0 (n + new.length)) ⟨killE [k] e, (h.map (killB [k])).set k (.arr sz ((els.drop i).take n ++ new)), b⟩) := rfl
theorem appP_s {k i n id sz bytes : Nat} {new : List (List V)} {K : V → St → Prop} : appP fx bn id sz bytes ⟨e, h, b⟩ (.sl k i n) new K = appB fx bn k i n sz bytes ⟨e, h, b⟩ new (blk h k) K := rfl
theorem appP_n {id sz bytes : Nat} {new : List (List V)} {K : V → St → Prop} : appP fx bn id sz bytes s (.v (.slice none 0 0)) new K = appNew id sz bytes s [] new K := rfl
theorem appP_f {id sz bytes z : Nat} {els new : List (List V)} {K : V → St → Prop} : appP fx bn id sz bytes s (.full z els) new K = ((z = sz ∧ new ≠ []) ∧ appNew id sz bytes s els new K) := rfl
theorem copyB_a {k i n sz z : Nat} {new els : List (List V)} {K : V → St → Prop} : copyB bn k i n sz ⟨e, h, b⟩ new (.arr z els) K = ((z = sz ∧ i + n ≤ els.length ∧ k ∉ bn) ∧ K (.i (min new.length n : Nat)) ⟨e, h.set k (.arr sz (els.take i ++ new.take n ++ els.drop (i + min new.length n))), b⟩) := rfl
theorem copyP_s {k i n sz : Nat} {new : List (List V)} {K : V → St → Prop} : copyP bn sz ⟨e, h, b⟩ (.sl k i n) new K = copyB bn k i n sz ⟨e, h, b⟩ new (blk h k) K := rfl
section
variable {k : IntKind} {a c : Int} {K : V → Prop}
theorem bi_at : binInt .add true k a c K = ((lo k ≤ a + c ∧ a + c ≤ hi k) ∧ K (.v (.int k (a + c)))) := rfl
theorem bi_af : binInt .add false k a c K = K (.v (.int k (k.wrap (a + c)))) := rfl
theorem bi_st : binInt .sub true k a c K = ((lo k ≤ a - c ∧ a - c ≤ hi k) ∧ K (.v (.int k (a - c)))) := rfl
theorem bi_sf : binInt .sub false k a c K = K (.v (.int k (k.wrap (a - c)))) := rfl
theorem bi_mt : binInt .mul true k a c K = ((lo k ≤ a * c ∧ a * c ≤ hi k) ∧ K (.v (.int k (a * c)))) := rfl
theorem bi_mf : binInt .mul false k a c K = K (.v (.int k (k.wrap (a * c)))) := rfl
theorem bi_eq {x : Bool} : binInt .eql x k a c K = K (.b (a == c)) := rfl
theorem bi_ne {x : Bool} : binInt .neq x k a c K = K (.b (a != c)) := rfl
theorem bi_lt {x : Bool} : binInt .lss x k a c K = K (.b (decide (a < c))) := rfl
theorem bi_le {x : Bool} : binInt .leq x k a c K = K (.b (decide (a ≤ c))) := rfl
theorem bi_gt {x : Bool} : binInt .gtr x k a c K = K (.b (decide (c < a))) := rfl
theorem bi_ge {x : Bool} : binInt .geq x k a c K = K (.b (decide (c ≤ a))) := rfl
theorem bi_qt : binInt .quo true k a c K = (c ≠ 0 ∧ (lo k ≤ a.tdiv c ∧ a.tdiv c ≤ hi k) ∧ K (.v (.int k (a.tdiv c)))) := rfl
theorem bi_qf : binInt .quo false k a c K = (c ≠ 0 ∧ K (.v (.int k (k.wrap (a.tdiv c))))) := rfl
theorem bi_rm {x : Bool} : binInt .rem x k a c K = (c ≠ 0 ∧ K (.v (.int k (a.tmod c)))) := rfl
end
@[congr] theorem c_viewB {i n : Nat} {x x' : Blk} {K : Nat → List (List V) → Prop} (q : x = x') : viewB x i n K = viewB x' i n K := by rw [q]
end
section
variable {α : Type} {a : α} {l : List α} {x : α} {y : Nat}
theorem lg0 : (a :: l)[1]? = l[0]? := rfl
theorem lset0 : (a :: l).set 1 x = a :: l.set 0 x := rfl
theorem ldrop0 : (a :: l).drop 1 = l.drop 0 := rfl
theorem ltake0 : (a :: l).take 1 = a :: l.take 0 := rfl
theorem lrep0 : List.replicate 1 x = x :: List.replicate 0 x := rfl
theorem lg1 : (a :: l)[2]? = l[1]? := rfl
theorem lset1 : (a :: l).set 2 x = a :: l.set 1 x := rfl
theorem ldrop1 : (a :: l).drop 2 = l.drop 1 := rfl
theorem ltake1 : (a :: l).take 2 = a :: l.take 1 := rfl
theorem lrep1 : List.replicate 2 x = x :: List.replicate 1 x := rfl
theorem lg2 : (a :: l)[3]? = l[2]? := rfl
theorem lset2 : (a :: l).set 3 x = a :: l.set 2 x := rfl
theorem ldrop2 : (a :: l).drop 3 = l.drop 2 := rfl
theorem ltake2 : (a :: l).take 3 = a :: l.take 2 := rfl
theorem lrep2 : List.replicate 3 x = x :: List.replicate 2 x := rfl
theorem lg3 : (a :: l)[4]? = l[3]? := rfl
theorem lset3 : (a :: l).set 4 x = a :: l.set 3 x := rfl
theorem ldrop3 : (a :: l).drop 4 = l.drop 3 := rfl
theorem ltake3 : (a :: l).take 4 = a :: l.take 3 := rfl
theorem lrep3 : List.replicate 4 x = x :: List.replicate 3 x := rfl
theorem lg4 : (a :: l)[5]? = l[4]? := rfl
theorem lset4 : (a :: l).set 5 x = a :: l.set 4 x := rfl
theorem ldrop4 : (a :: l).drop 5 = l.drop 4 := rfl
theorem ltake4 : (a :: l).take 5 = a :: l.take 4 := rfl
theorem lrep4 : List.replicate 5 x = x :: List.replicate 4 x := rfl
theorem lg5 : (a :: l)[6]? = l[5]? := rfl
theorem lset5 : (a :: l).set 6 x = a :: l.set 5 x := rfl
theorem ldrop5 : (a :: l).drop 6 = l.drop 5 := rfl
theorem ltake5 : (a :: l).take 6 = a :: l.take 5 := rfl
theorem lrep5 : List.replicate 6 x = x :: List.replicate 5 x := rfl
theorem lg6 : (a :: l)[7]? = l[6]? := rfl
theorem lset6 : (a :: l).set 7 x = a :: l.set 6 x := rfl
theorem ldrop6 : (a :: l).drop 7 = l.drop 6 := rfl
theorem ltake6 : (a :: l).take 7 = a :: l.take 6 := rfl
theorem lrep6 : List.replicate 7 x = x :: List.replicate 6 x := rfl
theorem lg7 : (a :: l)[8]? = l[7]? := rfl
theorem lset7 : (a :: l).set 8 x = a :: l.set 7 x := rfl
theorem ldrop7 : (a :: l).drop 8 = l.drop 7 := rfl
theorem ltake7 : (a :: l).take 8 = a :: l.take 7 := rfl
theorem lrep7 : List.replicate 8 x = x :: List.replicate 7 x := rfl
theorem lg8 : (a :: l)[9]? = l[8]? := rfl
theorem lset8 : (a :: l).set 9 x = a :: l.set 8 x := rfl
theorem ldrop8 : (a :: l).drop 9 = l.drop 8 := rfl
theorem ltake8 : (a :: l).take 9 = a :: l.take 8 := rfl
theorem lrep8 : List.replicate 9 x = x :: List.replicate 8 x := rfl
theorem lg9 : (a :: l)[10]? = l[9]? := rfl
theorem lset9 : (a :: l).set 10 x = a :: l.set 9 x := rfl
theorem ldrop9 : (a :: l).drop 10 = l.drop 9 := rfl
theorem ltake9 : (a :: l).take 10 = a :: l.take 9 := rfl
theorem lrep9 : List.replicate 10 x = x :: List.replicate 9 x := rfl
theorem lg10 : (a :: l)[11]? = l[10]? := rfl
theorem lset10 : (a :: l).set 11 x = a :: l.set 10 x := rfl
theorem ldrop10 : (a :: l).drop 11 = l.drop 10 := rfl
theorem ltake10 : (a :: l).take 11 = a :: l.take 10 := rfl
theorem lrep10 : List.replicate 11 x = x :: List.replicate 10 x := rfl
theorem lg11 : (a :: l)[12]? = l[11]? := rfl
theorem lset11 : (a :: l).set 12 x = a :: l.set 11 x := rfl
theorem ldrop11 : (a :: l).drop 12 = l.drop 11 := rfl
theorem ltake11 : (a :: l).take 12 = a :: l.take 11 := rfl
theorem lrep11 : List.replicate 12 x = x :: List.replicate 11 x := rfl
theorem lg12 : (a :: l)[13]? = l[12]? := rfl
theorem lset12 : (a :: l).set 13 x = a :: l.set 12 x := rfl
theorem ldrop12 : (a :: l).drop 13 = l.drop 12 := rfl
theorem ltake12 : (a :: l).take 13 = a :: l.take 12 := rfl
theorem lrep12 : List.replicate 13 x = x :: List.replicate 12 x := rfl
theorem lg13 : (a :: l)[14]? = l[13]? := rfl
theorem lset13 : (a :: l).set 14 x = a :: l.set 13 x := rfl
theorem ldrop13 : (a :: l).drop 14 = l.drop 13 := rfl
theorem ltake13 : (a :: l).take 14 = a :: l.take 13 := rfl
theorem lrep13 : List.replicate 14 x = x :: List.replicate 13 x := rfl
theorem lg14 : (a :: l)[15]? = l[14]? := rfl
theorem lset14 : (a :: l).set 15 x = a :: l.set 14 x := rfl
theorem ldrop14 : (a :: l).drop 15 = l.drop 14 := rfl
theorem ltake14 : (a :: l).take 15 = a :: l.take 14 := rfl
theorem lrep14 : List.replicate 15 x = x :: List.replicate 14 x := rfl
theorem lg15 : (a :: l)[16]? = l[15]? := rfl
theorem lset15 : (a :: l).set 16 x = a :: l.set 15 x := rfl
theorem ldrop15 : (a :: l).drop 16 = l.drop 15 := rfl
theorem ltake15 : (a :: l).take 16 = a :: l.take 15 := rfl
theorem lrep15 : List.replicate 16 x = x :: List.replicate 15 x := rfl
theorem lg16 : (a :: l)[17]? = l[16]? := rfl
theorem lset16 : (a :: l).set 17 x = a :: l.set 16 x := rfl
theorem lg17 : (a :: l)[18]? = l[17]? := rfl
theorem lset17 : (a :: l).set 18 x = a :: l.set 17 x := rfl
theorem lg18 : (a :: l)[19]? = l[18]? := rfl
theorem lset18 : (a :: l).set 19 x = a :: l.set 18 x := rfl
theorem lg19 : (a :: l)[20]? = l[19]? := rfl
theorem lset19 : (a :: l).set 20 x = a :: l.set 19 x := rfl
theorem lg20 : (a :: l)[21]? = l[20]? := rfl
theorem lset20 : (a :: l).set 21 x = a :: l.set 20 x := rfl
theorem lg21 : (a :: l)[22]? = l[21]? := rfl
theorem lset21 : (a :: l).set 22 x = a :: l.set 21 x := rfl
theorem lg22 : (a :: l)[23]? = l[22]? := rfl
theorem lset22 : (a :: l).set 23 x = a :: l.set 22 x := rfl
theorem lg23 : (a :: l)[24]? = l[23]? := rfl
theorem lset23 : (a :: l).set 24 x = a :: l.set 23 x := rfl
theorem lg24 : (a :: l)[25]? = l[24]? := rfl
theorem lg25 : (a :: l)[26]? = l[25]? := rfl
theorem lg26 : (a :: l)[27]? = l[26]? := rfl
theorem lg27 : (a :: l)[28]? = l[27]? := rfl
theorem lg28 : (a :: l)[29]? = l[28]? := rfl
theorem lg29 : (a :: l)[30]? = l[29]? := rfl
theorem lg30 : (a :: l)[31]? = l[30]? := rfl
theorem lg31 : (a :: l)[32]? = l[31]? := rfl
theorem lg32 : (a :: l)[33]? = l[32]? := rfl
theorem lg33 : (a :: l)[34]? = l[33]? := rfl
theorem lg34 : (a :: l)[35]? = l[34]? := rfl
theorem lg35 : (a :: l)[36]? = l[35]? := rfl
theorem lg36 : (a :: l)[37]? = l[36]? := rfl
theorem lg37 : (a :: l)[38]? = l[37]? := rfl
theorem lg38 : (a :: l)[39]? = l[38]? := rfl
theorem lg39 : (a :: l)[40]? = l[39]? := rfl
theorem lrep_z : List.replicate 0 x = [] := rfl
end
end Go.Fx
