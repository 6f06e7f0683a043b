import Derived.Test.YtmddpcjkpbjkeaaFxRunOp
set_option linter.unusedVariables false
set_option linter.unusedSimpArgs false
set_option linter.unusedSectionVars false
namespace Go.Fx
open Go.RowKit

/-! ### Equality -/
mutual
def eqVal : Value → Value → Bool
  | .int k a, .int j b => decide (k = j) && decide (a = b)
  | .bool a, .bool b => decide (a = b)
  | .string a, .string b => a == b
  | .slice none 0 0, .slice none 0 0 => true
  | .pointer none, .pointer none => true
  | .map none, .map none => true
  | .tuple a, .tuple b => a.isEmpty && b.isEmpty
  | _, _ => false
end
theorem eqVal_ok {a b : Value} (h : eqVal a b = true) : a = b := by
  unfold eqVal at h
  split at h <;> first
    | (simp only [Bool.and_eq_true, decide_eq_true_eq] at h; obtain ⟨rfl, rfl⟩ := h; rfl)
    | (simp only [decide_eq_true_eq] at h; subst h; rfl)
    | (rw [MapKept.bytes_beq] at h; subst h; rfl)
    | rfl
    | (simp only [Bool.and_eq_true, Array.isEmpty_iff] at h; obtain ⟨rfl, rfl⟩ := h; rfl)
    | cases h

mutual
def eqV : V → V → Bool
  | .any, .any => true
  | .v a, .v b => eqVal a b
  | .ro s e, .ro t f => Nat.beq s t && eqLL e f
  | .bro s e, .bro t f => Nat.beq s t && eqLL e f
  | .full s e, .full t f => Nat.beq s t && eqLL e f
  | .rp s e i j, .rp t f i' j' => (Nat.beq s t && eqLL e f) && (Nat.beq i i' && Nat.beq j j')
  | .sl a b c, .sl a' b' c' => Nat.beq a a' && Nat.beq b b' && Nat.beq c c'
  | .ptr a b c, .ptr a' b' c' => Nat.beq a a' && Nat.beq b b' && Nat.beq c c'
  | .mp a, .mp b => Nat.beq a b
  | .itr a, .itr b => Nat.beq a b
  | .agg a, .agg b => eqL a b
  | .tup a, .tup b => eqL a b
  | .clo f a, .clo g b => decide (f = g) && eqL a b
  | _, _ => false
def eqL : List V → List V → Bool
  | [], [] => true
  | a :: r, b :: s => eqV a b && eqL r s
  | _, _ => false
def eqLL : List (List V) → List (List V) → Bool
  | [], [] => true
  | a :: r, b :: s => eqL a b && eqLL r s
  | _, _ => false
end
mutual
theorem eqV_ok : ∀ {a b : V}, eqV a b = true → a = b
  | .any, b, h => by cases b <;> simp_all [eqV]
  | .v a, b, h => by cases b <;> simp_all [eqV]; exact eqVal_ok h
  | .ro s e, b, h => by cases b <;> simp_all [eqV]; exact eqLL_ok h.2
  | .bro s e, b, h => by cases b <;> simp_all [eqV]; exact eqLL_ok h.2
  | .full s e, b, h => by cases b <;> simp_all [eqV]; exact eqLL_ok h.2
  | .rp s e i j, b, h => by cases b <;> simp_all [eqV]; exact eqLL_ok h.1.2
  | .sl _ _ _, b, h => by cases b <;> simp_all [eqV]
  | .ptr _ _ _, b, h => by cases b <;> simp_all [eqV]
  | .mp _, b, h => by cases b <;> simp_all [eqV]
  | .itr _, b, h => by cases b <;> simp_all [eqV]
  | .agg a, b, h => by cases b <;> simp_all [eqV]; exact eqL_ok h
  | .tup a, b, h => by cases b <;> simp_all [eqV]; exact eqL_ok h
  | .clo f a, b, h => by cases b <;> simp_all [eqV]; exact eqL_ok h.2
theorem eqL_ok : ∀ {a b : List V}, eqL a b = true → a = b
  | [], b, h => by cases b <;> simp_all [eqL]
  | a :: r, b, h => by
    cases b with
    | nil => simp [eqL] at h
    | cons c s => simp only [eqL, Bool.and_eq_true] at h; rw [eqV_ok h.1, eqL_ok h.2]
theorem eqLL_ok : ∀ {a b : List (List V)}, eqLL a b = true → a = b
  | [], b, h => by cases b <;> simp_all [eqLL]
  | a :: r, b, h => by
    cases b with
    | nil => simp [eqLL] at h
    | cons c s => simp only [eqLL, Bool.and_eq_true] at h; rw [eqL_ok h.1, eqLL_ok h.2]
end

def eqMs : List (Value × V × Nat) → List (Value × V × Nat) → Bool
  | [], [] => true
  | a :: r, b :: s => (eqVal a.1 b.1 && eqV a.2.1 b.2.1 && Nat.beq a.2.2 b.2.2) && eqMs r s
  | _, _ => false
theorem eqMs_ok : ∀ {a b : List (Value × V × Nat)}, eqMs a b = true → a = b
  | [], b, h => by cases b <;> simp_all [eqMs]
  | (k, v, n) :: r, b, h => by
    cases b with
    | nil => simp [eqMs] at h
    | cons c s =>
      obtain ⟨k', v', n'⟩ := c
      simp only [eqMs, Bool.and_eq_true, Nat.beq_eq] at h
      obtain ⟨⟨⟨h1, h2⟩, h3⟩, h4⟩ := h
      rw [eqVal_ok h1, eqV_ok h2, h3, eqMs_ok h4]
def eqNs : List Nat → List Nat → Bool
  | [], [] => true
  | a :: r, b :: s => Nat.beq a b && eqNs r s
  | _, _ => false
theorem eqNs_ok : ∀ {a b : List Nat}, eqNs a b = true → a = b
  | [], b, h => by cases b <;> simp_all [eqNs]
  | a :: r, b, h => by
    cases b with
    | nil => simp [eqNs] at h
    | cons c s => simp only [eqNs, Bool.and_eq_true, Nat.beq_eq] at h; rw [h.1, eqNs_ok h.2]
def eqB : Blk → Blk → Bool
  | .dead, .dead => true
  | .arr s e, .arr t f => Nat.beq s t && eqLL e f
  | .arv s e, .arv t f => Nat.beq s t && eqLL e f
  | .var a, .var b => eqL a b
  | .map a c, .map b d => eqMs a b && Nat.beq c d
  | .it m a b c, .it m' a' b' c' => (eqV m m' && Nat.beq a a') && (eqNs b b' && Nat.beq c c')
  | _, _ => false
theorem eqB_ok {a b : Blk} (h : eqB a b = true) : a = b := by
  cases a <;> cases b <;> simp_all [eqB]
  · exact eqLL_ok h.2
  · exact eqL_ok h
  · exact eqLL_ok h.2
  · exact eqMs_ok h.1
  · exact ⟨eqV_ok h.1.1, eqNs_ok h.2.1⟩

/-! ### Weaker states -/
def Tr.join : Tr → Tr → Tr
  | .lf, _ => .lf
  | _, .lf => .lf
  | .nd v l r, .nd v' l' r' => .nd (if eqV v v' then v else .any) (l.join l') (r.join r')

def joinH : List Blk → List Blk → List Blk
  | b :: r, c :: s => (if eqB b c then b else .dead) :: joinH r s
  | _, _ => []

/-- What is named and not there is forgotten. -/
def deads (h : List Blk) : Nat → List Blk → List Nat
  | _, [] => []
  | i, .dead :: r => i :: deads h (i + 1) r
  | i, _ :: r => deads h (i + 1) r

def Tr.namesT : Tr → List Nat
  | .lf => []
  | .nd v l r => namesV v ++ (l.namesT ++ r.namesT)

def gone (h : List Blk) : List Nat → List Nat
  | [] => []
  | k :: r => if liveB h k then gone h r else k :: gone h r

def Tr.wf (h : List Blk) : Tr → Bool
  | .lf => true
  | .nd v l r => wfVB h v && (l.wf h && r.wf h)

def leTB : Tr → Tr → Bool
  | _, .lf => true
  | .nd v l r, .nd v' l' r' => ((match v' with | .any => true | _ => eqV v v') && leTB l l') && leTB r r'
  | .lf, .nd v' l' r' => ((match v' with | .any => true | _ => false) && leTB .lf l') && leTB .lf r'

def leVsB : List V → List V → Bool
  | [], [] => true
  | x :: xs, y :: ys => (match y with | .any => true | _ => eqV x y) && leVsB xs ys
  | _, _ => false
def leBB (b c : Blk) : Bool :=
  match c with
  | .dead => true
  | .var ys => match b with
    | .var xs => leVsB xs ys
    | _ => false
  | c => eqB b c
def leHB : List Blk → List Blk → Bool
  | _, [] => true
  | b :: h, c :: p => leBB b c && leHB h p
  | [], _ :: _ => false

abbrev Pt := Tr × List Blk

/-- One state for several. -/
def joinD (fx : List Nat) (outs : List Pt) : Option (List Pt) :=
  match outs with
  | [] => some []
  | [p] => some [p]
  | p :: r =>
    let E := r.foldl (fun E q => E.join q.1) p.1
    let h := r.foldl (fun h q => joinH h q.2) p.2
    let M := gone h (E.namesT ++ (h.map namesB).flatten)
    let E' := E.kill M
    let h' := h.map (killB M)
    if (outs.all fun q => leTB q.1 E' && leHB q.2 h') && (keepB h' fx && (E'.wf h' && wfBB h' h')) then some [(E', h')] else none

/-! ### The run -/
inductive Out where
  | normal (p : Pt)
  | exit (j : Nat) (p : Pt)
  | ret (p : Pt)

def goL {α β : Type} (f : α → Option (List β)) : List α → Option (List β)
  | [] => some []
  | [x] => f x
  | x :: r => match f x, goL f r with
    | some a, some b => some (a ++ b)
    | _, _ => none
def bindL {α β : Type} (l : Option (List α)) (f : α → Option (List β)) : Option (List β) :=
  match l with
  | none => none
  | some xs => goL f xs

def putT (E : Tr) (d : Option Nat) (x : V) : Tr :=
  match d with
  | none => E
  | some d => forceV x fun x => Tr.put (d + 1) E d x
mutual
/-- Under other numbers; what was lent stays. -/
def renK (g : Nat → Option Nat) : V → V
  | .sl k i n => match g k with
    | some j => .sl j i n
    | none => .any
  | .ptr k i f => match g k with
    | some j => .ptr j i f
    | none => .any
  | .mp k => match g k with
    | some j => .mp j
    | none => .any
  | .itr _ => .any
  | .agg cs => .agg (rensK g cs)
  | .tup cs => .tup (rensK g cs)
  | .clo f cs => .clo f (rensK g cs)
  | x => x
def rensK (g : Nat → Option Nat) : List V → List V
  | [] => []
  | x :: r => renK g x :: rensK g r
end
def renBK (g : Nat → Option Nat) : Blk → Blk
  | .var cs => .var (rensK g cs)
  | .arv sz els => .arv sz (els.map (rensK g))
  | .map es c => .map (es.map fun e => (e.1, renK g e.2.1, e.2.2)) c
  | .it m s sn l => .it (renK g m) s sn l
  | b => b

def Tr.ren (g : Nat → Option Nat) : Tr → Tr
  | .lf => .lf
  | .nd v l r => .nd (renK g v) (l.ren g) (r.ren g)

/-- The numbers of the blocks that are kept: the first ones in their places. -/
def keepN (n : Nat) (h : List Blk) (names : List Nat) : List Nat :=
  List.range n ++ (reach h 5000 (names ++ List.range n) []).filter fun k => !(Nat.blt k n)

def numB (L : List Nat) (h : List Blk) (n : Nat) : Bool :=
  nodupB L && (L.all fun k => Nat.blt k h.length) && Nat.ble n h.length

/-- Blocks that nothing names any more are let go, the others are numbered anew. -/
def gcK (fx : List Nat) (n : Nat) (p : Pt) (L : List Nat) : Option Pt :=
  let h := L.map fun k => renBK (pos L) (blk p.2 k)
  if numB L p.2 n && keepB h fx then some (p.1.ren (pos L), h) else none
def gcD (fx : List Nat) (n : Nat) (p : Pt) : Option Pt :=
  match Nat.blt p.2.length (n + 40) with
  | true => some p
  | false => gcK fx n p (keepN n p.2 p.1.namesT)

section
variable (call : CallD) (mvf : FuncId → Bool) (fx : List Nat) (n0 : Nat)

def runD (bn : List Nat) (o : LOper) (b : Nat) (p : Pt) : Option (List Pt) :=
  match opD call mvf fx bn o.op p.1 p.2 b with
  | none => none
  | some rs => some (rs.map fun r => (putT r.E o.dst r.x, r.h))
def operD (bn : List Nat) (o : LOper) (b : Nat) (p : Pt) : Option (List Pt) :=
  match o.g with
  | none => runD call mvf fx bn o b p
  | some (g, want) => match p.1.get g with
    | .v (.bool t) => if t = want then runD call mvf fx bn o b p else some [(putT p.1 o.dst (.v (.tuple #[])), p.2)]
    | .v (.tuple _) => some [(putT p.1 o.dst (.v (.tuple #[])), p.2)]
    | _ => none
def opsD (b : Nat) : List LOper → Pt → Option (List Pt)
  | [], p => some [p]
  | o :: r, p => bindL (operD call mvf fx [] o b p) (opsD b r)
def rdT (o : LOp) (E : Tr) (bn : List Nat) : List Nat :=
  match o with
  | .load _ a => match evT E a with
    | .ptr k _ _ => k :: bn
    | _ => bn
  | _ => bn
def planD (b : Nat) : LPlan → List Nat → Pt → Option (List Pt)
  | .done, _, p => some [p]
  | .take _ _ o q, bn, p => bindL (operD call mvf fx [] o b p) (planD b q (rdT o.op p.1 bn))
  | .alt _ o r q q', bn, p => match bindL (operD call mvf fx (if r then bn else []) o b p) (planD b q (if r then bn else [])), planD b q' bn p with
    | some x, some y => some (x ++ y)
    | _, _ => none
  | .none, _, _ => some []

def norms : List Out → List Pt
  | [] => []
  | .normal p :: r => p :: norms r
  | _ :: r => norms r
def others : List Out → List Out
  | [] => []
  | .normal _ :: r => others r
  | o :: r => o :: others r
/-- .. and then. -/
def andD (l : Option (List Out)) (f : Pt → Option (List Out)) : Option (List Out) :=
  bindL l fun o => match o with
    | .normal p => f p
    | o => some [o]
def leave (id : Nat) : Out → Out
  | .exit j p => if j = id then .normal p else .exit j p
  | o => o
def blockD (id : Nat) (l : Option (List Out)) : Option (List Out) :=
  match l with
  | none => none
  | some outs => match joinD fx (norms (outs.map (leave id))) with
    | none => none
    | some ps => some (ps.map .normal ++ others (outs.map (leave id)))
def loopD (f : Pt → Option (List Out)) : Nat → Pt → Option (List Out)
  | 0, _ => none
  | n + 1, p => match gcD fx n0 p with
    | some p => andD (f p) (loopD f n)
    | none => none
/-- Room for what is made. -/
def roomD (n : Nat) (h : List Blk) : List Blk :=
  match n with
  | 0 => h
  | n + 1 => h ++ List.replicate (n + 1) .dead

def cw : LCode → Pt → Option (List Out)
  | .skip, p => some [.normal p]
  | .reg n ops, p => (opsD call mvf fx p.2.length ops (p.1, roomD n p.2)).map (·.map .normal)
  | .tail _ n ops, p => (opsD call mvf fx p.2.length ops (p.1, roomD n p.2)).map (·.map .normal)
  | .qui n ops, p => (opsD call mvf fx p.2.length ops (p.1, roomD n p.2)).map (·.map .normal)
  | .tree n q, p => match planD call mvf fx p.2.length q [] (p.1, roomD n p.2) with
    | none => none
    | some ps => (joinD fx ps).map (·.map .normal)
  | .seq a b, p => andD (cw a p) (cw b)
  | .cond c a b, p => match evT p.1 c with
    | .v (.bool true) => cw a p
    | .v (.bool false) => cw b p
    | _ => none
  | .block id c, p => blockD fx id (cw c p)
  | .loop c, p => loopD fx n0 (cw c) 3000 p
  | .exit j, p => some [.exit j p]
  | .ret, p => some [.ret p]
  | .bad, _ => none
  | .frz xs c, p => match frzD fx xs p with
    | some p => cw c p
    | none => none
end

def resD (p : Pt) : List LRes → Option (List V)
  | [] => some []
  | .tmp t :: r => match resD p r with
    | some xs => some (p.1.get t :: xs)
    | none => none
  | .cell a n :: r => match loadD p.2 n (p.1.get a), resD p r with
    | some x, some xs => some (x :: xs)
    | _, _ => none

def argsT : Nat → List V → Tr → Tr
  | _, [], E => E
  | i, x :: r, E => argsT (i + 1) r (putT E (some i) x)

def finD (fx : List Nat) (n : Nat) (rs : List LRes) (p : Pt) : Option (V × List Blk) :=
  match resD p rs with
  | none => none
  | some xs =>
    let L := keepN n p.2 (namesL xs)
    let h := L.map fun k => renBK (pos L) (blk p.2 k)
    if numB L p.2 n && keepB h fx then some (renK (pos L) (tupV xs), h) else none

def endD (fx : List Nat) (n : Nat) (rs : List LRes) (outs : List Out) : Option (V × List Blk) :=
  match outs with
  | [.normal p] => finD fx n rs p
  | [.ret p] => finD fx n rs p
  | _ => none

/-- What a call is known to give. -/
structure Memo where
  f : FuncId
  as : List V
  h0 : List Blk
  r : V
  h : List Blk

def eqBs : List Blk → List Blk → Bool
  | [], [] => true
  | a :: r, b :: s => eqB a b && eqBs r s
  | _, _ => false
theorem eqBs_ok : ∀ {a b : List Blk}, eqBs a b = true → a = b
  | [], b, h => by cases b <;> simp_all [eqBs]
  | a :: r, b, h => by
    cases b with
    | nil => simp [eqBs] at h
    | cons c s => simp only [eqBs, Bool.and_eq_true] at h; rw [eqB_ok h.1, eqBs_ok h.2]

def findM (f : FuncId) (as : List V) (h0 : List Blk) : List Memo → Option (V × List Blk)
  | [] => none
  | m :: r => if Nat.beq m.f f && (eqL m.as as && eqBs m.h0 h0) then some (m.r, m.h) else findM f as h0 r

def bodyD (call : CallD) (mvf : FuncId → Bool) (en : Ent) (as : List V) (h0 : List Blk) (mv fx : List Nat) : Option (V × List Blk) :=
  if decide (as.length ≤ en.nt) && keepB h0 fx then
    match cw call mvf fx h0.length en.code (argsT 0 as .lf, h0) with
    | some outs => endD fx h0.length en.rs outs
    | none => none
  else none

def fnD (T : List (Option Ent)) (M : List Memo) : Nat → CallD
  | 0 => fun _ _ _ _ => none
  | d + 1 => fun f as h0 mv => match (if mv.isEmpty then findM f as h0 M else none) with
    | some x => some x
    | none => match T[f]? with
      | some (some en) => bodyD (fnD T M d) (fun g => match T[g]? with | some (some e) => e.mv | _ => false) en as h0 mv ((List.range h0.length).filter fun k => !(hasN mv k))
      | _ => none

/-- The run gives this. -/
def givesB (x : Option (V × List Blk)) (r : V) (h : List Blk) : Bool :=
  match x with
  | some (r', h') => eqV r' r && eqBs h' h
  | none => false
theorem givesB_ok {x : Option (V × List Blk)} {r : V} {h : List Blk} (hx : givesB x r h = true) : x = some (r, h) := by
  unfold givesB at hx
  split at hx
  · simp only [Bool.and_eq_true] at hx
    rw [eqV_ok hx.1, eqBs_ok hx.2]
  · cases hx
end Go.Fx
