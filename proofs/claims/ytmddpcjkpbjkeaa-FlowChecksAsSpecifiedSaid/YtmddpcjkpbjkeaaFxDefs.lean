import Derived.StillTail
import Derived.Deep.Quiet
set_option linter.unusedVariables false
set_option linter.unusedSimpArgs false
set_option linter.unusedSectionVars false
namespace Go.Fx

/-- An abstract value. -/
inductive V where
  | any
  | v (x : Value)
  | ro (sz : Nat) (els : List (List V))
  | bro (sz : Nat) (els : List (List V))
  | full (sz : Nat) (els : List (List V))
  | sl (k i n : Nat)
  | ptr (k i f : Nat)
  | rp (sz : Nat) (els : List (List V)) (i f : Nat)
  | agg (cs : List V)
  | tup (vs : List V)
  | clo (f : FuncId) (caps : List V)
  | mp (k : Nat)
  | itr (k : Nat)
  deriving Inhabited

abbrev V.i (n : Int) : V := .v (.int .i64 n)
abbrev V.b (x : Bool) : V := .v (.bool x)
abbrev V.nil : V := .v (.slice none 0 0)

/-- An abstract block. -/
inductive Blk where
  | dead
  | arr (sz : Nat) (els : List (List V))
  | var (cs : List V)
  | arv (sz : Nat) (els : List (List V))
  | map (es : List (Value × V × Nat)) (clock : Nat)
  | it (m : V) (since : Nat) (seen : List Nat) (last : Nat)
  deriving Inhabited

abbrev Env := List (Nat × V)

structure St where
  e : Env
  h : List Blk
  b : Nat := 0

def get : Env → Nat → V
  | [], _ => .any
  | (j, x) :: r, i => if i = j then x else get r i

def ofConst : Value → V
  | .agg cs => .agg (cs.toList.map .v)
  | x => .v x

def ev (e : Env) : Operand → V
  | .tmp t => get e t
  | .const c => ofConst c
  | .func f => .clo f []
  | .global _ => .any

def St.put (s : St) : Option Nat → V → St
  | some d, x => { s with e := (d, x) :: s.e }
  | none, _ => s

def blk (h : List Blk) (k : Nat) : Blk := h.getD k .dead

/-- The cells of a value. -/
def cells? : V → Option (List V)
  | .agg cs => some cs
  | .v (.agg cs) => some (cs.toList.map .v)
  | .v (.tuple _) => none
  | .any => none
  | .tup _ => none
  | x => some [x]

/-- One cell of plain data. -/
def isD : V → Bool
  | .v (.agg _) => false
  | .v (.tuple _) => false
  | .v _ => true
  | .ro _ _ => true
  | _ => false

/-- One cell's values. -/
def isC : V → Bool
  | .v (.agg _) => false
  | .v (.tuple _) => false
  | .any => false
  | .agg _ => false
  | .tup _ => false
  | .itr _ => false
  | _ => true

mutual
/-- What names one of these blocks is forgotten. -/
def kill (M : List Nat) : V → V
  | .sl j i n => if j ∈ M then .any else .sl j i n
  | .ptr j i f => if j ∈ M then .any else .ptr j i f
  | .mp j => if j ∈ M then .any else .mp j
  | .itr j => if j ∈ M then .any else .itr j
  | .agg cs => .agg (kills M cs)
  | .tup cs => .tup (kills M cs)
  | .clo f cs => .clo f (kills M cs)
  | x => x
def kills (M : List Nat) : List V → List V
  | [] => []
  | x :: r => kill M x :: kills M r
end

def killE (M : List Nat) : Env → Env
  | [] => []
  | (j, x) :: r => (j, kill M x) :: killE M r

def killB (M : List Nat) : Blk → Blk
  | .var cs => .var (kills M cs)
  | .arv sz els => .arv sz (els.map (kills M))
  | .map es c => .map (es.map fun e => (e.1, kill M e.2.1, e.2.2)) c
  | .it m s sn l => .it (kill M m) s sn l
  | b => b

def St.kill (s : St) (M : List Nat) : St := { s with e := killE M s.e, h := s.h.map (killB M) }

/-- The elements that a slice shows. -/
def view (h : List Blk) : V → Option (Nat × List (List V))
  | .sl k i n => match blk h k with
    | .arr sz els => some (sz, (els.drop i).take n)
    | _ => none
  | .ro sz els => some (sz, els)
  | .bro sz els => some (sz, els)
  | .full sz els => some (sz, els)
  | .v (.slice none 0 0) => some (0, [])
  | _ => none

def splice (cs : List V) (f : Nat) (new : List V) : List V := cs.take f ++ new ++ cs.drop (f + new.length)

def lo : IntKind → Int
  | .i8 => -128 | .i16 => -32768 | .i32 => -2147483648 | .i64 => -9223372036854775808
  | _ => 0
def hi : IntKind → Int
  | .i8 => 127 | .i16 => 32767 | .i32 => 2147483647 | .i64 => 9223372036854775807
  | .u8 => 255 | .u16 => 65535 | .u32 => 4294967295 | .u64 => 18446744073709551615

/-- An operation, with what the program's tables say of its types. -/
inductive LOp where
  | mov (x : Operand)
  | pick (c a b : Operand)
  | box (j : Nat) (x : Operand)
  | alloc (j : Nat) (z : Value)
  | load (n : Option Nat) (a : Operand)
  | store (n : Nat) (a x : Operand)
  | nilc (x : Operand)
  | fld (off : Nat) (x : Operand)
  | idx (sz : Nat) (x i : Operand)
  | field (off : Nat) (n : Option Nat) (x : Operand)
  | bin (op : BinOp) (ex : Bool) (x y : Operand)
  | eqb (neg : Bool) (x y : Operand)
  | eqf (neg : Bool) (ks : List (Nat × TypeDesc)) (x y : Operand)
  | eqn (neg : Bool) (x y : Operand)
  | not (x : Operand)
  | neg (x : Operand)
  | conv (ex : Bool) (k : IntKind) (x : Operand)
  | len (x : Operand)
  | lens (x : Operand)
  | mk (j : Nat) (sz bytes : Nat) (z : List Value) (l c : Operand)
  | mkv (j : Nat) (sz bytes : Nat) (z : List Value) (l c : Operand)
  | mkmap (j : Nat) (r : Option Operand)
  | lookup (kd : TypeDesc) (z : Value) (ok : Bool) (m k : Operand)
  | mset (kd : TypeDesc) (m k x : Operand)
  | mdel (kd : TypeDesc) (m k : Operand)
  | mlen (m : Operand)
  | range (j : Nat) (m : Operand)
  | next (i : Operand)
  | entry (i : Operand)
  | slice (sz : Nat) (x : Operand) (l h m : Option Operand)
  | append (j : Nat) (sz bytes : Nat) (x y : Operand)
  | copy (sz : Nat) (x y : Operand)
  | minmax (mx : Bool) (x y : Operand)
  | build (z : List Value) (ps : List (Nat × Nat × Operand))
  | lits (j : Nat) (sz n : Nat) (z : List Value) (ps : List (Nat × Operand))
  | litsf (xs : List Nat) (j : Nat) (sz n : Nat) (z : List Value) (ps : List (Nat × Operand))
  | call (f : FuncId) (xs : List Operand)
  | callv (f : Operand) (xs : List Operand)
  | ext (x : Operand) (i : Nat)
  | fn (f : FuncId) (caps : List Operand)
  | iface (t : TypeId) (x : Operand)
  | panic
  | shift (op : BinOp) (x y : Operand)
  | bad
  deriving Inhabited

structure LOper where
  dst : Option Nat
  op : LOp
  g : Option (Nat × Bool) := none
  deriving Inhabited

/-- How a region whose order is drawn is gone through: what is taken first, and what may come next. -/
inductive LPlan where
  | done
  | take (i : Nat) (D : List Nat) (o : LOper) (p : LPlan)
  | alt (i : Nat) (o : LOper) (r : Bool) (p q : LPlan)
  | none
  deriving Inhabited

inductive LCode where
  | skip
  | reg (n : Nat) (ops : List LOper)
  | tail (m n : Nat) (ops : List LOper)
  | qui (n : Nat) (ops : List LOper)
  | tree (n : Nat) (p : LPlan)
  | seq (a b : LCode)
  | cond (c : Operand) (a b : LCode)
  | block (id : Nat) (c : LCode)
  | loop (c : LCode)
  | exit (id : Nat)
  | ret
  | bad
  | frz (xs : List Nat) (c : LCode)
  deriving Inhabited

/-- A test: both ways, each under its fact. -/
def br (t : Bool) (A B : Prop) : Prop := (t = true → A) ∧ (t = false → B)

def brV (c : V) (A B : Prop) : Prop :=
  match c with
  | .v (.bool t) => br t A B
  | _ => False

def optK {α : Type} (o : Option α) (K : α → Prop) : Prop :=
  match o with
  | some x => K x
  | none => False

def intK (x : V) (K : IntKind → Int → Prop) : Prop :=
  match x with
  | .v (.int k a) => K k a
  | _ => False

def binInt (op : BinOp) (ex : Bool) (k : IntKind) (a b : Int) (K : V → Prop) : Prop :=
  match op with
  | .add => if ex then (lo k ≤ a + b ∧ a + b ≤ hi k) ∧ K (.v (.int k (a + b))) else K (.v (.int k (k.wrap (a + b))))
  | .sub => if ex then (lo k ≤ a - b ∧ a - b ≤ hi k) ∧ K (.v (.int k (a - b))) else K (.v (.int k (k.wrap (a - b))))
  | .mul => if ex then (lo k ≤ a * b ∧ a * b ≤ hi k) ∧ K (.v (.int k (a * b))) else K (.v (.int k (k.wrap (a * b))))
  | .eql => K (.b (a == b))
  | .neq => K (.b (a != b))
  | .lss => K (.b (decide (a < b)))
  | .leq => K (.b (decide (a ≤ b)))
  | .gtr => K (.b (decide (b < a)))
  | .geq => K (.b (decide (b ≤ a)))
  | .quo => b ≠ 0 ∧ (if ex then (lo k ≤ a.tdiv b ∧ a.tdiv b ≤ hi k) ∧ K (.v (.int k (a.tdiv b))) else K (.v (.int k (k.wrap (a.tdiv b)))))
  | .rem => b ≠ 0 ∧ K (.v (.int k (a.tmod b)))
  | .and => K (.v (.int k (k.wrap ((BitVec.ofInt k.bits a &&& BitVec.ofInt k.bits b).toNat : Int))))
  | .or => K (.v (.int k (k.wrap ((BitVec.ofInt k.bits a ||| BitVec.ofInt k.bits b).toNat : Int))))
  | .xor => K (.v (.int k (k.wrap ((BitVec.ofInt k.bits a ^^^ BitVec.ofInt k.bits b).toNat : Int))))
  | .andNot => K (.v (.int k (k.wrap ((BitVec.ofInt k.bits a &&& ~~~(BitVec.ofInt k.bits b)).toNat : Int))))
  | _ => False

def shiftInt (op : BinOp) (k : IntKind) (a b : Int) (K : V → Prop) : Prop :=
  match op with
  | .shl => 0 ≤ b ∧ K (.v (.int k (k.wrap (a * 2 ^ (min b.toNat k.bits)))))
  | .shr => 0 ≤ b ∧ K (.v (.int k (a.fdiv (2 ^ (min b.toNat k.bits)))))
  | _ => False

/-- The relation that a function's contract gives: 'Fn P f args h0 mv R'; a parameter here. -/
abbrev Ctr := FuncId → List V → List Blk → List Nat → (V → List Blk → Prop) → Prop

/-- The contracts at hand, and the blocks that must stay where they lie. -/
structure Cx where
  C : Ctr
  fx : List Nat
  bn : List Nat := []

def pos : List Nat → Nat → Option Nat
  | [], _ => none
  | x :: r, k => if k = x then some 0 else (pos r k).map (· + 1)

mutual
/-- Blocks under other numbers; what was lent is forgotten. -/
def ren (g : Nat → Option Nat) : V → V
  | .sl k i n => match g k with
    | some j => .sl j i n
    | none => .any
  | .ptr k i f => match g k with
    | some j => .ptr j i f
    | none => .any
  | .mp k => match g k with
    | some j => .mp j
    | none => .any
  | .itr _ => .any
  | .bro _ _ => .any
  | .full _ _ => .any
  | .rp _ _ _ _ => .any
  | .agg cs => .agg (rens g cs)
  | .tup cs => .tup (rens g cs)
  | .clo f cs => .clo f (rens g cs)
  | .any => .any
  | .v x => .v x
  | .ro sz els => .ro sz els
def rens (g : Nat → Option Nat) : List V → List V
  | [] => []
  | x :: r => ren g x :: rens g r
end

mutual
/-- As the callee gets it: own blocks that it gets under its own numbers; other own slices are lent. -/
def lend (h : List Blk) (g : Nat → Option Nat) : V → V
  | .sl k i n => match g k with
    | some j => .sl j i n
    | none => match blk h k with
      | .arr sz els => .bro sz ((els.drop i).take n)
      | _ => .any
  | .ptr k i f => match g k with
    | some j => .ptr j i f
    | none => .any
  | .mp k => match g k with
    | some j => .mp j
    | none => .any
  | .itr _ => .any
  | .agg cs => .agg (lends h g cs)
  | .tup cs => .tup (lends h g cs)
  | .clo f cs => .clo f (lends h g cs)
  | .any => .any
  | .v x => .v x
  | .ro sz els => .ro sz els
  | .bro sz els => .bro sz els
  | .full sz els => .full sz els
  | .rp sz els i f => .rp sz els i f
def lends (h : List Blk) (g : Nat → Option Nat) : List V → List V
  | [] => []
  | x :: r => lend h g x :: lends h g r
end

mutual
/-- What is lent is there. -/
def lendOk (h : List Blk) (g : Nat → Option Nat) : V → Prop
  | .sl k i n => match g k with
    | some _ => True
    | none => match blk h k with
      | .arr _ els => i + n ≤ els.length
      | _ => True
  | .agg cs => lendsOk h g cs
  | .tup cs => lendsOk h g cs
  | .clo _ cs => lendsOk h g cs
  | _ => True
def lendsOk (h : List Blk) (g : Nat → Option Nat) : List V → Prop
  | [] => True
  | x :: r => lendOk h g x ∧ lendsOk h g r
end

def renB (g : Nat → Option Nat) : Blk → Blk
  | .var cs => .var (rens g cs)
  | .arr sz els => .arr sz els
  | .dead => .dead
  | .arv sz els => .arv sz (els.map (rens g))
  | .map es c => .map (es.map fun e => (e.1, ren g e.2.1, e.2.2)) c
  | .it m s sn l => .it (ren g m) s sn l

def wkB (x : V) (s : Nat) (e : List (List V)) : Prop :=
  match x with
  | .bro s' e' => s' = s ∧ e' = e
  | .ro s' e' => s' = s ∧ e' = e
  | .full s' e' => s' = s ∧ e' = e
  | .v (.slice none 0 0) => e = []
  | _ => False
def wkR (x : V) (s : Nat) (e : List (List V)) : Prop :=
  match x with
  | .ro s' e' => s' = s ∧ e' = e
  | .v (.slice none 0 0) => e = []
  | _ => False

mutual
/-- y says no more than x. -/
def wk : V → V → Prop
  | .any, _ => True
  | .bro s e, x => wkB x s e
  | .ro s e, x => wkR x s e
  | .agg ys, .agg xs => wkL ys xs
  | .tup ys, .tup xs => wkL ys xs
  | .clo f ys, .clo g xs => g = f ∧ wkL ys xs
  | .agg _, _ => False
  | .tup _, _ => False
  | .clo _ _, _ => False
  | .v y, x => x = .v y
  | .full s e, x => x = .full s e
  | .sl k i n, x => x = .sl k i n
  | .ptr k i f, x => x = .ptr k i f
  | .rp s e i f, x => x = .rp s e i f
  | .mp k, x => x = .mp k
  | .itr k, x => x = .itr k
def wkL : List V → List V → Prop
  | [], [] => True
  | y :: ys, x :: xs => wk y x ∧ wkL ys xs
  | _, _ => False
end

/-- The number, for the caller, of the callee's block j: 'ι' are the blocks handed on, 'n' how many the caller has. -/
def back (ι : List Nat) (n : Nat) (j : Nat) : Option Nat :=
  match ι[j]? with
  | some k => some k
  | none => some (n + (j - ι.length))

def setAll : List Nat → List Blk → List Blk → List Blk
  | k :: ι, b :: bs, h => setAll ι bs (h.set k b)
  | [], bs, h => h ++ bs
  | _ :: _, [], h => h

def liveP (h : List Blk) (k : Nat) : Prop :=
  match h[k]? with
  | some .dead => False
  | some _ => True
  | none => False

def keepP : List Nat → List Blk → Prop
  | [], _ => True
  | k :: r, h => liveP h k ∧ keepP r h

/-- A call: 'ι': the own blocks that the callee may write. -/
def callP (cx : Cx) (f : FuncId) (args : List V) (s : St) (K : V → St → Prop) : Prop :=
  ∃ (ι : List Nat) (as : List V) (mv : List Nat) (R : V → List Blk → Prop),
    ((ι.Nodup ∧ ∀ k ∈ ι, k < s.h.length ∧ k ∉ cx.bn) ∧ (∀ j ∈ mv, ∀ k, ι[j]? = some k → k ∉ cx.fx)) ∧
    lendsOk s.h (pos ι) args ∧ wkL as (lends s.h (pos ι) args) ∧
    cx.C f as (ι.map fun k => renB (pos ι) (blk s.h k)) mv R ∧
    ∀ r h', R r h' → ι.length ≤ h'.length →
      keepP cx.fx (setAll ι (h'.map (renB (back ι s.h.length))) (s.h.map (killB (mv.filterMap (ι[·]?))))) ∧
      K (ren (back ι s.h.length) r)
        { s with e := killE (mv.filterMap (ι[·]?)) s.e, h := setAll ι (h'.map (renB (back ι s.h.length))) (s.h.map (killB (mv.filterMap (ι[·]?)))) }

def loadCs (n : Option Nat) (f : Nat) (cs : List V) (K : V → Prop) : Prop :=
  match n with
  | none => optK cs[f]? K
  | some m => f + m ≤ cs.length ∧ K (.agg ((cs.drop f).take m))

def loadB (n : Option Nat) (i f : Nat) (b : Blk) (K : V → Prop) : Prop :=
  match b with
  | .var cs => loadCs n f cs K
  | .arr _ els => ∃ hi : i < els.length, loadCs n f (els[i]'hi) K
  | .arv _ els => ∃ hi : i < els.length, loadCs n f (els[i]'hi) K
  | _ => False

def loadP (h : List Blk) (n : Option Nat) (p : V) (K : V → Prop) : Prop :=
  match p with
  | .ptr k i f => loadB n i f (blk h k) K
  | .rp _ els i f => ∃ hi : i < els.length, loadCs n f (els[i]'hi) K
  | _ => False

def storeB (n : Nat) (i f : Nat) (cs : List V) (b : Blk) (K : Blk → Prop) : Prop :=
  match b with
  | .var old => (f + n ≤ old.length) ∧ K (.var (splice old f cs))
  | .arr sz els => (f + n ≤ sz ∧ cs.all isD = true) ∧ ∃ hi : i < els.length, K (.arr sz (els.set i (splice (els[i]'hi) f cs)))
  | .arv sz els => (f + n ≤ sz) ∧ ∃ hi : i < els.length, K (.arv sz (els.set i (splice (els[i]'hi) f cs)))
  | _ => False

def storeP (bn : List Nat) (h : List Blk) (n : Nat) (p : V) (cs : List V) (K : List Blk → Prop) : Prop :=
  match p with
  | .ptr k i f => (cs.length = n ∧ k ∉ bn) ∧ cs.all isC = true ∧ storeB n i f cs (blk h k) fun b => K (h.set k b)
  | _ => False

def fldP (off : Nat) (x : V) (K : V → Prop) : Prop :=
  match x with
  | .ptr k i f => K (.ptr k i (f + off))
  | .rp sz els i f => K (.rp sz els i (f + off))
  | _ => False

def arrSz (z : Nat) (b : Blk) : Prop :=
  match b with
  | .arr s _ => s = z
  | .arv s _ => s = z
  | _ => False

def idxP (h : List Blk) (z : Nat) (n : Int) (x : V) (K : V → Prop) : Prop :=
  match x with
  | .sl k i0 m => arrSz z (blk h k) ∧ (0 ≤ n ∧ n < m) ∧ K (.ptr k (i0 + n.toNat) 0)
  | .ro sz els => sz = z ∧ (0 ≤ n ∧ n < els.length) ∧ K (.rp sz els n.toNat 0)
  | .bro sz els => sz = z ∧ (0 ≤ n ∧ n < els.length) ∧ K (.rp sz els n.toNat 0)
  | .full sz els => sz = z ∧ (0 ≤ n ∧ n < els.length) ∧ K (.rp sz els n.toNat 0)
  | _ => False

def lenP (x : V) (K : V → Prop) : Prop :=
  match x with
  | .sl _ _ n => n ≤ maxLen → K (.i n)
  | .ro _ els => els.length ≤ maxLen → K (.i els.length)
  | .bro _ els => els.length ≤ maxLen → K (.i els.length)
  | .full _ els => els.length ≤ maxLen → K (.i els.length)
  | .v (.slice none 0 0) => K (.i 0)
  | _ => False

def lensP (x : V) (K : V → Prop) : Prop :=
  match x with
  | .v (.string t) => K (.i t.size)
  | _ => False

def boolK (x : V) (K : Bool → Prop) : Prop :=
  match x with
  | .v (.bool t) => K t
  | _ => False

/-- The elements that a slice shows, for who reads them. -/
def viewK (h : List Blk) (x : V) (K : Nat → List (List V) → Prop) : Prop :=
  match x with
  | .sl k i n => match blk h k with
    | .arr sz els => i + n ≤ els.length ∧ K sz ((els.drop i).take n)
    | _ => False
  | .ro sz els => K sz els
  | .bro sz els => K sz els
  | .full sz els => K sz els
  | .v (.slice none 0 0) => K 0 []
  | _ => False

def optI (o : Option V) (K : Option Int → Prop) : Prop :=
  match o with
  | none => K none
  | some (.v (.int _ n)) => K (some n)
  | some _ => False

/-- The bounds of a slice expression: from l to u, with the new capacity's end m. -/
def slcOk (n : Nat) (l u m : Option Int) : Prop :=
  (0 ≤ l.getD 0 ∧ l.getD 0 ≤ u.getD n) ∧ u.getD n ≤ m.getD n ∧ m.getD n ≤ n

def slcP (h : List Blk) (z : Nat) (x : V) (l u m : Option Int) (K : V → Prop) : Prop :=
  match x with
  | .sl k i n => arrSz z (blk h k) ∧ slcOk n l u m ∧ K (.sl k (i + (l.getD 0).toNat) ((u.getD n).toNat - (l.getD 0).toNat))
  | .ro sz els => sz = z ∧ slcOk els.length l u m ∧ K (.ro sz ((els.drop (l.getD 0).toNat).take ((u.getD els.length).toNat - (l.getD 0).toNat)))
  | .bro sz els => sz = z ∧ slcOk els.length l u m ∧ K (.bro sz ((els.drop (l.getD 0).toNat).take ((u.getD els.length).toNat - (l.getD 0).toNat)))
  | .full sz els => sz = z ∧ slcOk els.length l u m ∧ K (.bro sz ((els.drop (l.getD 0).toNat).take ((u.getD els.length).toNat - (l.getD 0).toNat)))
  | .v (.slice none 0 0) => slcOk 0 l u m ∧ K (.v (.slice none 0 0))
  | _ => False

/-- A struct or an array is put together. -/
def buildP (e : Env) : List V → List (Nat × Nat × Operand) → (V → Prop) → Prop
  | acc, [], K => K (.agg acc)
  | acc, (off, sz, x) :: r, K => optK (cells? (ev e x)) fun cs => (cs.length = sz ∧ off + sz ≤ acc.length) ∧ buildP e (splice acc off cs) r K

/-- A slice's elements are put together. -/
def litsP (e : Env) (sz : Nat) : List (List V) → List (Nat × Operand) → (List (List V) → Prop) → Prop
  | acc, [], K => K acc
  | acc, (i, x) :: r, K => optK (cells? (ev e x)) fun cs => ((cs.length = sz ∧ i < acc.length) ∧ cs.all isD = true) ∧ litsP e sz (acc.set i cs) r K

/-- What is equal by its cells alone. -/
def flatV : V → Bool
  | .v (.int _ _) => true
  | .v (.bool _) => true
  | .v (.string _) => true
  | _ => false

def aggK (x : V) (K : List V → Prop) : Prop :=
  match x with
  | .agg cs => K cs
  | _ => False

/-- A slice against nil. -/
def eqnP (x : V) (K : Bool → Prop) : Prop :=
  match x with
  | .sl _ _ n => (0 < n → K false) ∧ (n = 0 → K true ∧ K false)
  | .ro _ els => (els ≠ [] → K false) ∧ (els = [] → K true ∧ K false)
  | .bro _ els => (els ≠ [] → K false) ∧ (els = [] → K true ∧ K false)
  | .v (.slice none 0 0) => K true
  | _ => False

/-- Block k is one that was laid by for what is made now. -/
def freshP (h : List Blk) (k : Nat) : Prop :=
  match h[k]? with
  | some .dead => True
  | _ => False

def appNew (id sz bytes : Nat) (s : St) (old new : List (List V)) (K : V → St → Prop) : Prop :=
  (old.length + new.length) * bytes ≤ 140737488355328 ∧ freshP s.h id ∧ K (.sl id 0 (old.length + new.length)) { s with h := s.h.set id (.arr sz (old ++ new)) }

def appB (fx bn : List Nat) (k i n sz bytes : Nat) (s : St) (new : List (List V)) (b : Blk) (K : V → St → Prop) : Prop :=
  match b with
  | .arr sz' els => (sz' = sz ∧ i + n ≤ els.length ∧ (n + new.length) * bytes ≤ 140737488355328) ∧ (k ∉ fx ∧ k ∉ bn) ∧
      K (.sl k 0 (n + new.length)) { s with e := killE [k] s.e, h := (s.h.map (killB [k])).set k (.arr sz ((els.drop i).take n ++ new)) }
  | _ => False

def appP (fx bn : List Nat) (id sz bytes : Nat) (s : St) (x : V) (new : List (List V)) (K : V → St → Prop) : Prop :=
  match x with
  | .sl k i n => appB fx bn k i n sz bytes s new (blk s.h k) K
  | .v (.slice none 0 0) => appNew id sz bytes s [] new K
  | .full sz' els => (sz' = sz ∧ new ≠ []) ∧ appNew id sz bytes s els new K
  | _ => False

def copyB (bn : List Nat) (k i n sz : Nat) (s : St) (new : List (List V)) (b : Blk) (K : V → St → Prop) : Prop :=
  match b with
  | .arr sz' els => (sz' = sz ∧ i + n ≤ els.length ∧ k ∉ bn) ∧
      K (.i (min new.length n : Nat)) { s with h := s.h.set k (.arr sz (els.take i ++ new.take n ++ els.drop (i + min new.length n))) }
  | _ => False

def copyP (bn : List Nat) (sz : Nat) (s : St) (x : V) (new : List (List V)) (K : V → St → Prop) : Prop :=
  match x with
  | .sl k i n => copyB bn k i n sz s new (blk s.h k) K
  | _ => False

/-- What a map holds at a key. -/
def mfind (kd : TypeDesc) (key : Value) : List (Value × V × Nat) → Nat → Option (Option (Nat × V))
  | [], _ => some none
  | e :: es, i =>
    match Instr.sameNow kd key e.1 with
    | some true => some (some (i, e.2.1))
    | some false => mfind kd key es (i + 1)
    | none => none

def isKey : TypeDesc → Value → Bool
  | .bool, .bool _ => true
  | .int k, .int k' _ => decide (k' = k)
  | .string, .string _ => true
  | _, _ => false

def keyK (kd : TypeDesc) (x : V) (K : Value → Prop) : Prop :=
  match x with
  | .v y => isKey kd y = true ∧ K y
  | _ => False

/-- Two plain values of a kind. -/
def eqK : Value → Value → Bool
  | .int _ a, .int _ b => a == b
  | .bool a, .bool b => a == b
  | .string a, .string b => a == b
  | _, _ => false

def aggC : V → Option (List V)
  | .agg cs => some cs
  | .v (.agg a) => some (a.toList.map .v)
  | _ => none

def eqC (kd : TypeDesc) (x y : Option V) (K : Bool → Prop) : Prop :=
  match x, y with
  | some (.v a), some (.v b) => (isKey kd a = true ∧ isKey kd b = true) ∧ K (eqK a b)
  | _, _ => False

def eqFs (xs ys : List V) : List (Nat × TypeDesc) → (Bool → Prop) → Prop
  | [], K => K true
  | f :: r, K => eqC f.2 xs[f.1]? ys[f.1]? fun t => eqFs xs ys r fun u => K (t && u)

def mapB (b : Blk) (K : List (Value × V × Nat) → Nat → Prop) : Prop :=
  match b with
  | .map es c => K es c
  | _ => False

/-- An own map. -/
def mapK (h : List Blk) (x : V) (K : Nat → List (Value × V × Nat) → Nat → Prop) : Prop :=
  match x with
  | .mp k => mapB (blk h k) (K k)
  | _ => False

def lookK (r : Option (Option (Nat × V))) (z : Value) (ok : Bool) (K : V → Prop) : Prop :=
  match r with
  | some (some (_, v)) => K (if ok then .tup [v, .b true] else v)
  | some none => K (if ok then .tup [ofConst z, .b false] else ofConst z)
  | none => False

def msetK (r : Option (Option (Nat × V))) (key : Value) (x : V) (es : List (Value × V × Nat)) (c : Nat) (K : Blk → Prop) : Prop :=
  match r with
  | some (some (i, _)) => K (.map (es.modify i fun e => (key, x, e.2.2)) c)
  | some none => K (.map (es ++ [(key, x, c)]) (c + 1))
  | none => False

def mdelK (r : Option (Option (Nat × V))) (es : List (Value × V × Nat)) (c : Nat) (K : Blk → Prop) : Prop :=
  match r with
  | some (some (i, _)) => K (.map (es.eraseIdx i) c)
  | some none => K (.map es c)
  | none => False

def itB (b : Blk) (K : V → Nat → List Nat → Nat → Prop) : Prop :=
  match b with
  | .it m since seen last => K m since seen last
  | _ => False

def itK (h : List Blk) (x : V) (K : Nat → V → Nat → List Nat → Nat → Prop) : Prop :=
  match x with
  | .ptr k 0 0 => itB (blk h k) (K k)
  | _ => False

/-- The step of a range over a map that has got no new entry: any of those that are left may come; the end, if none is. -/
def nextK (es : List (Value × V × Nat)) (since : Nat) (seen : List Nat) (last : Nat) (D : Prop) (K : Value → V → Nat → Prop) : Prop :=
  ((es.all fun e => decide (e.2.2 < since)) = true ∧ since ≤ last) ∧
  ((es.all fun e => seen.contains e.2.2) = true → D) ∧
  (∀ e ∈ es, (seen.contains e.2.2) = false → K e.1 e.2.1 e.2.2)

def entK (r : Option (Value × V × Nat)) (K : V → Prop) : Prop :=
  match r with
  | some e => K (.tup [.v e.1, e.2.1])
  | none => False

mutual
/-- An own row is given up: what names it shows its elements from now on. -/
def frzV (k sz : Nat) (els : List (List V)) : V → V
  | .sl j i n => if j = k then (if i + n ≤ els.length then .ro sz ((els.drop i).take n) else .any) else .sl j i n
  | .ptr j i f => if j = k then .any else .ptr j i f
  | .mp j => if j = k then .any else .mp j
  | .agg cs => .agg (frzL k sz els cs)
  | .tup cs => .tup (frzL k sz els cs)
  | .clo f cs => .clo f (frzL k sz els cs)
  | x => x
def frzL (k sz : Nat) (els : List (List V)) : List V → List V
  | [] => []
  | x :: r => frzV k sz els x :: frzL k sz els r
end

def frzE (k sz : Nat) (els : List (List V)) : Env → Env
  | [] => []
  | (j, x) :: r => (j, frzV k sz els x) :: frzE k sz els r

def frzB (k sz : Nat) (els : List (List V)) : Blk → Blk
  | .var cs => .var (frzL k sz els cs)
  | .arv s es => .arv s (es.map (frzL k sz els))
  | .map es c => .map (es.map fun e => (e.1, frzV k sz els e.2.1, e.2.2)) c
  | .it m s sn l => .it (frzV k sz els m) s sn l
  | b => b

def frz1 (fx : List Nat) (k : Nat) (b : Blk) (s : St) (K : St → Prop) : Prop :=
  match b with
  | .arr sz els => k ∉ fx ∧ K { s with e := frzE k sz els s.e, h := (s.h.map (frzB k sz els)).set k .dead }
  | _ => K s

def frzP (fx : List Nat) : List Nat → St → (St → Prop) → Prop
  | [], s, K => K s
  | x :: r, s, K => match get s.e x with
    | .sl k _ _ => frz1 fx k (blk s.h k) s fun s' => frzP fx r s' K
    | _ => frzP fx r s K

def aOp (cx : Cx) (o : LOp) (s : St) (K : V → St → Prop) : Prop :=
  match o with
  | .mov x => K (ev s.e x) s
  | .pick c a b => brV (ev s.e c) (K (ev s.e a) s) (K (ev s.e b) s)
  | .box j x => optK (cells? (ev s.e x)) fun cs => freshP s.h (s.b + j) ∧ K (.ptr (s.b + j) 0 0) { s with h := s.h.set (s.b + j) (.var cs) }
  | .alloc j z => optK (cells? (ofConst z)) fun cs => freshP s.h (s.b + j) ∧ K (.ptr (s.b + j) 0 0) { s with h := s.h.set (s.b + j) (.var cs) }
  | .load n a => loadP s.h n (ev s.e a) (fun x => K x s)
  | .store n a x => optK (cells? (ev s.e x)) fun cs => storeP cx.bn s.h n (ev s.e a) cs fun h => K (.v (.tuple #[])) { s with h := h }
  | .fld off x => fldP off (ev s.e x) fun x => K x s
  | .idx z x i => intK (ev s.e i) fun _ n => idxP s.h z n (ev s.e x) fun x => K x s
  | .bin op ex x y => intK (ev s.e x) fun k a => intK (ev s.e y) fun k' b => k' = k ∧ binInt op ex k a b fun z => K z s
  | .shift op x y => intK (ev s.e x) fun k a => intK (ev s.e y) fun _ b => shiftInt op k a b fun z => K z s
  | .len x => lenP (ev s.e x) fun x => K x s
  | .lens x => lensP (ev s.e x) fun x => K x s
  | .nilc x => match ev s.e x with
    | .ptr k i f => K (.ptr k i f) s
    | .clo f cs => K (.clo f cs) s
    | _ => False
  | .not x => boolK (ev s.e x) fun t => K (.b (!t)) s
  | .neg x => intK (ev s.e x) fun k a => K (.v (.int k (k.wrap (-a)))) s
  | .conv ex k x => intK (ev s.e x) fun _ a => if ex then (lo k ≤ a ∧ a ≤ hi k) ∧ K (.v (.int k a)) s else K (.v (.int k (k.wrap a))) s
  | .minmax mx x y => intK (ev s.e x) fun k a => intK (ev s.e y) fun k' b => k' = k ∧ K (.v (.int k (if mx then max a b else min a b))) s
  | .ext x i => match ev s.e x with
    | .tup vs => optK vs[i]? fun y => K y s
    | _ => False
  | .fn f caps => K (.clo f (caps.map (ev s.e))) s
  | .field off n x => aggK (ev s.e x) fun cs => loadCs n off cs fun y => K y s
  | .slice z x l u m => optI (l.map (ev s.e)) fun l => optI (u.map (ev s.e)) fun u => optI (m.map (ev s.e)) fun m => slcP s.h z (ev s.e x) l u m fun y => K y s
  | .build z ps => buildP s.e (z.map .v) ps fun y => K y s
  | .eqf neg ks x y => optK (aggC (ev s.e x)) fun xs => optK (aggC (ev s.e y)) fun ys => eqFs xs ys ks fun t => K (.b (if neg then !t else t)) s
  | .eqb neg x y => boolK (ev s.e x) fun a => boolK (ev s.e y) fun b => K (.b (if neg then a != b else a == b)) s
  | .eqn neg x y => match ev s.e y with
    | .v _ => eqnP (ev s.e x) fun t => K (.b (if neg then !t else t)) s
    | _ => False
  | .lits j sz n z ps => litsP s.e sz (List.replicate n (z.map .v)) ps fun els => freshP s.h (s.b + j) ∧ K (.sl (s.b + j) 0 n) { s with h := s.h.set (s.b + j) (.arr sz els) }
  | .litsf xs j sz n z ps => frzP (cx.fx ++ cx.bn) xs s fun s => litsP s.e sz (List.replicate n (z.map .v)) ps fun els => freshP s.h (s.b + j) ∧ K (.sl (s.b + j) 0 n) { s with h := s.h.set (s.b + j) (.arr sz els) }
  | .mk j sz bytes z l c => intK (ev s.e l) fun _ a => intK (ev s.e c) fun _ b => ((0 ≤ a ∧ a ≤ b) ∧ (bytes : Int) * b ≤ 281474976710656 ∧ b ≤ 9223372036854775807) ∧ freshP s.h (s.b + j) ∧
      K (.sl (s.b + j) 0 a.toNat) { s with h := s.h.set (s.b + j) (.arr sz (List.replicate a.toNat (z.map .v))) }
  | .mkv j sz bytes z l c => intK (ev s.e l) fun _ a => intK (ev s.e c) fun _ b => ((0 ≤ a ∧ a ≤ b) ∧ (bytes : Int) * b ≤ 281474976710656 ∧ b ≤ 9223372036854775807) ∧ freshP s.h (s.b + j) ∧
      K (.sl (s.b + j) 0 a.toNat) { s with h := s.h.set (s.b + j) (.arv sz (List.replicate a.toNat (z.map .v))) }
  | .mkmap j r => (match r with | some x => intK (ev s.e x) fun _ _ => True | none => True) ∧ freshP s.h (s.b + j) ∧ K (.mp (s.b + j)) { s with h := s.h.set (s.b + j) (.map [] 0) }
  | .lookup kd z ok m k => keyK kd (ev s.e k) fun key => match ev s.e m with
    | .v (.map none) => lookK (some none) z ok fun x => K x s
    | m => mapK s.h m fun _ es _ => lookK (mfind kd key es 0) z ok fun x => K x s
  | .mset kd m k x => keyK kd (ev s.e k) fun key => mapK s.h (ev s.e m) fun b es c => b ∉ cx.bn ∧ msetK (mfind kd key es 0) key (ev s.e x) es c fun B => K (.v (.tuple #[])) { s with h := s.h.set b B }
  | .mdel kd m k => keyK kd (ev s.e k) fun key => mapK s.h (ev s.e m) fun b es c => b ∉ cx.bn ∧ mdelK (mfind kd key es 0) es c fun B => K (.v (.tuple #[])) { s with h := s.h.set b B }
  | .mlen m => mapK s.h (ev s.e m) fun _ es _ => K (.i es.length) s
  | .range j m => mapK s.h (ev s.e m) fun _ _ c => freshP s.h (s.b + j) ∧ K (.ptr (s.b + j) 0 0) { s with h := s.h.set (s.b + j) (.it (ev s.e m) c [] c) }
  | .next i => itK s.h (ev s.e i) fun b m since seen last => mapK s.h m fun _ es c => b ∉ cx.bn ∧ nextK es since seen last (K (.tup [.b false]) s)
      fun key x born => K (.tup [.b true, .v key, x]) { s with h := s.h.set b (.it m since (seen ++ [born]) c) }
  | .entry i => itK s.h (ev s.e i) fun _ m _ seen last => mapK s.h m fun _ es c => last = c ∧ optK seen.getLast? fun st => entK (es.find? fun e => e.2.2 == st) fun x => K x s
  | .append j sz bytes x y => viewK s.h (ev s.e y) fun sz' new => (new = [] ∨ sz' = sz) ∧ appP cx.fx cx.bn (s.b + j) sz bytes s (ev s.e x) new K
  | .copy sz x y => viewK s.h (ev s.e y) fun sz' new => (new = [] ∨ sz' = sz) ∧ copyP cx.bn sz s (ev s.e x) new K
  | .call f xs => callP cx f (xs.map (ev s.e)) s K
  | .callv f xs => match ev s.e f with
    | .clo g cs => callP cx g (xs.map (ev s.e) ++ cs) s K
    | _ => False
  | _ => False

def guardP (x : V) (want : Bool) (A B C : Prop) : Prop :=
  match x with
  | .v (.bool b) => if want then br b A B else br b B A
  | .v (.tuple _) => C
  | _ => False

def aOper (cx : Cx) (o : LOper) (s : St) (K : St → Prop) : Prop :=
  match o.g with
  | none => aOp cx o.op s fun x s' => K (s'.put o.dst x)
  | some (g, want) => guardP (get s.e g) want
      (aOp cx o.op (s.put (some g) (.b want)) fun x s' => K (s'.put o.dst x))
      (K ((s.put (some g) (.b !want)).put o.dst (.v (.tuple #[]))))
      (K (s.put o.dst (.v (.tuple #[]))))

def aOps (cx : Cx) : List LOper → St → (St → Prop) → Prop
  | [], s, K => K s
  | o :: r, s, K => aOper cx o s fun s' => aOps cx r s' K

/-- The own block that a load reads: it must stay as it is until the load has come up. -/
def rdB (o : LOp) (e : Env) (bn : List Nat) : List Nat :=
  match o with
  | .load _ a => match ev e a with
    | .ptr k _ _ => k :: bn
    | _ => bn
  | _ => bn

def awP (cx : Cx) : LPlan → List Nat → (St → Prop) → St → Prop
  | .done, _, K, s => K s
  | .take _ _ o p, bn, K, s => aOper cx o s fun s' => awP cx p (rdB o.op s.e bn) K s'
  | .alt _ o r p q, bn, K, s => aOper { cx with bn := if r then bn else [] } o s (fun s' => awP cx p (if r then bn else []) K s') ∧ awP cx q bn K s
  | .none, _, _, _ => True

def leE (e : Env) : Env → Prop
  | [] => True
  | (i, x) :: r => get e i = x ∧ leE e r

def leV (x : V) (y : V) : Prop :=
  match y with
  | .any => True
  | y => x = y

def leVs : List V → List V → Prop
  | [], [] => True
  | x :: xs, y :: ys => leV x y ∧ leVs xs ys
  | _, _ => False

def leB (b : Blk) (c : Blk) : Prop :=
  match c with
  | .dead => True
  | .var ys => match b with
    | .var xs => leVs xs ys
    | _ => False
  | c => b = c

def leH : List Blk → List Blk → Prop
  | _, [] => True
  | b :: h, c :: p => leB b c ∧ leH h p
  | [], _ :: _ => False

mutual
/-- What is named is there. -/
def wfV (h : List Blk) : V → Prop
  | .sl k _ _ => liveP h k
  | .ptr k _ _ => liveP h k
  | .mp k => liveP h k
  | .itr k => liveP h k
  | .agg cs => wfL h cs
  | .tup cs => wfL h cs
  | .clo _ cs => wfL h cs
  | _ => True
def wfL (h : List Blk) : List V → Prop
  | [] => True
  | x :: r => wfV h x ∧ wfL h r
end

def wfE (h : List Blk) : Env → Prop
  | [] => True
  | (_, x) :: r => wfV h x ∧ wfE h r

def wfB (h : List Blk) : List Blk → Prop
  | [] => True
  | .var cs :: r => wfL h cs ∧ wfB h r
  | .dead :: r => wfB h r
  | .arr _ _ :: r => wfB h r
  | .arv _ els :: r => wfL h els.flatten ∧ wfB h r
  | .map es _ :: r => wfL h (es.map (·.2.1)) ∧ wfB h r
  | .it m _ _ _ :: r => wfV h m ∧ wfB h r

/-- 'p' says no more than 's'; the blocks of 'fx' are kept. -/
def leS (fx : List Nat) (s p : St) : Prop := leE s.e p.e ∧ leH s.h p.h ∧ keepP fx p.h ∧ wfE p.h p.e ∧ wfB p.h p.h

def loopP (fx : List Nat) (f : (St → Prop) → St → Prop) (s : St) : Prop :=
  ∃ (G : Type) (pat : G → St) (I : G → Prop) (μ : G → Nat), (∃ g, I g ∧ leS fx s (pat g)) ∧
      ∀ g, I g → f (fun s' => ∃ g', (I g' ∧ μ g' < μ g) ∧ leS fx s' (pat g')) (pat g)

def aw (cx : Cx) : LCode → (St → Prop) → (Nat → St → Prop) → (St → Prop) → St → Prop
  | .skip, N, _, _, s => N s
  | .reg n ops, N, _, _, s => aOps cx ops { s with b := s.h.length, h := s.h ++ List.replicate n .dead } N
  | .tail _ n ops, N, _, _, s => aOps cx ops { s with b := s.h.length, h := s.h ++ List.replicate n .dead } N
  | .qui n ops, N, _, _, s => aOps cx ops { s with b := s.h.length, h := s.h ++ List.replicate n .dead } N
  | .tree n p, N, _, _, s => awP cx p [] N { s with b := s.h.length, h := s.h ++ List.replicate n .dead }
  | .seq a b, N, X, R, s => aw cx a (fun s' => aw cx b N X R s') X R s
  | .cond c a b, N, X, R, s => brV (ev s.e c) (aw cx a N X R s) (aw cx b N X R s)
  | .block id c, N, X, R, s => aw cx c N (fun j s' => if j = id then N s' else X j s') R s
  | .loop c, _, X, R, s => loopP cx.fx (fun N => aw cx c N X R) s
  | .exit id, _, X, _, s => X id s
  | .ret, _, _, R, s => R s
  | .bad, _, _, _, _ => False
  | .frz xs c, N, X, R, s => frzP cx.fx xs s fun s' => aw cx c N X R s'

/-- A result's place. -/
inductive LRes where
  | tmp (t : Nat)
  | cell (a : Nat) (n : Option Nat)

def resP (h : List Blk) (e : Env) : List LRes → List V → (List V → Prop) → Prop
  | [], acc, K => K acc.reverse
  | .tmp t :: r, acc, K => resP h e r (get e t :: acc) K
  | .cell a n :: r, acc, K => loadP h n (get e a) fun x => resP h e r (x :: acc) K

def tupV : List V → V
  | [x] => x
  | xs => .tup xs

/-- The end of a function. -/
def retP (fx : List Nat) (n : Nat) (rs : List LRes) (R : V → List Blk → Prop) (s : St) : Prop :=
  resP s.h s.e rs [] fun xs => ∃ p, (leH s.h p ∧ keepP fx p ∧ n ≤ p.length ∧ wfV p (tupV xs) ∧ wfB p p) ∧ R (tupV xs) p

def args0 : Nat → List V → Env
  | _, [] => []
  | i, x :: r => (i, x) :: args0 (i + 1) r

end Go.Fx
