import Derived.Test.YtmddpcjkpbjkeaaFxFn
set_option linter.unusedVariables false
set_option linter.unusedSimpArgs false
set_option linter.unusedSectionVars false
namespace Go.Fx

/-! A run of the executor at known values: it computes, and the kernel can do it. -/

def forceNat {α : Type} (n : Nat) (K : Nat → α) : α :=
  match n with
  | 0 => K 0
  | m + 1 => K (m + 1)
theorem forceNat_eq {α : Type} (n : Nat) (K : Nat → α) : forceNat n K = K n := by cases n <;> rfl

def forceV {α : Type} (x : V) (K : V → α) : α :=
  match x with
  | .v (.int k n) => match n with
    | .ofNat m => forceNat m fun m => K (.v (.int k (.ofNat m)))
    | .negSucc m => forceNat m fun m => K (.v (.int k (.negSucc m)))
  | .v (.bool t) => match t with
    | true => K (.v (.bool true))
    | false => K (.v (.bool false))
  | .sl k i n => forceNat k fun k => forceNat i fun i => forceNat n fun n => K (.sl k i n)
  | .ptr k i f => forceNat k fun k => forceNat i fun i => forceNat f fun f => K (.ptr k i f)
  | .mp k => forceNat k fun k => K (.mp k)
  | x => K x
theorem forceV_eq {α : Type} (x : V) (K : V → α) : forceV x K = K x := by
  unfold forceV
  split <;> (try split) <;> simp only [forceNat_eq]

/-- An environment that is quick to look into. -/
inductive Tr where
  | lf
  | nd (v : V) (l r : Tr)
  deriving Inhabited

def Tr.get : Tr → Nat → V
  | .lf, _ => .any
  | .nd v l r, i => match i with
    | 0 => v
    | j + 1 => if j % 2 = 0 then l.get (j / 2) else r.get (j / 2)

def Tr.put : Nat → Tr → Nat → V → Tr
  | 0, t, _, _ => t
  | n + 1, .lf, i, x => match i with
    | 0 => .nd x .lf .lf
    | j + 1 => if j % 2 = 0 then .nd .any (Tr.put n .lf (j / 2) x) .lf else .nd .any .lf (Tr.put n .lf (j / 2) x)
  | n + 1, .nd v l r, i, x => match i with
    | 0 => .nd x l r
    | j + 1 => if j % 2 = 0 then .nd v (Tr.put n l (j / 2) x) r else .nd v l (Tr.put n r (j / 2) x)

def Tr.kill (M : List Nat) : Tr → Tr
  | .lf => .lf
  | .nd v l r => .nd (Fx.kill M v) (l.kill M) (r.kill M)

theorem Tr.get_put : ∀ (n : Nat) (t : Tr) (i : Nat) (x : V) (j : Nat), i < n → (Tr.put n t i x).get j = if j = i then x else t.get j
  | 0, _, _, _, _, h => by omega
  | n + 1, .lf, 0, x, j, _ => by cases j <;> simp [Tr.put, Tr.get]
  | n + 1, .nd v l r, 0, x, j, _ => by cases j <;> simp [Tr.put, Tr.get]
  | n + 1, .lf, i + 1, x, j, h => by
    simp only [Tr.put]
    split
    · rename_i hi
      cases j with
      | zero => simp [Tr.get]
      | succ j =>
        simp only [Tr.get]
        by_cases hj : j % 2 = 0
        · rw [if_pos hj, Tr.get_put n _ _ _ _ (by omega)]
          by_cases e : j = i
          · subst e; simp
          · rw [if_neg (by omega), if_neg (by omega)]; simp [Tr.get]
        · rw [if_neg hj, if_neg (by omega)]
    · rename_i hi
      cases j with
      | zero => simp [Tr.get]
      | succ j =>
        simp only [Tr.get]
        by_cases hj : j % 2 = 0
        · rw [if_pos hj, if_neg (by omega)]
        · rw [if_neg hj, Tr.get_put n _ _ _ _ (by omega)]
          by_cases e : j = i
          · subst e; simp
          · rw [if_neg (by omega), if_neg (by omega)]; simp [Tr.get]
  | n + 1, .nd v l r, i + 1, x, j, h => by
    simp only [Tr.put]
    split
    · rename_i hi
      cases j with
      | zero => simp [Tr.get]
      | succ j =>
        simp only [Tr.get]
        by_cases hj : j % 2 = 0
        · rw [if_pos hj, Tr.get_put n _ _ _ _ (by omega), if_pos hj]
          by_cases e : j = i
          · subst e; simp
          · rw [if_neg (by omega), if_neg (by omega)]
        · rw [if_neg hj, if_neg (by omega), if_neg hj]
    · rename_i hi
      cases j with
      | zero => simp [Tr.get]
      | succ j =>
        simp only [Tr.get]
        by_cases hj : j % 2 = 0
        · rw [if_pos hj, if_neg (by omega), if_pos hj]
        · rw [if_neg hj, Tr.get_put n _ _ _ _ (by omega), if_neg hj]
          by_cases e : j = i
          · subst e; simp
          · rw [if_neg (by omega), if_neg (by omega)]

theorem Tr.get_kill (M : List Nat) : ∀ (t : Tr) (i : Nat), (t.kill M).get i = Fx.kill M (t.get i)
  | .lf, _ => by simp [Tr.kill, Tr.get, Fx.kill]
  | .nd v l r, i => by
    cases i with
    | zero => rfl
    | succ j =>
      simp only [Tr.kill, Tr.get]
      split
      · exact Tr.get_kill M l _
      · exact Tr.get_kill M r _

def evT (E : Tr) : Operand → V
  | .tmp t => E.get t
  | .const c => ofConst c
  | .func f => .clo f []
  | .global _ => .any

/-! ### Names -/
mutual
def namesV : V → List Nat
  | .sl k _ _ => [k]
  | .ptr k _ _ => [k]
  | .mp k => [k]
  | .agg cs => namesL cs
  | .tup cs => namesL cs
  | .clo _ cs => namesL cs
  | _ => []
def namesL : List V → List Nat
  | [] => []
  | x :: r => namesV x ++ namesL r
end

def namesB : Blk → List Nat
  | .var cs => namesL cs
  | .arv _ els => namesL els.flatten
  | .map es _ => namesL (es.map (·.2.1))
  | .it m _ _ _ => namesV m
  | _ => []

def hasN (l : List Nat) (n : Nat) : Bool := l.any fun m => Nat.beq m n

def addN : List Nat → List Nat → List Nat
  | [], acc => acc
  | k :: r, acc => if hasN acc k then addN r acc else addN r (acc ++ [k])

/-- All that can be come to. -/
def reach (h : List Blk) : Nat → List Nat → List Nat → List Nat
  | 0, _, acc => acc
  | _ + 1, [], acc => acc
  | n + 1, k :: todo, acc => if hasN acc k then reach h n todo acc else forceNat k fun k => reach h n (namesB (blk h k) ++ todo) (acc ++ [k])

def liveB (h : List Blk) (k : Nat) : Bool :=
  match h[k]? with
  | some .dead => false
  | some _ => true
  | none => false

mutual
def wfVB (h : List Blk) : V → Bool
  | .sl k _ _ => liveB h k
  | .ptr k _ _ => liveB h k
  | .mp k => liveB h k
  | .itr _ => false
  | .agg cs => wfLB h cs
  | .tup cs => wfLB h cs
  | .clo _ cs => wfLB h cs
  | _ => true
def wfLB (h : List Blk) : List V → Bool
  | [] => true
  | x :: r => wfVB h x && wfLB h r
end

def wfBB (h : List Blk) : List Blk → Bool
  | [] => true
  | .var cs :: r => wfLB h cs && wfBB h r
  | .dead :: r => wfBB h r
  | .arr _ _ :: r => wfBB h r
  | .arv _ els :: r => wfLB h els.flatten && wfBB h r
  | .map es _ :: r => wfLB h (es.map (·.2.1)) && wfBB h r
  | .it m _ _ _ :: r => wfVB h m && wfBB h r

def keepB (h : List Blk) (fx : List Nat) : Bool := fx.all (liveB h)

/-! ### The steps -/

def loadCsD (n : Option Nat) (f : Nat) (cs : List V) : Option V :=
  match n with
  | none => cs[f]?
  | some m => if f + m ≤ cs.length then some (.agg ((cs.drop f).take m)) else none
def loadBD (n : Option Nat) (i f : Nat) (b : Blk) : Option V :=
  match b with
  | .var cs => loadCsD n f cs
  | .arr _ els => match els[i]? with
    | some e => loadCsD n f e
    | none => none
  | .arv _ els => match els[i]? with
    | some e => loadCsD n f e
    | none => none
  | _ => none
def loadD (h : List Blk) (n : Option Nat) (p : V) : Option V :=
  match p with
  | .ptr k i f => loadBD n i f (blk h k)
  | .rp _ els i f => match els[i]? with
    | some e => loadCsD n f e
    | none => none
  | _ => none
def storeBD (n : Nat) (i f : Nat) (cs : List V) (b : Blk) : Option Blk :=
  match b with
  | .var old => if f + n ≤ old.length then some (.var (splice old f cs)) else none
  | .arr sz els => match els[i]? with
    | some e => if f + n ≤ sz ∧ cs.all isD = true then some (.arr sz (els.set i (splice e f cs))) else none
    | none => none
  | .arv sz els => match els[i]? with
    | some e => if f + n ≤ sz then some (.arv sz (els.set i (splice e f cs))) else none
    | none => none
  | _ => none
def storeD (bn : List Nat) (h : List Blk) (n : Nat) (p : V) (cs : List V) : Option (List Blk) :=
  match p with
  | .ptr k i f => if cs.length = n ∧ hasN bn k = false ∧ cs.all isC = true then (storeBD n i f cs (blk h k)).map fun b => h.set k b else none
  | _ => none
def arrSzB (z : Nat) (b : Blk) : Bool :=
  match b with
  | .arr s _ => decide (s = z)
  | .arv s _ => decide (s = z)
  | _ => false
def idxD (h : List Blk) (z : Nat) (n : Int) (x : V) : Option V :=
  match x with
  | .sl k i0 m => if arrSzB z (blk h k) = true ∧ 0 ≤ n ∧ n < m then some (.ptr k (i0 + n.toNat) 0) else none
  | .ro sz els => if sz = z ∧ 0 ≤ n ∧ n < els.length then some (.rp sz els n.toNat 0) else none
  | .bro sz els => if sz = z ∧ 0 ≤ n ∧ n < els.length then some (.rp sz els n.toNat 0) else none
  | .full sz els => if sz = z ∧ 0 ≤ n ∧ n < els.length then some (.rp sz els n.toNat 0) else none
  | _ => none
def lenD (x : V) : Option V :=
  match x with
  | .sl _ _ n => some (.i n)
  | .ro _ els => some (.i els.length)
  | .bro _ els => some (.i els.length)
  | .full _ els => some (.i els.length)
  | .v (.slice none 0 0) => some (.i 0)
  | _ => none
def viewD (h : List Blk) (x : V) : Option (Nat × List (List V)) :=
  match x with
  | .sl k i n => match blk h k with
    | .arr sz els => if i + n ≤ els.length then some (sz, (els.drop i).take n) else none
    | _ => none
  | .ro sz els => some (sz, els)
  | .bro sz els => some (sz, els)
  | .full sz els => some (sz, els)
  | .v (.slice none 0 0) => some (0, [])
  | _ => none
def optD (o : Option V) : Option (Option Int) :=
  match o with
  | none => some none
  | some (.v (.int _ n)) => some (some n)
  | some _ => none
instance (n : Nat) (l u m : Option Int) : Decidable (slcOk n l u m) := by unfold slcOk; infer_instance
def slcD (h : List Blk) (z : Nat) (x : V) (l u m : Option Int) : Option V :=
  match x with
  | .sl k i n => if arrSzB z (blk h k) = true ∧ slcOk n l u m then some (.sl k (i + (l.getD 0).toNat) ((u.getD n).toNat - (l.getD 0).toNat)) else none
  | .ro sz els => if sz = z ∧ slcOk els.length l u m then some (.ro sz ((els.drop (l.getD 0).toNat).take ((u.getD els.length).toNat - (l.getD 0).toNat))) else none
  | .bro sz els => if sz = z ∧ slcOk els.length l u m then some (.bro sz ((els.drop (l.getD 0).toNat).take ((u.getD els.length).toNat - (l.getD 0).toNat))) else none
  | .full sz els => if sz = z ∧ slcOk els.length l u m then some (.bro sz ((els.drop (l.getD 0).toNat).take ((u.getD els.length).toNat - (l.getD 0).toNat))) else none
  | .v (.slice none 0 0) => if slcOk 0 l u m then some (.v (.slice none 0 0)) else none
  | _ => none
def buildD (E : Tr) : List V → List (Nat × Nat × Operand) → Option V
  | acc, [] => some (.agg acc)
  | acc, (off, sz, x) :: r => match cells? (evT E x) with
    | some cs => if cs.length = sz ∧ off + sz ≤ acc.length then buildD E (splice acc off cs) r else none
    | none => none
def litsD (E : Tr) (sz : Nat) : List (List V) → List (Nat × Operand) → Option (List (List V))
  | acc, [] => some acc
  | acc, (i, x) :: r => match cells? (evT E x) with
    | some cs => if cs.length = sz ∧ i < acc.length ∧ cs.all isD = true then litsD E sz (acc.set i cs) r else none
    | none => none
def freshB (h : List Blk) (k : Nat) : Bool :=
  match h[k]? with
  | some .dead => true
  | _ => false
def exD (ex : Bool) (k : IntKind) (c : Int) : Option V :=
  if ex then (if lo k ≤ c ∧ c ≤ hi k then some (.v (.int k c)) else none) else some (.v (.int k (k.wrap c)))
def quoD (ex : Bool) (k : IntKind) (a b : Int) : Option V :=
  if b ≠ 0 then exD ex k (a.tdiv b) else none
def remD (k : IntKind) (a b : Int) : Option V := if b ≠ 0 then some (.v (.int k (a.tmod b))) else none
def andBD (k : IntKind) (a b : Int) : Option V := some (.v (.int k (k.wrap ((BitVec.ofInt k.bits a &&& BitVec.ofInt k.bits b).toNat : Int))))
def orBD (k : IntKind) (a b : Int) : Option V := some (.v (.int k (k.wrap ((BitVec.ofInt k.bits a ||| BitVec.ofInt k.bits b).toNat : Int))))
def xorBD (k : IntKind) (a b : Int) : Option V := some (.v (.int k (k.wrap ((BitVec.ofInt k.bits a ^^^ BitVec.ofInt k.bits b).toNat : Int))))
def andNotBD (k : IntKind) (a b : Int) : Option V := some (.v (.int k (k.wrap ((BitVec.ofInt k.bits a &&& ~~~(BitVec.ofInt k.bits b)).toNat : Int))))
def ltZ (a b : Int) : Bool :=
  match a, b with
  | .ofNat m, .ofNat n => Nat.blt m n
  | .negSucc _, .ofNat _ => true
  | .ofNat _, .negSucc _ => false
  | .negSucc m, .negSucc n => Nat.blt n m
def eqZ (a b : Int) : Bool :=
  match a, b with
  | .ofNat m, .ofNat n => Nat.beq m n
  | .negSucc m, .negSucc n => Nat.beq m n
  | _, _ => false
theorem ltZ_eq (a b : Int) : ltZ a b = decide (a < b) := by
  rw [Bool.eq_iff_iff, decide_eq_true_eq]
  cases a <;> cases b <;> simp only [ltZ, Nat.blt_eq, Int.ofNat_eq_natCast, Int.negSucc_eq, true_iff, Bool.false_eq_true, false_iff] <;> omega
theorem eqZ_eq (a b : Int) : eqZ a b = (a == b) := by
  rw [Bool.eq_iff_iff, beq_iff_eq]
  cases a <;> cases b <;> simp only [eqZ, Nat.beq_eq, Int.ofNat_eq_natCast, Int.negSucc_eq, Bool.false_eq_true, false_iff] <;> omega
def binD (op : BinOp) (ex : Bool) (k : IntKind) (a b : Int) : Option V :=
  match op with
  | .add => exD ex k (a + b)
  | .sub => exD ex k (a - b)
  | .mul => exD ex k (a * b)
  | .eql => some (.b (eqZ a b))
  | .neq => some (.b (!(eqZ a b)))
  | .lss => some (.b (ltZ a b))
  | .leq => some (.b (!(ltZ b a)))
  | .gtr => some (.b (ltZ b a))
  | .geq => some (.b (!(ltZ a b)))
  | .quo => quoD ex k a b
  | .rem => remD k a b
  | .and => andBD k a b
  | .or => orBD k a b
  | .xor => xorBD k a b
  | .andNot => andNotBD k a b
  | _ => none
def eqFsD (xs ys : List V) : List (Nat × TypeDesc) → Option Bool
  | [] => some true
  | f :: r => match xs[f.1]?, ys[f.1]? with
    | some (.v a), some (.v b) => if isKey f.2 a && isKey f.2 b then match eqFsD xs ys r with
        | some t => some (eqK a b && t)
        | none => none
      else none
    | _, _ => none
def shiftD (op : BinOp) (k : IntKind) (a b : Int) : Option V :=
  match op with
  | .shl => if 0 ≤ b then some (.v (.int k (k.wrap (a * 2 ^ (min b.toNat k.bits))))) else none
  | .shr => if 0 ≤ b then some (.v (.int k (a.fdiv (2 ^ (min b.toNat k.bits))))) else none
  | _ => none

structure Res where
  x : V
  E : Tr
  h : List Blk

def killIf (M : List Nat) (E : Tr) : Tr :=
  match M with
  | [] => E
  | _ => E.kill M
def one (E : Tr) (x : V) (h : List Blk) : Option (List Res) := some [⟨x, E, h⟩]
def oneO (E : Tr) (x : Option V) (h : List Blk) : Option (List Res) :=
  match x with
  | some x => some [⟨x, E, h⟩]
  | none => none

def frzT (k sz : Nat) (els : List (List V)) : Tr → Tr
  | .lf => .lf
  | .nd v l r => .nd (frzV k sz els v) (frzT k sz els l) (frzT k sz els r)
def frzD (fx : List Nat) : List Nat → Tr × List Blk → Option (Tr × List Blk)
  | [], p => some p
  | x :: r, p => match p.1.get x with
    | .sl k _ _ => match blk p.2 k with
      | .arr sz els => if hasN fx k then none else frzD fx r (frzT k sz els p.1, (p.2.map (frzB k sz els)).set k .dead)
      | _ => frzD fx r p
    | _ => frzD fx r p

def appNewD (E : Tr) (id sz bytes : Nat) (h : List Blk) (old new : List (List V)) : Option (List Res) :=
  if (old.length + new.length) * bytes ≤ 140737488355328 ∧ freshB h id = true then some [⟨.sl id 0 (old.length + new.length), E, h.set id (.arr sz (old ++ new))⟩] else none
def appBD (E : Tr) (fx bn : List Nat) (k i n sz bytes : Nat) (h : List Blk) (new : List (List V)) (b : Blk) : Option (List Res) :=
  match b with
  | .arr sz' els => if (sz' = sz ∧ i + n ≤ els.length ∧ (n + new.length) * bytes ≤ 140737488355328) ∧ hasN fx k = false ∧ hasN bn k = false then
      some [⟨.sl k 0 (n + new.length), E.kill [k], (h.map (killB [k])).set k (.arr sz ((els.drop i).take n ++ new))⟩] else none
  | _ => none
def appD (E : Tr) (fx bn : List Nat) (id sz bytes : Nat) (h : List Blk) (x : V) (new : List (List V)) : Option (List Res) :=
  match x with
  | .sl k i n => appBD E fx bn k i n sz bytes h new (blk h k)
  | .v (.slice none 0 0) => appNewD E id sz bytes h [] new
  | .full sz' els => if sz' = sz ∧ new.isEmpty = false then appNewD E id sz bytes h els new else none
  | _ => none
def copyD (E : Tr) (bn : List Nat) (sz : Nat) (h : List Blk) (x : V) (new : List (List V)) : Option (List Res) :=
  match x with
  | .sl k i n => match blk h k with
    | .arr sz' els => if sz' = sz ∧ i + n ≤ els.length ∧ hasN bn k = false then some [⟨.i (min new.length n : Nat), E, h.set k (.arr sz (els.take i ++ new.take n ++ els.drop (i + min new.length n)))⟩] else none
    | _ => none
  | _ => none
def eqnD (x : V) : Option (List Bool) :=
  match x with
  | .sl _ _ n => if n = 0 then some [true, false] else some [false]
  | .ro _ els => match els with
    | [] => some [true, false]
    | _ => some [false]
  | .bro _ els => match els with
    | [] => some [true, false]
    | _ => some [false]
  | .v (.slice none 0 0) => some [true]
  | _ => none

def mapD (h : List Blk) (x : V) : Option (Nat × List (Value × V × Nat) × Nat) :=
  match x with
  | .mp k => match blk h k with
    | .map es c => some (k, es, c)
    | _ => none
  | _ => none
def lookD (r : Option (Option (Nat × V))) (z : Value) (ok : Bool) : Option V :=
  match r with
  | some (some (_, v)) => some (if ok then .tup [v, .b true] else v)
  | some none => some (if ok then .tup [ofConst z, .b false] else ofConst z)
  | none => none
def msetD (r : Option (Option (Nat × V))) (key : Value) (x : V) (es : List (Value × V × Nat)) (c : Nat) : Option Blk :=
  match r with
  | some (some (i, _)) => some (.map (es.modify i fun e => (key, x, e.2.2)) c)
  | some none => some (.map (es ++ [(key, x, c)]) (c + 1))
  | none => none
def mdelD (r : Option (Option (Nat × V))) (es : List (Value × V × Nat)) (c : Nat) : Option Blk :=
  match r with
  | some (some (i, _)) => some (.map (es.eraseIdx i) c)
  | some none => some (.map es c)
  | none => none
def itD (h : List Blk) (x : V) : Option (Nat × V × Nat × List Nat × Nat) :=
  match x with
  | .ptr k 0 0 => match blk h k with
    | .it m since seen last => some (k, m, since, seen, last)
    | _ => none
  | _ => none

/-- A function's text for the run. -/
structure Ent where
  code : LCode
  rs : List LRes
  nt : Nat
  mv : Bool := false

abbrev CallD := FuncId → List V → List Blk → List Nat → Option (V × List Blk)

mutual
def lendOkB (h : List Blk) (g : Nat → Option Nat) : V → Bool
  | .sl k i n => match g k with
    | some _ => true
    | none => match blk h k with
      | .arr _ els => decide (i + n ≤ els.length)
      | _ => true
  | .agg cs => lendsOkB h g cs
  | .tup cs => lendsOkB h g cs
  | .clo _ cs => lendsOkB h g cs
  | _ => true
def lendsOkB (h : List Blk) (g : Nat → Option Nat) : List V → Bool
  | [] => true
  | x :: r => lendOkB h g x && lendsOkB h g r
end

def nodupB : List Nat → Bool
  | [] => true
  | k :: r => !(hasN r k) && nodupB r

def without (bn : List Nat) : List Nat → List Nat
  | [] => []
  | k :: r => if hasN bn k then without bn r else k :: without bn r

def afterD (E : Tr) (ι fx : List Nat) (h : List Blk) (r : V) (M : List Nat) (h2 : List Blk) : Option (List Res) :=
  if keepB h2 fx then some [⟨ren (back ι h.length) r, killIf M E, h2⟩] else none

def callI (E : Tr) (call : CallD) (fx bn : List Nat) (f : FuncId) (args : List V) (h : List Blk) (ι mv : List Nat) : Option (List Res) :=
  if (nodupB ι && ι.all fun k => decide (k < h.length) && !(hasN bn k)) && (lendsOkB h (pos ι) args && (mv.isEmpty || ι.all fun k => !(hasN fx k))) then
    match call f (lends h (pos ι) args) (ι.map fun k => renB (pos ι) (blk h k)) mv with
    | some (r, h') => afterD E ι fx h r (mv.filterMap (ι[·]?)) (setAll ι (h'.map (renB (back ι h.length))) (if mv.isEmpty then h else h.map (killB (mv.filterMap (ι[·]?)))))
    | none => none
  else none

def callD (E : Tr) (call : CallD) (mvf : FuncId → Bool) (fx bn : List Nat) (f : FuncId) (args : List V) (h : List Blk) : Option (List Res) :=
  callI E call fx bn f args h (without bn (reach h 1000 (namesL args) [])) (if mvf f then List.range (without bn (reach h 1000 (namesL args) [])).length else [])

def nextD (E : Tr) (k : Nat) (m : V) (es : List (Value × V × Nat)) (c since : Nat) (seen : List Nat) (last : Nat) (h : List Blk) : Option (List Res) :=
  if (es.all fun e => decide (e.2.2 < since)) = true ∧ since ≤ last then
    let left := es.filter fun e => !(seen.contains e.2.2)
    match left with
    | [] => some [⟨.tup [.b false], E, h⟩]
    | _ => some (left.map fun e => ⟨.tup [.b true, .v e.1, e.2.1], E, h.set k (.it m since (seen ++ [e.2.2]) c)⟩)
  else none

def o_pick (call : CallD) (mvf : FuncId → Bool) (fx bn : List Nat) (E : Tr) (h : List Blk) (b : Nat) (c : Operand) (a : Operand) (d : Operand) : Option (List Res) :=
  match evT E c with
    | .v (.bool t) => one E (if t then evT E a else evT E d) h
    | _ => none

def o_box (call : CallD) (mvf : FuncId → Bool) (fx bn : List Nat) (E : Tr) (h : List Blk) (b : Nat) (j : Nat) (x : Operand) : Option (List Res) :=
  match cells? (evT E x) with
    | some cs => if freshB h (b + j) then one E (.ptr (b + j) 0 0) (h.set (b + j) (.var cs)) else none
    | none => none

def o_alloc (call : CallD) (mvf : FuncId → Bool) (fx bn : List Nat) (E : Tr) (h : List Blk) (b : Nat) (j : Nat) (z : Value) : Option (List Res) :=
  match cells? (ofConst z) with
    | some cs => if freshB h (b + j) then one E (.ptr (b + j) 0 0) (h.set (b + j) (.var cs)) else none
    | none => none

def o_store (call : CallD) (mvf : FuncId → Bool) (fx bn : List Nat) (E : Tr) (h : List Blk) (b : Nat) (n : Nat) (a : Operand) (x : Operand) : Option (List Res) :=
  match cells? (evT E x) with
    | some cs => match storeD bn h n (evT E a) cs with
      | some h' => one E (.v (.tuple #[])) h'
      | none => none
    | none => none

def o_fld (call : CallD) (mvf : FuncId → Bool) (fx bn : List Nat) (E : Tr) (h : List Blk) (b : Nat) (off : Nat) (x : Operand) : Option (List Res) :=
  match evT E x with
    | .ptr k i f => one E (.ptr k i (f + off)) h
    | .rp sz els i f => one E (.rp sz els i (f + off)) h
    | _ => none

def o_idx (call : CallD) (mvf : FuncId → Bool) (fx bn : List Nat) (E : Tr) (h : List Blk) (b : Nat) (z : Nat) (x : Operand) (i : Operand) : Option (List Res) :=
  match evT E i with
    | .v (.int _ n) => oneO E (idxD h z n (evT E x)) h
    | _ => none

def o_bin (call : CallD) (mvf : FuncId → Bool) (fx bn : List Nat) (E : Tr) (h : List Blk) (b : Nat) (op : BinOp) (ex : Bool) (x : Operand) (y : Operand) : Option (List Res) :=
  match evT E x, evT E y with
    | .v (.int k a), .v (.int k' c) => if k' = k then oneO E (binD op ex k a c) h else none
    | _, _ => none

def o_shift (call : CallD) (mvf : FuncId → Bool) (fx bn : List Nat) (E : Tr) (h : List Blk) (b : Nat) (op : BinOp) (x : Operand) (y : Operand) : Option (List Res) :=
  match evT E x, evT E y with
    | .v (.int k a), .v (.int _ c) => oneO E (shiftD op k a c) h
    | _, _ => none

def o_lens (call : CallD) (mvf : FuncId → Bool) (fx bn : List Nat) (E : Tr) (h : List Blk) (b : Nat) (x : Operand) : Option (List Res) :=
  match evT E x with
    | .v (.string t) => one E (.i t.size) h
    | _ => none

def o_nilc (call : CallD) (mvf : FuncId → Bool) (fx bn : List Nat) (E : Tr) (h : List Blk) (b : Nat) (x : Operand) : Option (List Res) :=
  match evT E x with
    | .ptr k i f => one E (.ptr k i f) h
    | .clo f cs => one E (.clo f cs) h
    | _ => none

def o_not (call : CallD) (mvf : FuncId → Bool) (fx bn : List Nat) (E : Tr) (h : List Blk) (b : Nat) (x : Operand) : Option (List Res) :=
  match evT E x with
    | .v (.bool t) => one E (.b (!t)) h
    | _ => none

def o_neg (call : CallD) (mvf : FuncId → Bool) (fx bn : List Nat) (E : Tr) (h : List Blk) (b : Nat) (x : Operand) : Option (List Res) :=
  match evT E x with
    | .v (.int k a) => if lo k ≤ -a ∧ -a ≤ hi k then one E (.v (.int k (-a))) h else none
    | _ => none

def o_conv (call : CallD) (mvf : FuncId → Bool) (fx bn : List Nat) (E : Tr) (h : List Blk) (b : Nat) (ex : Bool) (k : IntKind) (x : Operand) : Option (List Res) :=
  match evT E x with
    | .v (.int _ a) => if ex then (if lo k ≤ a ∧ a ≤ hi k then one E (.v (.int k a)) h else none) else one E (.v (.int k (k.wrap a))) h
    | _ => none

def o_minmax (call : CallD) (mvf : FuncId → Bool) (fx bn : List Nat) (E : Tr) (h : List Blk) (b : Nat) (mx : Bool) (x : Operand) (y : Operand) : Option (List Res) :=
  match evT E x, evT E y with
    | .v (.int k a), .v (.int k' c) => if k' = k then one E (.v (.int k (if mx then max a c else min a c))) h else none
    | _, _ => none

def o_ext (call : CallD) (mvf : FuncId → Bool) (fx bn : List Nat) (E : Tr) (h : List Blk) (b : Nat) (x : Operand) (i : Nat) : Option (List Res) :=
  match evT E x with
    | .tup vs => oneO E vs[i]? h
    | _ => none

def o_field (call : CallD) (mvf : FuncId → Bool) (fx bn : List Nat) (E : Tr) (h : List Blk) (b : Nat) (off : Nat) (n : Option Nat) (x : Operand) : Option (List Res) :=
  match evT E x with
    | .agg cs => oneO E (loadCsD n off cs) h
    | _ => none

def o_slice (call : CallD) (mvf : FuncId → Bool) (fx bn : List Nat) (E : Tr) (h : List Blk) (b : Nat) (z : Nat) (x : Operand) (l : Option Operand) (u : Option Operand) (m : Option Operand) : Option (List Res) :=
  match optD (l.map (evT E)), optD (u.map (evT E)), optD (m.map (evT E)) with
    | some l, some u, some m => oneO E (slcD h z (evT E x) l u m) h
    | _, _, _ => none

def o_eqb (call : CallD) (mvf : FuncId → Bool) (fx bn : List Nat) (E : Tr) (h : List Blk) (b : Nat) (neg : Bool) (x : Operand) (y : Operand) : Option (List Res) :=
  match evT E x, evT E y with
    | .v (.bool p), .v (.bool q) => one E (.b (if neg then p != q else p == q)) h
    | _, _ => none

def o_eqn (call : CallD) (mvf : FuncId → Bool) (fx bn : List Nat) (E : Tr) (h : List Blk) (b : Nat) (neg : Bool) (x : Operand) (y : Operand) : Option (List Res) :=
  match evT E y with
    | .v _ => match eqnD (evT E x) with
      | some ts => some (ts.map fun t => ⟨.b (if neg then !t else t), E, h⟩)
      | none => none
    | _ => none

def o_lits (call : CallD) (mvf : FuncId → Bool) (fx bn : List Nat) (E : Tr) (h : List Blk) (b : Nat) (j : Nat) (sz : Nat) (n : Nat) (z : List Value) (ps : List (Nat × Operand)) : Option (List Res) :=
  match litsD E sz (List.replicate n (z.map .v)) ps with
    | some els => if freshB h (b + j) then one E (.sl (b + j) 0 n) (h.set (b + j) (.arr sz els)) else none
    | none => none

def o_litsf (call : CallD) (mvf : FuncId → Bool) (fx bn : List Nat) (E : Tr) (h : List Blk) (b : Nat) (xs : List Nat) (j : Nat) (sz : Nat) (n : Nat) (z : List Value) (ps : List (Nat × Operand)) : Option (List Res) :=
  match frzD (fx ++ bn) xs (E, h) with
    | some (E, h) => match litsD E sz (List.replicate n (z.map .v)) ps with
      | some els => if freshB h (b + j) then one E (.sl (b + j) 0 n) (h.set (b + j) (.arr sz els)) else none
      | none => none
    | none => none

def o_mk (call : CallD) (mvf : FuncId → Bool) (fx bn : List Nat) (E : Tr) (h : List Blk) (b : Nat) (j : Nat) (sz : Nat) (bytes : Nat) (z : List Value) (l : Operand) (c : Operand) : Option (List Res) :=
  match evT E l, evT E c with
    | .v (.int _ p), .v (.int _ q) => if ((0 ≤ p ∧ p ≤ q) ∧ (bytes : Int) * q ≤ 281474976710656 ∧ q ≤ 9223372036854775807) ∧ freshB h (b + j) = true then
        one E (.sl (b + j) 0 p.toNat) (h.set (b + j) (.arr sz (List.replicate p.toNat (z.map .v)))) else none
    | _, _ => none

def o_mkv (call : CallD) (mvf : FuncId → Bool) (fx bn : List Nat) (E : Tr) (h : List Blk) (b : Nat) (j : Nat) (sz : Nat) (bytes : Nat) (z : List Value) (l : Operand) (c : Operand) : Option (List Res) :=
  match evT E l, evT E c with
    | .v (.int _ p), .v (.int _ q) => if ((0 ≤ p ∧ p ≤ q) ∧ (bytes : Int) * q ≤ 281474976710656 ∧ q ≤ 9223372036854775807) ∧ freshB h (b + j) = true then
        one E (.sl (b + j) 0 p.toNat) (h.set (b + j) (.arv sz (List.replicate p.toNat (z.map .v)))) else none
    | _, _ => none

def o_mkmap (call : CallD) (mvf : FuncId → Bool) (fx bn : List Nat) (E : Tr) (h : List Blk) (b : Nat) (j : Nat) (r : Option Operand) : Option (List Res) :=
  if freshB h (b + j) then match r with
      | none => one E (.mp (b + j)) (h.set (b + j) (.map [] 0))
      | some x => match evT E x with
        | .v (.int _ _) => one E (.mp (b + j)) (h.set (b + j) (.map [] 0))
        | _ => none
    else none

def o_lookup (call : CallD) (mvf : FuncId → Bool) (fx bn : List Nat) (E : Tr) (h : List Blk) (b : Nat) (kd : TypeDesc) (z : Value) (ok : Bool) (m : Operand) (k : Operand) : Option (List Res) :=
  match evT E k with
    | .v key => if isKey kd key then match evT E m with
        | .v (.map none) => oneO E (lookD (some none) z ok) h
        | m => match mapD h m with
          | some (_, es, _) => oneO E (lookD (mfind kd key es 0) z ok) h
          | none => none
      else none
    | _ => none

def o_mset (call : CallD) (mvf : FuncId → Bool) (fx bn : List Nat) (E : Tr) (h : List Blk) (b : Nat) (kd : TypeDesc) (m : Operand) (k : Operand) (x : Operand) : Option (List Res) :=
  match evT E k with
    | .v key => if isKey kd key then match mapD h (evT E m) with
        | some (kb, es, c) => if hasN bn kb then none else match msetD (mfind kd key es 0) key (evT E x) es c with
          | some B => one E (.v (.tuple #[])) (h.set kb B)
          | none => none
        | none => none
      else none
    | _ => none

def o_mdel (call : CallD) (mvf : FuncId → Bool) (fx bn : List Nat) (E : Tr) (h : List Blk) (b : Nat) (kd : TypeDesc) (m : Operand) (k : Operand) : Option (List Res) :=
  match evT E k with
    | .v key => if isKey kd key then match mapD h (evT E m) with
        | some (kb, es, c) => if hasN bn kb then none else match mdelD (mfind kd key es 0) es c with
          | some B => one E (.v (.tuple #[])) (h.set kb B)
          | none => none
        | none => none
      else none
    | _ => none

def o_mlen (call : CallD) (mvf : FuncId → Bool) (fx bn : List Nat) (E : Tr) (h : List Blk) (b : Nat) (m : Operand) : Option (List Res) :=
  match mapD h (evT E m) with
    | some (_, es, _) => one E (.i es.length) h
    | none => none

def o_range (call : CallD) (mvf : FuncId → Bool) (fx bn : List Nat) (E : Tr) (h : List Blk) (b : Nat) (j : Nat) (m : Operand) : Option (List Res) :=
  match mapD h (evT E m) with
    | some (_, _, c) => if freshB h (b + j) then one E (.ptr (b + j) 0 0) (h.set (b + j) (.it (evT E m) c [] c)) else none
    | none => none

def o_next (call : CallD) (mvf : FuncId → Bool) (fx bn : List Nat) (E : Tr) (h : List Blk) (b : Nat) (i : Operand) : Option (List Res) :=
  match itD h (evT E i) with
    | some (k, m, since, seen, last) => match mapD h m with
      | some (_, es, c) => if hasN bn k then none else nextD E k m es c since seen last h
      | none => none
    | none => none

def o_entry (call : CallD) (mvf : FuncId → Bool) (fx bn : List Nat) (E : Tr) (h : List Blk) (b : Nat) (i : Operand) : Option (List Res) :=
  match itD h (evT E i) with
    | some (_, m, _, seen, last) => match mapD h m with
      | some (_, es, c) => if last = c then match seen.getLast? with
          | some st => match es.find? fun e => e.2.2 == st with
            | some e => one E (.tup [.v e.1, e.2.1]) h
            | none => none
          | none => none
        else none
      | none => none
    | none => none

def o_append (call : CallD) (mvf : FuncId → Bool) (fx bn : List Nat) (E : Tr) (h : List Blk) (b : Nat) (j : Nat) (sz : Nat) (bytes : Nat) (x : Operand) (y : Operand) : Option (List Res) :=
  match viewD h (evT E y) with
    | some (sz', new) => if new.isEmpty = true ∨ sz' = sz then appD E fx bn (b + j) sz bytes h (evT E x) new else none
    | none => none

def o_copy (call : CallD) (mvf : FuncId → Bool) (fx bn : List Nat) (E : Tr) (h : List Blk) (b : Nat) (sz : Nat) (x : Operand) (y : Operand) : Option (List Res) :=
  match viewD h (evT E y) with
    | some (sz', new) => if new.isEmpty = true ∨ sz' = sz then copyD E bn sz h (evT E x) new else none
    | none => none

def o_call (call : CallD) (mvf : FuncId → Bool) (fx bn : List Nat) (E : Tr) (h : List Blk) (b : Nat) (f : FuncId) (xs : List Operand) : Option (List Res) :=
  callD E call mvf fx bn f (xs.map (evT E)) h

def o_callv (call : CallD) (mvf : FuncId → Bool) (fx bn : List Nat) (E : Tr) (h : List Blk) (b : Nat) (f : Operand) (xs : List Operand) : Option (List Res) :=
  match evT E f with
    | .clo g cs => callD E call mvf fx bn g (xs.map (evT E) ++ cs) h
    | _ => none

def o_eqf (E : Tr) (h : List Blk) (neg : Bool) (ks : List (Nat × TypeDesc)) (x y : Operand) : Option (List Res) :=
  match aggC (evT E x), aggC (evT E y) with
  | some xs, some ys => match eqFsD xs ys ks with
    | some t => one E (.b (if neg then !t else t)) h
    | none => none
  | _, _ => none

def opD (call : CallD) (mvf : FuncId → Bool) (fx bn : List Nat) (o : LOp) (E : Tr) (h : List Blk) (b : Nat) : Option (List Res) :=
  match o with
  | .mov x => one E (evT E x) h
  | .pick c a d => o_pick call mvf fx bn E h b c a d
  | .box j x => o_box call mvf fx bn E h b j x
  | .alloc j z => o_alloc call mvf fx bn E h b j z
  | .load n a => oneO E (loadD h n (evT E a)) h
  | .store n a x => o_store call mvf fx bn E h b n a x
  | .fld off x => o_fld call mvf fx bn E h b off x
  | .idx z x i => o_idx call mvf fx bn E h b z x i
  | .bin op ex x y => o_bin call mvf fx bn E h b op ex x y
  | .shift op x y => o_shift call mvf fx bn E h b op x y
  | .len x => oneO E (lenD (evT E x)) h
  | .lens x => o_lens call mvf fx bn E h b x
  | .nilc x => o_nilc call mvf fx bn E h b x
  | .not x => o_not call mvf fx bn E h b x
  | .neg x => o_neg call mvf fx bn E h b x
  | .conv ex k x => o_conv call mvf fx bn E h b ex k x
  | .minmax mx x y => o_minmax call mvf fx bn E h b mx x y
  | .ext x i => o_ext call mvf fx bn E h b x i
  | .fn f caps => one E (.clo f (caps.map (evT E))) h
  | .field off n x => o_field call mvf fx bn E h b off n x
  | .slice z x l u m => o_slice call mvf fx bn E h b z x l u m
  | .build z ps => oneO E (buildD E (z.map .v) ps) h
  | .eqf neg ks x y => o_eqf E h neg ks x y
  | .eqb neg x y => o_eqb call mvf fx bn E h b neg x y
  | .eqn neg x y => o_eqn call mvf fx bn E h b neg x y
  | .lits j sz n z ps => o_lits call mvf fx bn E h b j sz n z ps
  | .litsf xs j sz n z ps => o_litsf call mvf fx bn E h b xs j sz n z ps
  | .mk j sz bytes z l c => o_mk call mvf fx bn E h b j sz bytes z l c
  | .mkv j sz bytes z l c => o_mkv call mvf fx bn E h b j sz bytes z l c
  | .mkmap j r => o_mkmap call mvf fx bn E h b j r
  | .lookup kd z ok m k => o_lookup call mvf fx bn E h b kd z ok m k
  | .mset kd m k x => o_mset call mvf fx bn E h b kd m k x
  | .mdel kd m k => o_mdel call mvf fx bn E h b kd m k
  | .mlen m => o_mlen call mvf fx bn E h b m
  | .range j m => o_range call mvf fx bn E h b j m
  | .next i => o_next call mvf fx bn E h b i
  | .entry i => o_entry call mvf fx bn E h b i
  | .append j sz bytes x y => o_append call mvf fx bn E h b j sz bytes x y
  | .copy sz x y => o_copy call mvf fx bn E h b sz x y
  | .call f xs => o_call call mvf fx bn E h b f xs
  | .callv f xs => o_callv call mvf fx bn E h b f xs
  | _ => none
end Go.Fx
