import Derived.Test.YtmddpcjkpbjkeaaFxFill
import Derived.ChangeKeysEq
import Derived.MapKept
set_option linter.unusedVariables false
set_option linter.unusedSimpArgs false
set_option linter.unusedSectionVars false
namespace Go.Fx
open Go.RowKit

/-- The cells of a zero value are plain. -/
def plainZ (z : Value) : Bool := z.cells.toList.all fun v => isD (.v v)

/-- A field of a plain kind. -/
def fldKind (P : Program) (f : Field) : Option (Nat × TypeDesc) :=
  if f.name ≠ "_" ∧ P.plainKey f.type = true then (P.underlying f.type).map fun d => (f.offset, d) else none

def rlCall (P : Program) (c : Call) (l : LOp) : Option LOp :=
  match c.callee, c.args.toList, c.argTypes.toList with
  | .builtin .len, [x], [t] => match P.underlying t with
    | some (.slice _) => some (.len x)
    | some .string => some (.lens x)
    | some (.map _ _) => some (.mlen x)
    | _ => none
  | .value (.func f), xs, _ => some (.call f xs)
  | .value f, xs, _ => some (.callv f xs)
  | .builtin .min, [x, y], _ => some (.minmax false x y)
  | .builtin .max, [x, y], _ => some (.minmax true x y)
  | .builtin .delete, [m, k], t :: _ => match P.underlying t with
    | some (.map kt _) => match P.underlying kt with
      | some kd => some (.mdel kd m k)
      | none => none
    | _ => none
  | .builtin .append, [x, y], [t, t'] => if t = t' then match P.underlying t, l with
      | some (.slice e), .append j _ _ _ _ => match P.info? e with
        | some i => match i.zero with
          | some z => if 0 < i.size ∧ z.cells.size = i.size ∧ 0 < i.bytes then some (.append j i.size i.bytes x y) else none
          | none => none
        | none => none
      | _, _ => none
    else none
  | .builtin .copy, [x, y], [t, t'] => match P.underlying t, P.underlying t' with
      | some (.slice e), some (.slice _) => match P.info? e with
        | some i => some (.copy i.size x y)
        | none => none
      | _, _ => none
  | _, _, _ => none

/-- What the tables say of an operation: the executor's operation made anew; the flags are taken from 'l'. -/
def rl0 (P : Program) (o : Op) (l : LOp) : Option LOp :=
  match o with
  | .move x | .assign x => some (.mov x)
  | .pick c a b => some (.pick c a b)
  | .box _ x => match l with
    | .box j _ => some (.box j x)
    | _ => none
  | .alloc t => match l with
    | .alloc j _ => match P.info? t with
      | some i => match i.zero with
        | some z => some (.alloc j z)
        | none => none
      | none => none
    | _ => none
  | .load t a => match P.info? t, P.underlying t with
    | some i, some d => some (.load (if d.isRow then some i.size else none) a)
    | _, _ => none
  | .store t a x => match P.info? t with
    | some i => some (.store i.size a x)
    | none => none
  | .fieldAddr s x f => match P.underlying s with
    | some (.struct fs) => match fs[f]? with
      | some fd => match P.info? fd.type with
        | some i => if i.size = 0 then none else some (.fld fd.offset x)
        | none => none
      | none => none
    | _ => none
  | .indexAddr t x i => match P.underlying t with
    | some (.slice e) => match P.info? e with
      | some inf => some (.idx inf.size x i)
      | none => none
    | _ => none
  | .binOp op t x y _ => match P.underlying t with
    | some (.int _) => match l with
      | .bin _ ex _ _ => some (.bin op ex x y)
      | .shift _ _ _ => some (.shift op x y)
      | _ => none
    | some .bool => match op with
      | .eql => some (.eqb false x y)
      | .neq => some (.eqb true x y)
      | _ => none
    | some (.struct fs) => if P.stoodInHeld t = false ∧ P.eqGuardType P.depth t = false then match fs.toList.mapM (fldKind P), op with
        | some ks, .eql => some (.eqf false ks x y)
        | some ks, .neq => some (.eqf true ks x y)
        | _, _ => none
      else none
    | some (.slice _) => match y with
      | .const (.slice none 0 0) => match op with
        | .eql => some (.eqn false x y)
        | .neq => some (.eqn true x y)
        | _ => none
      | _ => none
    | _ => none
  | .nilCheck x => some (.nilc x)
  | .unOp op _ x => match op with
    | .not => some (.not x)
    | .neg => some (.neg x)
    | _ => none
  | .convert s d x => match P.underlying s, P.underlying d, l with
    | some (.int _), some (.int k), .conv ex _ _ => some (.conv ex k x)
    | _, _, _ => none
  | .extract x i => some (.ext x i)
  | .makeFunc fn first caps => match fn with
    | .func f => if first.isEmpty then some (.fn f caps.toList) else none
    | _ => none
  | .field t x f => match P.underlying t with
    | some (.struct fs) => match fs[f]? with
      | some fd => match P.info? fd.type, P.underlying fd.type with
        | some i, some d => some (.field fd.offset (if d.isRow then some i.size else none) x)
        | _, _ => none
      | none => none
    | _ => none
  | .build t parts => match P.info? t, P.underlying t with
    | some it, some (.array _ e) => match it.zero, P.info? e with
      | some z, some ie => (parts.toList.mapM fun p => (some (p.1 * ie.size, ie.size) : Option (Nat × Nat)).map fun os => (os.1, os.2, p.2)).map (.build z.cells.toList)
      | _, _ => none
    | some it, some (.struct fields) => match it.zero, fields.toList.mapM (fun f => (P.info? f.type).map fun i => (f.offset, i.size)) with
      | some z, some places => (parts.toList.mapM fun p => (places.toArray[p.1]?).map fun os => (os.1, os.2, p.2)).map (.build z.cells.toList)
      | _, _ => none
    | _, _ => none
  | .buildSlice t n parts => match l with
    | .litsf xs j _ _ _ _ => match P.underlying t with
      | some (.slice e) => match P.info? e with
        | some i => match i.zero with
          | some z => if 0 < i.size ∧ z.cells.size = i.size ∧ n * i.size ≤ 16777216 ∧ plainZ z = true then some (.litsf xs j i.size n z.cells.toList parts.toList) else none
          | none => none
        | none => none
      | _ => none
    | .lits j _ _ _ _ => match P.underlying t with
      | some (.slice e) => match P.info? e with
        | some i => match i.zero with
          | some z => if 0 < i.size ∧ z.cells.size = i.size ∧ n * i.size ≤ 16777216 ∧ plainZ z = true then some (.lits j i.size n z.cells.toList parts.toList) else none
          | none => none
        | none => none
      | _ => none
    | _ => none
  | .makeMap t r => match l with
    | .mkmap j _ => match P.underlying t with
      | some (.map _ _) => some (.mkmap j r)
      | _ => none
    | _ => none
  | .lookup t m k ok => match P.underlying t with
    | some (.map kt e) => match P.underlying kt, P.info? e with
      | some kd, some i => match i.zero with
        | some z => some (.lookup kd z ok m k)
        | none => none
      | _, _ => none
    | _ => none
  | .mapUpdate t m k x | .insert t m k x => match P.underlying t with
    | some (.map kt _) => match P.underlying kt with
      | some kd => some (.mset kd m k x)
      | none => none
    | _ => none
  | .range t m => match l with
    | .range j _ => match P.underlying t with
      | some (.map _ _) => some (.range j m)
      | _ => none
    | _ => none
  | .next i s => if s then none else some (.next i)
  | .entry i => some (.entry i)
  | .makeSlice t a b => match l with
    | .mkv j _ _ _ _ _ => match P.underlying t with
      | some (.slice e) => match P.info? e with
        | some i => match i.zero with
          | some z => if 0 < i.size ∧ z.cells.size = i.size ∧ plainZ z = true then some (.mkv j i.size i.bytes z.cells.toList a b) else none
          | none => none
        | none => none
      | _ => none
    | .mk j _ _ _ _ _ => match P.underlying t with
      | some (.slice e) => match P.info? e with
        | some i => match i.zero with
          | some z => if 0 < i.size ∧ z.cells.size = i.size ∧ plainZ z = true then some (.mk j i.size i.bytes z.cells.toList a b) else none
          | none => none
        | none => none
      | _ => none
    | _ => none
  | .slice t x lo hi mx => match P.underlying t with
    | some (.slice e) => match P.info? e with
      | some i => if mx.isSome && hi.isNone then none else some (.slice i.size x lo hi mx)
      | none => none
    | _ => none
  | .call c => rlCall P c l
  | _ => none

/-- .. or what is never come to. -/
def rl (P : Program) (o : Op) (l : LOp) : Option LOp :=
  match l with
  | .bad => some .bad
  | l => rl0 P o l

theorem rl_cases {P : Program} {o : Op} {l0 l : LOp} (h : rl P o l0 = some l) : l = .bad ∨ rl0 P o l0 = some l := by
  unfold rl at h
  split at h
  · simp only [Option.some.injEq] at h; exact .inl h.symm
  · exact .inr h

def quietOp : LOp → Bool
  | .mov _ | .pick _ _ _ | .load _ _ | .fld _ _ | .idx _ _ _ | .bin _ _ _ _ | .len _ | .lens _ | .nilc _ | .not _ | .neg _ | .conv _ _ _ | .minmax _ _ _ | .shift _ _ _ | .ext _ _ | .fn _ _ | .field _ _ _ | .slice _ _ _ _ _ | .build _ _ | .eqb _ _ _ | .eqf _ _ _ _ | .eqn _ _ _ => true
  | _ => false

/-- Nothing that was there has turned. -/
def Ext (w w' : World) : Prop := ∀ b, b < w.heap.size → w'.heap[b]? = w.heap[b]?
theorem Ext.refl (w : World) : Ext w w := fun _ _ => rfl

def QRun (P : Program) (o : Oper) (a : Act) (w : World) (val : Value) : Prop :=
  ∀ w', Ext w w' → (execOp a.eval o).run P w' = .ok (.value val) w'

theorem Addr.add_none (b o j : Nat) : (⟨b, o, none⟩ : Addr).add j = ⟨b, o + j, none⟩ := Addr.add_mid b o j

theorem run_indexAt {P : Program} {w : World} {t e : TypeId} {inf : TypeInfo} {k : IntKind} {n : Int} {b o len cap : Nat} (ht : P.underlying t = some (.slice e)) (hi : P.info? e = some inf) (h0 : 0 ≤ n) (h1 : n < len) :
    (Instr.indexAt t (.slice (some ⟨b, o, none⟩) len cap) (.int k n)).run P w = .ok (.pointer (some ⟨b, o + n.toNat * inf.size, none⟩)) w := by
  simp [Instr.indexAt, asIntOf, run_underlying ht, h0, h1, sizeOf, typeInfo, hi, Addr.add_none]

theorem run_fieldAt {P : Program} {w : World} {s : TypeId} {fs : Array Field} {f : Nat} {fd : Field} {inf : TypeInfo} {b o : Nat} (hs : P.underlying s = some (.struct fs)) (hf : fs[f]? = some fd) (hi : P.info? fd.type = some inf) (hz : inf.size ≠ 0) :
    (Instr.fieldAt s (.pointer (some ⟨b, o, none⟩)) f).run P w = .ok (.pointer (some ⟨b, o + fd.offset, none⟩)) w := by
  simp [Instr.fieldAt, run_underlying hs, hf, Instr.sureAddr, fieldPlace, sizeOf, typeInfo, hi, hz, Addr.add_none]

theorem run_isAgg {P : Program} {w : World} {t : TypeId} {d : TypeDesc} (h : P.underlying t = some d) : (isAgg t).run P w = .ok d.isRow w := by
  unfold isAgg
  rw [Sem.run_bind, run_underlying h w]
  cases d <;> simp [TypeDesc.isRow]

theorem run_load1 {P : Program} {w : World} {t : TypeId} {d : TypeDesc} {b o : Nat} {val : Value} (h : P.underlying t = some d) (hd : d.isRow = false) (hc : w.cell? ⟨b, o, none⟩ = some val) :
    (Instr.loadAt t (.pointer (some ⟨b, o, none⟩))).run P w = .ok val w := by
  simp [Instr.loadAt, Instr.sureAddr, loadVar, run_isAgg h, hd, load, Sem.run, hc]

theorem run_loadN {P : Program} {w : World} {t : TypeId} {d : TypeDesc} {b o : Nat} {inf : TypeInfo} (h : P.underlying t = some d) (hd : d.isRow = true) (hi : P.info? t = some inf) (cs : List Value) (hl : cs.length = inf.size)
    (hc : ∀ j v, cs[j]? = some v → w.cell? ⟨b, o + j, none⟩ = some v) :
    (Instr.loadAt t (.pointer (some ⟨b, o, none⟩))).run P w = .ok (.agg cs.toArray) w :=
  run_loadAt_mid w b o t cs d hc h hd (by rw [hi]; simp [hl])

section
variable {ρ : Nat → Loc} {X : Nat → Prop} {w : World} {P : Program}

theorem Ext.cell {w w' : World} (h : Ext w w') {b o : Nat} {v : Value} (hc : w.cell? ⟨b, o, none⟩ = some v) : w'.cell? ⟨b, o, none⟩ = some v := by
  have hb : b < w.heap.size := World.block_lt_of_cell? w ⟨b, o, none⟩ hc
  rw [cell_of_heap (h b hb)]
  exact hc

/-- Block b is as it was. -/
def ExtAt (b : Nat) (w w' : World) : Prop := b < w.heap.size → w'.heap[b]? = w.heap[b]?
theorem ExtAt.cell {w w' : World} {b o : Nat} (h : ExtAt b w w') {v : Value} (hc : w.cell? ⟨b, o, none⟩ = some v) : w'.cell? ⟨b, o, none⟩ = some v := by
  have hb : b < w.heap.size := World.block_lt_of_cell? w ⟨b, o, none⟩ hc
  rw [cell_of_heap (h hb)]
  exact hc

/-- The cells of a list, from a place on. -/
theorem cells_of_vals {b off : Nat} {cs : List V} (hg : ∀ (f : Nat) (x : V), cs[f]? = some x → ∃ val, w.cell? ⟨b, off + f, none⟩ = some val ∧ RepV ρ X w x val) :
    ∃ vs : List Value, vs.length = cs.length ∧ (∀ j v, vs[j]? = some v → w.cell? ⟨b, off + j, none⟩ = some v) ∧ RepL ρ X w cs vs := by
  induction cs generalizing off with
  | nil => exact ⟨[], rfl, fun j v h => by simp at h, trivial⟩
  | cons x r ih =>
    obtain ⟨val, h1, h2⟩ := hg 0 x rfl
    obtain ⟨vs, h3, h4, h5⟩ := ih (off := off + 1) (fun f y hy => by
      obtain ⟨v, h6, h7⟩ := hg (f + 1) y (by simpa using hy)
      exact ⟨v, by rw [show off + 1 + f = off + (f + 1) by omega]; exact h6, h7⟩)
    refine ⟨val :: vs, by simp [h3], fun j v hv => ?_, h2, h5⟩
    cases j with
    | zero => simp at hv; subst hv; simpa using h1
    | succ j =>
      have := h4 j v (by simpa using hv)
      rw [show off + (j + 1) = off + 1 + j by omega]
      exact this

/-- A load: what 'loadCs' asks of cells that are there. -/
theorem loadCs_run {t : TypeId} {n : Option Nat} {b off f : Nat} {cs : List V} {K : V → Prop} {inf : TypeInfo} {d : TypeDesc}
    (hi : P.info? t = some inf) (hu : P.underlying t = some d) (hn : (if d.isRow then some inf.size else none) = n)
    (hg : ∀ (g : Nat) (x : V), cs[g]? = some x → ∃ val, w.cell? ⟨b, off + g, none⟩ = some val ∧ RepV ρ X w x val)
    (h : loadCs n f cs K) : ∃ x val, K x ∧ RepV ρ X w x val ∧ ∀ w', ExtAt b w w' → (Instr.loadAt t (.pointer (some ⟨b, off + f, none⟩))).run P w' = .ok val w' := by
  by_cases hd : d.isRow = true
  · rw [if_pos hd] at hn
    subst hn
    obtain ⟨h1, h2⟩ := h
    obtain ⟨vs, h3, h4, h5⟩ := cells_of_vals (ρ := ρ) (X := X) (w := w) (b := b) (off := off + f) (cs := (cs.drop f).take inf.size) (fun g x hx => by
      have hx' : cs[f + g]? = some x := by
        rw [List.getElem?_take] at hx
        split at hx
        · simpa using hx
        · simp at hx
      obtain ⟨v, h6, h7⟩ := hg (f + g) x hx'
      exact ⟨v, by rw [show off + f + g = off + (f + g) by omega]; exact h6, h7⟩)
    have hl : vs.length = inf.size := by rw [h3]; simp; omega
    refine ⟨_, .agg vs.toArray, h2, ⟨vs.toArray, rfl, h5⟩, fun w' he => ?_⟩
    exact run_loadN hu hd hi vs hl (fun j v hv => he.cell (h4 j v hv))
  · rw [if_neg hd] at hn
    subst hn
    simp only [loadCs] at h
    cases hx : cs[f]? with
    | none => rw [hx] at h; exact h.elim
    | some x =>
      rw [hx] at h
      obtain ⟨v, h6, h7⟩ := hg f x hx
      exact ⟨x, v, h, h7, fun w' he => run_load1 hu (by simpa using hd) (he.cell h6)⟩

theorem vals_of_var {cs : List V} {b : Nat} {c : Array Value} {T : TypeId} {fz : Nat × Nat} (hh : w.heap[b]? = some (.cells c T fz)) (hl : RepL ρ X w cs c.toList) :
    ∀ (g : Nat) (x : V), cs[g]? = some x → ∃ val, w.cell? ⟨b, 0 + g, none⟩ = some val ∧ RepV ρ X w x val := by
  intro g x hx
  obtain ⟨v, h1, h2⟩ := RepL_get hl hx
  refine ⟨v, ?_, h2⟩
  simp [World.cell?, hh]
  simpa using h1

theorem vals_of_els {sz b off i : Nat} {els : List (List V)} {e : List V} (hl : RepEls (Sta ρ X w) w sz b off els) (he : els[i]? = some e) :
    ∀ (g : Nat) (x : V), e[g]? = some x → ∃ val, w.cell? ⟨b, off + i * sz + g, none⟩ = some val ∧ RepV ρ X w x val := by
  intro g x hx
  obtain ⟨_, h1⟩ := RepEls_get hl he
  obtain ⟨v, h2, h3⟩ := RepCs_get h1 hx
  exact ⟨v, h2, RepV_of_D h3⟩

/-- The block that a load reads. -/
def LoadBk (ρ : Nat → Loc) (w : World) (p : V) (b : Nat) : Prop :=
  match p with
  | .ptr k _ _ => (ρ k).real = true ∧ (ρ k).blk = b
  | .rp _ _ _ _ => Len ρ w b
  | _ => False

theorem load_at {t : TypeId} {n : Option Nat} {h : List Blk} {p : V} {pv : Value} {K : V → Prop} {inf : TypeInfo} {d : TypeDesc}
    (hr : Rep ρ X w h) (hi : P.info? t = some inf) (hu : P.underlying t = some d) (hn : (if d.isRow then some inf.size else none) = n)
    (hp : RepV ρ X w p pv) (hk : loadP h n p K) : ∃ x val, K x ∧ RepV ρ X w x val ∧ ∃ b, LoadBk ρ w p b ∧ ∀ w', ExtAt b w w' → (Instr.loadAt t pv).run P w' = .ok val w' := by
  cases p with
  | ptr k i f =>
    obtain ⟨h1, rfl⟩ := hp
    simp only [loadP, blk] at hk
    cases hb : h[k]? with
    | none => simp [hb, loadB] at hk
    | some B =>
      have hB := hr.blk k B hb
      rw [List.getD_eq_getElem?_getD, hb] at hk
      cases B with
      | dead => exact hk.elim
      | var cs =>
        obtain ⟨⟨_, hoff, hsz⟩, c, T, hh, hl⟩ := hB
        have h2 : loadCs n f cs K := hk
        obtain ⟨x, val, g1, g2, g3⟩ := loadCs_run (ρ := ρ) (X := X) hi hu hn (b := (ρ k).blk) (off := 0) (vals_of_var hh hl) h2
        exact ⟨x, val, g1, g2, _, ⟨h1, rfl⟩, fun w' hw' => by simpa [hoff, hsz] using g3 w' hw'⟩
      | arr sz els =>
        obtain ⟨⟨hsz, hpos⟩, hor⟩ := hB
        obtain ⟨hlt, h2⟩ : ∃ hi : i < els.length, loadCs n f (els[i]'hi) K := hk
        rcases hor with ⟨_, rfl⟩ | ⟨_, c, T, hh, hc, hroom, hels⟩
        · simp at hlt
        · obtain ⟨x, val, g1, g2, g3⟩ := loadCs_run (ρ := ρ) (X := X) hi hu hn (vals_of_els hels (List.getElem?_eq_getElem hlt)) h2
          exact ⟨x, val, g1, g2, _, ⟨h1, rfl⟩, fun w' hw' => by rw [hsz]; exact g3 w' hw'⟩
      | arv sz els =>
        obtain ⟨⟨hsz, hpos⟩, _, c, T, hh, hc, hroom, hels⟩ := hB
        obtain ⟨hlt, h2⟩ : ∃ hi : i < els.length, loadCs n f (els[i]'hi) K := hk
        obtain ⟨x, val, g1, g2, g3⟩ := loadCs_run (ρ := ρ) (X := X) hi hu hn (b := (ρ k).blk) (off := (ρ k).off + i * sz) (fun g x hx => by
          obtain ⟨u, h3, h4⟩ := (hels i _ (List.getElem?_eq_getElem hlt)).2 g x hx
          exact ⟨u, by simpa [World.cell?, hh] using h3, h4⟩) h2
        exact ⟨x, val, g1, g2, _, ⟨h1, rfl⟩, fun w' hw' => by rw [hsz]; exact g3 w' hw'⟩
      | map _ _ => exact hk.elim
      | it _ _ _ _ => exact hk.elim
  | rp sz els i f =>
    obtain ⟨b, off, rfl, h1, h2⟩ := hp
    obtain ⟨hlt, h3⟩ := hk
    obtain ⟨x, val, g1, g2, g3⟩ := loadCs_run (ρ := ρ) (X := X) hi hu hn (vals_of_els h2 (List.getElem?_eq_getElem hlt)) h3
    exact ⟨x, val, g1, g2, b, h1, g3⟩
  | _ => exact hk.elim

theorem load_run {t : TypeId} {n : Option Nat} {h : List Blk} {p : V} {pv : Value} {K : V → Prop} {inf : TypeInfo} {d : TypeDesc}
    (hr : Rep ρ X w h) (hi : P.info? t = some inf) (hu : P.underlying t = some d) (hn : (if d.isRow then some inf.size else none) = n)
    (hp : RepV ρ X w p pv) (hk : loadP h n p K) : ∃ x val, K x ∧ RepV ρ X w x val ∧ ∀ w', Ext w w' → (Instr.loadAt t pv).run P w' = .ok val w' := by
  obtain ⟨x, val, h1, h2, b, _, h3⟩ := load_at hr hi hu hn hp hk
  exact ⟨x, val, h1, h2, fun w' hw' => h3 w' (hw' b)⟩

theorem binInt_run {op : BinOp} {ex : Bool} {t : TypeId} {k : IntKind} {a b : Int} {K : V → Prop} (hk : binInt op ex k a b K) (hwrap : ∀ c : Int, lo k ≤ c ∧ c ≤ hi k → k.wrap c = c) :
    ∃ x val, K x ∧ RepV ρ X w x val ∧ ∀ w', (binOp op t (.int k a) (.int k b)).run P w' = .ok val w' := by
  cases op <;> simp only [binInt] at hk <;> try exact hk.elim
  case add | sub | mul =>
    split at hk
    · exact ⟨_, _, hk.2, rfl, fun w' => by simp [binOp, Op.intArith, hwrap _ hk.1]⟩
    · exact ⟨_, _, hk, rfl, fun w' => by simp [binOp, Op.intArith]⟩
  case quo =>
    obtain ⟨h0, hk⟩ := hk
    split at hk
    · exact ⟨_, _, hk.2, rfl, fun w' => by simp [binOp, Op.intDiv, h0, hwrap _ hk.1]⟩
    · exact ⟨_, _, hk, rfl, fun w' => by simp [binOp, Op.intDiv, h0]⟩
  case rem =>
    obtain ⟨h0, hk⟩ := hk
    exact ⟨_, _, hk, rfl, fun w' => by simp [binOp, Op.intDiv, h0]⟩
  case and | or | xor | andNot => exact ⟨_, _, hk, rfl, fun w' => by simp [binOp, Op.intBits]⟩
  all_goals exact ⟨_, _, hk, rfl, fun w' => by simp [binOp, Op.intCmp]⟩

theorem intK_inv {x : V} {K : IntKind → Int → Prop} (h : intK x K) : ∃ k a, x = .v (.int k a) ∧ K k a := by
  unfold intK at h
  split at h
  · exact ⟨_, _, rfl, h⟩
  · exact h.elim

theorem wrap_in (k : IntKind) (c : Int) (h : lo k ≤ c ∧ c ≤ hi k) : k.wrap c = c := by
  cases k <;> simp only [lo, hi] at h <;> simp [IntKind.wrap, IntKind.signed, IntKind.bits] <;> omega

theorem run_len_slice {t e : TypeId} {ty : TypeId} {a : Option Addr} {n c : Nat} (ht : P.underlying t = some (.slice e)) (w' : World) :
    (Builtin.len_ #[t] ty #[.slice a n c]).run P w' = .ok (.int .i64 n) w' := by
  simp [Builtin.len_, run_underlying ht, goInt]

theorem toArray_of {α : Type} {xs : Array α} {l : List α} (h : xs.toList = l) : xs = l.toArray := by subst h; simp

theorem lenP_run {t ty e : TypeId} {x : V} {val : Value} {K : V → Prop} (hu : P.underlying t = some (.slice e)) (hx : RepV ρ X w x val) (hk : lenP x K) :
    ∃ y u, K y ∧ RepV ρ X w y u ∧ ∀ w', (Builtin.len_ #[t] ty #[val]).run P w' = .ok u w' := by
  unfold lenP at hk
  split at hk
  · obtain ⟨cap, h1, h2, h3⟩ := hx
    refine ⟨_, _, hk (by omega), rfl, fun w' => ?_⟩
    rcases h3 with ⟨h4, a, rfl⟩ | ⟨_, rfl, _⟩
    · rw [run_len_slice hu]
      simp; omega
    · rw [run_len_slice hu]
  · obtain ⟨a, len, cap, rfl, rfl, h3, h4, _⟩ := hx
    exact ⟨_, _, hk (by omega), rfl, fun w' => run_len_slice hu w'⟩
  · obtain ⟨a, len, cap, rfl, rfl, h3, h4, _⟩ := hx
    exact ⟨_, _, hk (by omega), rfl, fun w' => run_len_slice hu w'⟩
  · obtain ⟨a, len, rfl, rfl, h3, _⟩ := hx
    exact ⟨_, _, hk (by omega), rfl, fun w' => run_len_slice hu w'⟩
  · have hx' : val = .slice none 0 0 := hx
    subst hx'
    exact ⟨_, _, hk, rfl, fun w' => run_len_slice hu w'⟩
  · exact hk.elim

theorem bounds_nat {n : Int} {m : Nat} (h : 0 ≤ n ∧ n < m) : n.toNat < m := by omega

theorem idxP_run {t e : TypeId} {inf : TypeInfo} {h : List Blk} {x : V} {val : Value} {k : IntKind} {n : Int} {K : V → Prop} (ht : P.underlying t = some (.slice e)) (hi : P.info? e = some inf) (hr : Rep ρ X w h) (hx : RepV ρ X w x val) (hk : idxP h inf.size n x K) :
    ∃ y u, K y ∧ RepV ρ X w y u ∧ ∀ w', (Instr.indexAt t val (.int k n)).run P w' = .ok u w' := by
  unfold idxP at hk
  split at hk
  · rename_i j i0 m
    obtain ⟨h1, h2, h3⟩ := hk
    have hsz : (ρ j).sz = inf.size := by
      unfold arrSz blk at h1
      rw [List.getD_eq_getElem?_getD] at h1
      cases hb : h[j]? with
      | none => simp [hb] at h1
      | some B =>
        rw [hb] at h1
        have hB := hr.blk j B hb
        cases B with
        | arr s els =>
          obtain ⟨⟨h4, _⟩, _⟩ := hB
          have h1' : s = inf.size := h1
          rw [h4, h1']
        | arv s els =>
          obtain ⟨⟨h4, _⟩, _⟩ := hB
          have h1' : s = inf.size := h1
          rw [h4, h1']
        | _ => exact h1.elim
    obtain ⟨cap, h4, h5, h6⟩ := hx
    rcases h6 with ⟨rfl, a, rfl⟩ | ⟨hreal, rfl, hroom⟩
    · omega
    · refine ⟨_, _, h3, ⟨hreal, rfl⟩, fun w' => ?_⟩
      rw [run_indexAt ht hi h2.1 h2.2]
      simp only [Result.ok.injEq, Value.pointer.injEq, Option.some.injEq, Addr.mk.injEq, true_and, and_true]
      rw [hsz, Nat.add_mul]
      omega
  all_goals first | (exact hk.elim; done) | skip
  all_goals
    obtain ⟨h1, h2, h3⟩ := hk
    subst h1
  · obtain ⟨a, len, cap, rfl, rfl, h4, h5, h6⟩ := hx
    rcases h6 with rfl | ⟨b, off, rfl, h7, h8⟩
    · simp at h2; omega
    · exact ⟨_, _, h3, ⟨b, off, rfl, ⟨h7.1, h7.2.1⟩, h8⟩, fun w' => by rw [run_indexAt ht hi h2.1 h2.2]; simp⟩
  · obtain ⟨a, len, cap, rfl, rfl, h4, h5, h6⟩ := hx
    rcases h6 with rfl | ⟨b, off, rfl, h7, h8⟩
    · simp at h2; omega
    · exact ⟨_, _, h3, ⟨b, off, rfl, h7, h8⟩, fun w' => by rw [run_indexAt ht hi h2.1 h2.2]; simp⟩
  · obtain ⟨a, len, rfl, rfl, h4, h6⟩ := hx
    rcases h6 with rfl | ⟨b, off, rfl, h7, h8⟩
    · simp at h2; omega
    · exact ⟨_, _, h3, ⟨b, off, rfl, h7, h8⟩, fun w' => by rw [run_indexAt ht hi h2.1 h2.2]; simp⟩

theorem boolK_inv {x : V} {K : Bool → Prop} (h : boolK x K) : ∃ t, x = .v (.bool t) ∧ K t := by
  unfold boolK at h
  split at h
  · exact ⟨_, rfl, h⟩
  · exact h.elim

theorem optI_inv {o : Option V} {K : Option Int → Prop} (h : optI o K) : (o = none ∧ K none) ∨ ∃ k n, o = some (.v (.int k n)) ∧ K (some n) := by
  unfold optI at h
  split at h
  · exact .inl ⟨rfl, h⟩
  · exact .inr ⟨_, _, rfl, h⟩
  · exact h.elim

/-- What a bound's value is. -/
def BndRep (o : Option Value) (n : Option Int) : Prop := (o = none ∧ n = none) ∨ ∃ k i, o = some (.int k i) ∧ n = some i

theorem bnd_of {e : Env} {a : Act} (he : RepE ρ X w e a.tmps) {o : Option Operand} {K : Option Int → Prop} (h : optI (o.map (ev e)) K) : ∃ n, BndRep (o.map a.eval) n ∧ K n := by
  rcases optI_inv h with ⟨h1, h2⟩ | ⟨k, n, h1, h2⟩
  · cases o with
    | none => exact ⟨none, .inl ⟨rfl, rfl⟩, h2⟩
    | some x => simp at h1
  · cases o with
    | none => simp at h1
    | some x =>
      simp only [Option.map_some, Option.some.injEq] at h1
      have := ev_rep he x
      rw [h1] at this
      have this' : a.eval x = .int k n := this
      exact ⟨some n, .inr ⟨k, n, by simp [this'], rfl⟩, h2⟩

theorem bnd_run {v : Value} {k : IntKind} {n : Int} {y : Nat} {code : BoundsCode} {w' : World} (hv : v = .int k n) (h0 : 0 ≤ n) (h1 : n ≤ y) : (Instr.sliceBound v y code).run P w' = .ok n.toNat w' := by
  subst hv
  simp [Instr.sliceBound, asIntOf, h0, h1]

/-- The run of a slice expression over a slice. -/
theorem slice_run {t e : TypeId} {inf : TypeInfo} {a : Option Addr} {len cap : Nat} {lo hi mx : Option Value} {l u m : Option Int} (ht : P.underlying t = some (.slice e)) (hi' : P.info? e = some inf) (hl : BndRep lo l) (hu : BndRep hi u) (hm : BndRep mx m)
    (hok : slcOk len l u m) (hmx : mx ≠ none → hi ≠ none) (hlc : len ≤ cap) :
    ∃ c, (u.getD len).toNat ≤ c ∧ c ≤ cap ∧ ∀ w',
      (Instr.sliceAt t (.slice a len cap) lo hi mx).run P w' = .ok (.slice (if c = (l.getD 0).toNat then a else a.map (·.add ((l.getD 0).toNat * inf.size))) ((u.getD len).toNat - (l.getD 0).toNat) (c - (l.getD 0).toNat)) w' := by
  obtain ⟨⟨h1, h2⟩, h3, h4⟩ := hok
  have hrun : ∀ (w' : World) (x : Nat × Nat × Nat), (Instr.sliceBounds true len cap lo hi mx).run P w' = .ok x w' →
      (Instr.sliceAt t (.slice a len cap) lo hi mx).run P w' = .ok (.slice (if x.2.2 = x.1 then a else a.map (·.add (x.1 * inf.size))) (x.2.1 - x.1) (x.2.2 - x.1)) w' := by
    intro w' x hx
    simp [Instr.sliceAt, Instr.slice, run_underlying ht, hx, sizeOf, typeInfo, hi']
  rcases hm with ⟨rfl, rfl⟩ | ⟨km, im, rfl, rfl⟩
  · simp only [Option.getD_none] at h3 h4
    refine ⟨cap, by omega, Nat.le_refl _, fun w' => hrun w' ((l.getD 0).toNat, (u.getD len).toNat, cap) ?_⟩
    rcases hu with ⟨rfl, rfl⟩ | ⟨ku, iu, rfl, rfl⟩ <;> rcases hl with ⟨rfl, rfl⟩ | ⟨kl, il, rfl, rfl⟩ <;> simp only [Option.getD_none, Option.getD_some] at h1 h2 h3
    · simp [Instr.sliceBounds]
    · simp [Instr.sliceBounds, bnd_run (P := P) rfl h1 h2]
    · simp [Instr.sliceBounds, bnd_run (P := P) rfl h2 (show iu ≤ (cap : Int) by omega)]
    · have e1 : (iu.toNat : Int) = iu := by omega
      simp [Instr.sliceBounds, bnd_run (P := P) rfl (show 0 ≤ iu by omega) (show iu ≤ (cap : Int) by omega), bnd_run (P := P) rfl h1 (show il ≤ (iu.toNat : Int) by omega)]
  · simp only [Option.getD_some] at h3 h4
    rcases hu with ⟨rfl, rfl⟩ | ⟨ku, iu, rfl, rfl⟩
    · exact absurd rfl (hmx (by simp))
    · simp only [Option.getD_some] at h2 h3
      have b1 : ∀ w' code, (Instr.sliceBound (.int km im) cap code).run P w' = .ok im.toNat w' := fun w' code => bnd_run rfl (by omega) (by omega)
      have b2 : ∀ w' code, (Instr.sliceBound (.int ku iu) im.toNat code).run P w' = .ok iu.toNat w' := fun w' code => bnd_run rfl (by omega) (by omega)
      refine ⟨im.toNat, by simp; omega, by omega, fun w' => hrun w' ((l.getD 0).toNat, iu.toNat, im.toNat) ?_⟩
      rcases hl with ⟨rfl, rfl⟩ | ⟨kl, il, rfl, rfl⟩ <;> simp only [Option.getD_none, Option.getD_some] at h1 h2
      · simp [Instr.sliceBounds, b1, b2]
      · have b3 : ∀ w' code, (Instr.sliceBound (.int kl il) iu.toNat code).run P w' = .ok il.toNat w' := fun w' code => bnd_run rfl (by omega) (by omega)
        simp [Instr.sliceBounds, b1, b2, b3]

theorem slc_els {S : Nat → Prop} {sz b off l n : Nat} {els : List (List V)} (h : RepEls S w sz b off els) : RepEls S w sz b (off + l * sz) ((els.drop l).take n) :=
  RepEls_mk fun j e he => by
    have he' : els[l + j]? = some e := by
      rw [List.getElem?_take] at he
      split at he
      · simpa using he
      · cases he
    have := RepEls_get h he'
    rw [Nat.add_mul] at this
    rw [Nat.add_assoc]
    exact this

theorem slcP_run {t e : TypeId} {inf : TypeInfo} {h : List Blk} {x : V} {val : Value} {lo hi mx : Option Value} {l u m : Option Int} {K : V → Prop} (ht : P.underlying t = some (.slice e)) (hi' : P.info? e = some inf) (hr : Rep ρ X w h) (hx : RepV ρ X w x val)
    (hl : BndRep lo l) (hu : BndRep hi u) (hm : BndRep mx m) (hmx : mx ≠ none → hi ≠ none) (hk : slcP h inf.size x l u m K) :
    ∃ y v, K y ∧ RepV ρ X w y v ∧ ∀ w', (Instr.sliceAt t val lo hi mx).run P w' = .ok v w' := by
  unfold slcP at hk
  split at hk
  · rename_i j i0 n
    obtain ⟨h1, hok, h3⟩ := hk
    have hsz : (ρ j).sz = inf.size := by
      unfold arrSz blk at h1
      rw [List.getD_eq_getElem?_getD] at h1
      cases hb : h[j]? with
      | none => simp [hb] at h1
      | some B =>
        rw [hb] at h1
        have hB := hr.blk j B hb
        cases B with
        | arr s els =>
          obtain ⟨⟨h4, _⟩, _⟩ := hB
          have h1' : s = inf.size := h1
          rw [h4, h1']
        | arv s els =>
          obtain ⟨⟨h4, _⟩, _⟩ := hB
          have h1' : s = inf.size := h1
          rw [h4, h1']
        | _ => exact h1.elim
    obtain ⟨cap, h4, h5, h6⟩ := hx
    have hok' := hok
    obtain ⟨⟨g1, g2⟩, g3, g4⟩ := hok'
    rcases h6 with ⟨rfl, a, rfl⟩ | ⟨hreal, rfl, hroom⟩
    · have hn : n = 0 := by omega
      subst hn
      obtain ⟨c, c1, c2, hrun⟩ := slice_run (a := a) ht hi' hl hu hm hok hmx (Nat.le_refl 0)
      have hc : c = 0 := by omega
      subst hc
      have hl0 : (l.getD 0).toNat = 0 := by omega
      have hu0 : (u.getD (0 : Nat)).toNat = 0 := by omega
      refine ⟨_, _, h3, ⟨0, by omega, Nat.zero_le _, .inl ⟨rfl, a, rfl⟩⟩, fun w' => ?_⟩
      rw [hrun w', hl0, hu0]
      simp
    · obtain ⟨c, c1, c2, hrun⟩ := slice_run (a := some ⟨(ρ j).blk, (ρ j).off + i0 * (ρ j).sz, none⟩) ht hi' hl hu hm hok hmx h4
      by_cases hc : c = (l.getD 0).toNat
      · refine ⟨_, _, h3, ⟨0, by omega, Nat.zero_le _, .inl ⟨rfl, some ⟨(ρ j).blk, (ρ j).off + i0 * (ρ j).sz, none⟩, rfl⟩⟩, fun w' => ?_⟩
        rw [hrun w', if_pos hc]
        congr 2 <;> omega
      · refine ⟨_, _, h3, ⟨c - (l.getD 0).toNat, by omega, by omega, .inr ⟨hreal, rfl, ?_⟩⟩, fun w' => ?_⟩
        · have : (i0 + (l.getD 0).toNat + (c - (l.getD 0).toNat)) * (ρ j).sz ≤ (i0 + cap) * (ρ j).sz := Nat.mul_le_mul_right _ (by omega)
          omega
        · rw [hrun w', if_neg hc]
          simp only [Option.map_some, Addr.add_none, hsz, Nat.add_mul, Nat.add_assoc]
  · rename_i sz els
    obtain ⟨rfl, hok, h3⟩ := hk
    obtain ⟨a, len, cap, rfl, rfl, h4, h5, h6⟩ := hx
    obtain ⟨c, c1, c2, hrun⟩ := slice_run (a := a) ht hi' hl hu hm hok hmx h4
    obtain ⟨⟨g1, g2⟩, g3, g4⟩ := hok
    refine ⟨_, _, h3, ⟨_, _, _, rfl, by simp; omega, by omega, by omega, ?_⟩, fun w' => hrun w'⟩
    rcases h6 with rfl | ⟨b, off, rfl, h7, h8⟩
    · exact .inl (by simp)
    · by_cases hc : c = (l.getD 0).toNat
      · left
        have : (u.getD (els.length : Nat)).toNat - (l.getD 0).toNat = 0 := by omega
        rw [this]
        simp
      · exact .inr ⟨b, off + (l.getD 0).toNat * inf.size, by simp [hc, Addr.add_none], h7, slc_els h8⟩
  · rename_i sz els
    obtain ⟨rfl, hok, h3⟩ := hk
    obtain ⟨a, len, cap, rfl, rfl, h4, h5, h6⟩ := hx
    obtain ⟨c, c1, c2, hrun⟩ := slice_run (a := a) ht hi' hl hu hm hok hmx h4
    obtain ⟨⟨g1, g2⟩, g3, g4⟩ := hok
    refine ⟨_, _, h3, ⟨_, _, _, rfl, by simp; omega, by omega, by omega, ?_⟩, fun w' => hrun w'⟩
    rcases h6 with rfl | ⟨b, off, rfl, h7, h8⟩
    · exact .inl (by simp)
    · by_cases hc : c = (l.getD 0).toNat
      · left
        have : (u.getD (els.length : Nat)).toNat - (l.getD 0).toNat = 0 := by omega
        rw [this]
        simp
      · exact .inr ⟨b, off + (l.getD 0).toNat * inf.size, by simp [hc, Addr.add_none], h7, slc_els h8⟩
  · rename_i sz els
    obtain ⟨rfl, hok, h3⟩ := hk
    obtain ⟨a, len, rfl, rfl, h5, h6⟩ := hx
    obtain ⟨c, c1, c2, hrun⟩ := slice_run (a := a) ht hi' hl hu hm hok hmx (Nat.le_refl _)
    obtain ⟨⟨g1, g2⟩, g3, g4⟩ := hok
    refine ⟨_, _, h3, ⟨_, _, _, rfl, by simp; omega, by omega, by omega, ?_⟩, fun w' => hrun w'⟩
    rcases h6 with rfl | ⟨b, off, rfl, h7, h8⟩
    · exact .inl (by simp)
    · by_cases hc : c = (l.getD 0).toNat
      · left
        have : (u.getD (els.length : Nat)).toNat - (l.getD 0).toNat = 0 := by omega
        rw [this]
        simp
      · exact .inr ⟨b, off + (l.getD 0).toNat * inf.size, by simp [hc, Addr.add_none], h7, slc_els h8⟩
  · obtain ⟨hok, h3⟩ := hk
    have hx' : val = .slice none 0 0 := hx
    subst hx'
    obtain ⟨c, c1, c2, hrun⟩ := slice_run (a := none) ht hi' hl hu hm hok hmx (Nat.le_refl 0)
    obtain ⟨⟨g1, g2⟩, g3, g4⟩ := hok
    have hc : c = 0 := by omega
    subst hc
    have hl0 : (l.getD 0).toNat = 0 := by omega
    have hu0 : (u.getD (0 : Nat)).toNat = 0 := by omega
    refine ⟨_, _, h3, rfl, fun w' => ?_⟩
    rw [hrun w', hl0, hu0]
    simp
  · exact hk.elim

theorem eqnP_run {x : V} {val : Value} {K : Bool → Prop} (hx : RepV ρ X w x val) (hk : eqnP x K) :
    ∃ b a n c, val = .slice a n c ∧ b = a.isNone ∧ K b := by
  unfold eqnP at hk
  split at hk
  · obtain ⟨cap, h4, h5, h6⟩ := hx
    rcases h6 with ⟨rfl, a, rfl⟩ | ⟨hreal, rfl, hroom⟩
    · obtain ⟨k1, k2⟩ := hk.2 (by omega)
      exact ⟨_, a, 0, 0, rfl, rfl, by cases a <;> assumption⟩
    · rename_i k i n
      refine ⟨_, _, _, _, rfl, rfl, ?_⟩
      by_cases hn : 0 < n
      · exact hk.1 hn
      · exact (hk.2 (by omega)).2
  · obtain ⟨a, len, cap, rfl, rfl, h4, h5, h6⟩ := hx
    refine ⟨_, _, _, _, rfl, rfl, ?_⟩
    rcases h6 with h6 | ⟨b, off, rfl, h7, h8⟩
    · obtain ⟨k1, k2⟩ := hk.2 h6
      cases a <;> assumption
    · rename_i els
      by_cases hn : els = []
      · exact (hk.2 hn).2
      · exact hk.1 hn
  · obtain ⟨a, len, cap, rfl, rfl, h4, h5, h6⟩ := hx
    refine ⟨_, _, _, _, rfl, rfl, ?_⟩
    rcases h6 with h6 | ⟨b, off, rfl, h7, h8⟩
    · obtain ⟨k1, k2⟩ := hk.2 h6
      cases a <;> assumption
    · rename_i els
      by_cases hn : els = []
      · exact (hk.2 hn).2
      · exact hk.1 hn
  · exact ⟨_, _, _, _, hx, rfl, hk⟩
  · exact hk.elim

theorem run_eq_nil {t e : TypeId} (ht : P.underlying t = some (.slice e)) (a : Option Addr) (n c : Nat) (w' : World) :
    (binOp .eql t (.slice a n c) (.slice none 0 0)).run P w' = .ok (.bool a.isNone) w' ∧ (binOp .neq t (.slice a n c) (.slice none 0 0)).run P w' = .ok (.bool (!a.isNone)) w' := by
  have h : ∀ d, (Op.equalIn (d + 1) t (.slice a n c) (.slice none 0 0)).run P w' = .ok a.isNone w' := by
    intro d
    cases a <;> simp [Op.equalIn, run_underlying ht]
  constructor <;> simp [binOp, Op.equal, Op.maxDepth, h 9999]

theorem run_eq_bool {t : TypeId} (ht : P.underlying t = some .bool) (a b : Bool) (w' : World) :
    (binOp .eql t (.bool a) (.bool b)).run P w' = .ok (.bool (a == b)) w' ∧ (binOp .neq t (.bool a) (.bool b)).run P w' = .ok (.bool (a != b)) w' := by
  have h : ∀ d, (Op.equalIn (d + 1) t (.bool a) (.bool b)).run P w' = .ok (a == b) w' := by
    intro d
    simp [Op.equalIn, run_underlying ht]
  constructor <;> simp [binOp, Op.equal, Op.maxDepth, h 9999, bne]

/-- A field of a struct's value. -/
theorem isKey_of {kd : TypeDesc} {key : Value} (h : isKey kd key = true) : MapKept.IsKey kd key := by
  unfold isKey at h
  split at h <;> simp_all [MapKept.IsKey]

theorem aggC_rep {x : V} {val : Value} {cs : List V} (hc : aggC x = some cs) (h : RepV ρ X w x val) : ∃ arr : Array Value, val = .agg arr ∧ RepL ρ X w cs arr.toList := by
  unfold aggC at hc
  split at hc
  · simp only [Option.some.injEq] at hc
    subst hc
    exact h
  · simp only [Option.some.injEq] at hc
    subst hc
    refine ⟨_, h, RepL_mk (by simp) fun f x hx => ?_⟩
    simp only [List.getElem?_map, Option.map_eq_some_iff] at hx
    obtain ⟨u, hu, rfl⟩ := hx
    exact ⟨u, hu, rfl⟩
  · cases hc

theorem eqK_run {t : TypeId} {kd : TypeDesc} {a b : Value} (ht : P.underlying t = some kd) (ha : isKey kd a = true) (hb : isKey kd b = true) (d : Nat) (w' : World) : (Op.equalIn (d + 1) t a b).run P w' = .ok (eqK a b) w' := by
  cases kd <;> cases a <;> first | (simp [isKey] at ha; done) | (cases b <;> first | (simp [isKey] at hb; done) | (simp_all [isKey, Op.equalIn, run_underlying ht, eqK]))

theorem eqFs_run {xs ys : List V} {ax ay : Array Value} (hx : RepL ρ X w xs ax.toList) (hy : RepL ρ X w ys ay.toList) (d : Nat) : ∀ {fs : List Field} {ks : List (Nat × TypeDesc)} {K : Bool → Prop}, fs.mapM (fldKind P) = some ks → eqFs xs ys ks K →
    ∃ t, K t ∧ ∀ w', (Op.eqFields (d + 1) ax ay fs).run P w' = .ok t w'
  | [], ks, K, hm, h => by
    simp at hm
    subst hm
    exact ⟨true, h, fun w' => by simp [Op.eqFields]⟩
  | f :: fs, ks, K, hm, h => by
    rw [List.mapM_cons] at hm
    simp only [bind, Option.bind_eq_some_iff, pure, Option.some.injEq] at hm
    obtain ⟨k1, hk1, ks', hks, rfl⟩ := hm
    unfold fldKind at hk1
    split at hk1
    · rename_i hc
      simp only [Option.map_eq_some_iff] at hk1
      obtain ⟨kd, hkd, rfl⟩ := hk1
      simp only [eqFs, eqC] at h
      split at h
      · rename_i a b ha hb
        obtain ⟨⟨h1, h2⟩, h3⟩ := h
        obtain ⟨t, h4, h5⟩ := eqFs_run hx hy d hks h3
        obtain ⟨va, g1, g2⟩ := RepL_get hx ha
        obtain ⟨vb, g3, g4⟩ := RepL_get hy hb
        have g2' : va = a := g2
        have g4' : vb = b := g4
        subst g2'
        subst g4'
        refine ⟨_, h4, fun w' => ?_⟩
        have p1 := run_part_plain w' hc.2 (by simpa using g1 : ax[f.offset]? = some va)
        have p2 := run_part_plain w' hc.2 (by simpa using g3 : ay[f.offset]? = some vb)
        simp only [Op.eqFields, hc.1, ne_eq, not_false_eq_true, if_true, Sem.run_bind, p1, p2, eqK_run hkd h1 h2, Result.andThen_ok]
        cases eqK va vb
        · simp
        · simpa using h5 w'
      · exact h.elim
    · cases hk1

theorem field_run {t : TypeId} {n : Option Nat} {off : Nat} {cs : List V} {arr : Array Value} {K : V → Prop} {inf : TypeInfo} {d : TypeDesc} (hi : P.info? t = some inf) (hu : P.underlying t = some d) (hn : (if d.isRow then some inf.size else none) = n)
    (hl : RepL ρ X w cs arr.toList) (hk : loadCs n off cs K) : ∃ x val, K x ∧ RepV ρ X w x val ∧ ∀ w', (part t arr off).run P w' = .ok val w' := by
  have hlen := RepL_len hl
  by_cases hd : d.isRow = true
  · rw [if_pos hd] at hn
    subst hn
    obtain ⟨h1, h2⟩ := hk
    refine ⟨_, .agg (arr.extract off (off + inf.size)), h2, ⟨_, rfl, RepL_mk ?_ ?_⟩, fun w' => ?_⟩
    · simp at hlen ⊢; omega
    · intro f x hx
      rw [List.getElem?_take] at hx
      split at hx
      · rename_i hf
        rw [List.getElem?_drop] at hx
        obtain ⟨v, h3, h4⟩ := RepL_get hl hx
        refine ⟨v, ?_, h4⟩
        rw [Array.getElem?_toList] at h3 ⊢
        rw [Array.getElem?_extract, if_pos (by simp at hlen; omega)]
        exact h3
      · cases hx
    · simp [part, run_isAgg hu, hd, sizeOf, typeInfo, hi]
  · rw [if_neg hd] at hn
    subst hn
    simp only [loadCs] at hk
    unfold optK at hk
    split at hk
    · rename_i x hx
      obtain ⟨v, h3, h4⟩ := RepL_get hl hx
      rw [Array.getElem?_toList] at h3
      exact ⟨x, v, hk, h4, fun w' => by simp [part, run_isAgg hu, hd, h3]⟩
    · exact hk.elim

/-- What must be as it was, for a quiet operation to give again what it gave. -/
def QOk (ρ : Nat → Loc) (w : World) (s : St) (l : LOp) (w' : World) : Prop :=
  match l with
  | .load _ p => ∀ b, LoadBk ρ w (ev s.e p) b → ExtAt b w w'
  | _ => True

theorem quiet_at0 {o : Oper} {l0 l : LOp} {a : Act} {s : St} {cx : Cx} {K : V → St → Prop} (hq : quietOp l = true) (hm : rl0 P o.op l0 = some l)
    (hr : Rep ρ X w s.h) (he : RepE ρ X w s.e a.tmps) (h : aOp cx l s K) : ∃ x val, K x s ∧ RepV ρ X w x val ∧ ∀ w', QOk ρ w s l w' → (execOp a.eval o).run P w' = .ok (.value val) w' := by
  unfold execOp
  generalize o.op = op at hm ⊢
  cases op with
  | move x =>
    simp only [rl0, Option.some.injEq] at hm
    subst hm
    exact ⟨_, a.eval x, h, ev_rep he x, fun w' _ => rfl⟩
  | assign x =>
    simp only [rl0, Option.some.injEq] at hm
    subst hm
    exact ⟨_, a.eval x, h, ev_rep he x, fun w' _ => rfl⟩
  | pick c x y =>
    simp only [rl0, Option.some.injEq] at hm
    subst hm
    simp only [aOp, brV] at h
    have hc := ev_rep he c
    split at h
    · rename_i t ht
      rw [ht] at hc
      have hc' : a.eval c = .bool t := hc
      cases t
      · exact ⟨_, a.eval y, h.2 rfl, ev_rep he y, fun w' _ => by simp [hc', asBool]⟩
      · exact ⟨_, a.eval x, h.1 rfl, ev_rep he x, fun w' _ => by simp [hc', asBool]⟩
    · exact h.elim
  | load t p =>
    simp only [rl0] at hm
    split at hm
    · rename_i i d hi hu
      simp only [Option.some.injEq] at hm
      subst hm
      obtain ⟨x, val, h1, h2, b, hb, h3⟩ := load_at hr hi hu rfl (ev_rep he p) h
      exact ⟨x, val, h1, h2, fun w' hw' => by simp [h3 w' (hw' b hb)]⟩
    · cases hm
  | fieldAddr st p f =>
    simp only [rl0] at hm
    split at hm
    · rename_i fs hs
      split at hm
      · rename_i fd hf
        split at hm
        · rename_i inf hi
          split at hm
          · cases hm
          · rename_i hz
            simp only [Option.some.injEq] at hm
            subst hm
            simp only [aOp, fldP] at h
            have hp := ev_rep he p
            split at h
            · rename_i k i g hv
              rw [hv] at hp
              obtain ⟨h1, h2⟩ := hp
              exact ⟨_, _, h, ⟨h1, rfl⟩, fun w' _ => by simp [h2, run_fieldAt hs hf hi hz, Nat.add_assoc]⟩
            · rename_i sz els i g hv
              rw [hv] at hp
              obtain ⟨b, off, h1, h2, h3⟩ := hp
              exact ⟨_, _, h, ⟨b, off, rfl, h2, h3⟩, fun w' _ => by simp [h1, run_fieldAt hs hf hi hz, Nat.add_assoc]⟩
            · exact h.elim
        · cases hm
      · cases hm
    · cases hm
  | indexAddr t x i =>
    simp only [rl0] at hm
    split at hm
    · rename_i e ht
      split at hm
      · rename_i inf hi
        simp only [Option.some.injEq] at hm
        subst hm
        obtain ⟨k, n, h1, h2⟩ := intK_inv h
        have hiv := ev_rep he i
        rw [h1] at hiv
        have hiv' : a.eval i = .int k n := hiv
        obtain ⟨y, u, h3, h4, h5⟩ := idxP_run (k := k) ht hi hr (ev_rep he x) h2
        exact ⟨y, u, h3, h4, fun w' _ => by simp [hiv', h5 w']⟩
      · cases hm
    · cases hm
  | binOp op t x y yt =>
    simp only [rl0] at hm
    split at hm
    · rename_i kd hu
      split at hm
      · rename_i ex _ _
        simp only [Option.some.injEq] at hm
        subst hm
        obtain ⟨k, n, h1, h2⟩ := intK_inv h
        obtain ⟨k', n', h3, h4⟩ := intK_inv h2
        have hx := ev_rep he x
        rw [h1] at hx
        have hx' : a.eval x = .int k n := hx
        have hy := ev_rep he y
        rw [h3] at hy
        have hy' : a.eval y = .int k' n' := hy
        obtain ⟨h5, h6⟩ := h4
        subst h5
        obtain ⟨z, val, h7, h8, h9⟩ := binInt_run (ρ := ρ) (X := X) (w := w) (P := P) (t := t) h6 (wrap_in _)
        refine ⟨z, val, h7, h8, fun w' _ => ?_⟩
        have hg : (eqGuard op t x y (.int k' n) (.int k' n')).run P w' = .ok () w' := by
          unfold eqGuard
          split <;> rfl
        simp [hx', hy', hg, h9 w']
      · simp only [Option.some.injEq] at hm
        subst hm
        obtain ⟨k, n, h1, h2⟩ := intK_inv h
        obtain ⟨k', n', h3, h4⟩ := intK_inv h2
        have hx := ev_rep he x
        rw [h1] at hx
        have hx' : a.eval x = .int k n := hx
        have hy := ev_rep he y
        rw [h3] at hy
        have hy' : a.eval y = .int k' n' := hy
        have hg : ∀ w', (eqGuard op t x y (.int k n) (.int k' n')).run P w' = .ok () w' := by
          intro w'
          unfold eqGuard
          split <;> rfl
        unfold shiftInt at h4
        split at h4
        · obtain ⟨h5, h6⟩ := h4
          refine ⟨_, _, h6, rfl, fun w' _ => ?_⟩
          have h5' : ¬ n' < 0 := by omega
          simp [hx', hy', hg w', binOp, Op.shift, h5']
        · obtain ⟨h5, h6⟩ := h4
          refine ⟨_, _, h6, rfl, fun w' _ => ?_⟩
          have h5' : ¬ n' < 0 := by omega
          simp [hx', hy', hg w', binOp, Op.shift, h5']
        · exact h4.elim
      · cases hm
    · rename_i hu
      have hb : ∃ neg, l = .eqb neg x y ∧ op = (if neg then .neq else .eql) := by
        split at hm
        · simp only [Option.some.injEq] at hm; exact ⟨false, hm.symm, rfl⟩
        · simp only [Option.some.injEq] at hm; exact ⟨true, hm.symm, rfl⟩
        · cases hm
      obtain ⟨neg, rfl, rfl⟩ := hb
      obtain ⟨p, h1, h2⟩ := boolK_inv h
      obtain ⟨p', h3, h4⟩ := boolK_inv h2
      have hx := ev_rep he x
      rw [h1] at hx
      have hx' : a.eval x = .bool p := hx
      have hy := ev_rep he y
      rw [h3] at hy
      have hy' : a.eval y = .bool p' := hy
      refine ⟨_, _, h4, rfl, fun w' _ => ?_⟩
      cases neg
      · simp [hx', hy', eqGuard, (run_eq_bool hu p p' w').1]
      · simp [hx', hy', eqGuard, (run_eq_bool hu p p' w').2]
    · rename_i fs hu
      split at hm
      · rename_i hcnd
        have hb : ∃ neg ks, l = .eqf neg ks x y ∧ op = (if neg then .neq else .eql) ∧ fs.toList.mapM (fldKind P) = some ks := by
          split at hm
          · rename_i ks hks; simp only [Option.some.injEq] at hm; exact ⟨false, ks, hm.symm, rfl, hks⟩
          · rename_i ks hks; simp only [Option.some.injEq] at hm; exact ⟨true, ks, hm.symm, rfl, hks⟩
          · cases hm
        obtain ⟨neg, ks, rfl, rfl, hks⟩ := hb
        simp only [aOp] at h
        obtain ⟨xs, h1, h⟩ := optK_inv h
        obtain ⟨ys, h2, h⟩ := optK_inv h
        obtain ⟨ax, hx', hxr⟩ := aggC_rep h1 (ev_rep he x)
        obtain ⟨ay, hy', hyr⟩ := aggC_rep h2 (ev_rep he y)
        obtain ⟨t', h3, h4⟩ := eqFs_run hxr hyr 9998 hks h
        have hfo : P.fieldsOf t = fs := by simp [Program.fieldsOf, hu]
        refine ⟨_, _, h3, rfl, fun w' _ => ?_⟩
        have hrun := run_equalIn_struct w' 9999 t ax ay (by rw [hfo]; exact hu) hcnd.1
        rw [hfo, h4 w'] at hrun
        have hg := run_eqGuard_agg (P := P) w' (if neg then .neq else .eql) t x y ax ay hcnd.2
        cases neg
        · simp only [Bool.false_eq_true, if_false] at hg ⊢
          simp [hx', hy', hg, run_eql_struct, hrun]
        · simp only [if_true] at hg ⊢
          simp [hx', hy', hg, run_neq_struct, hrun]
      · cases hm
    · rename_i e hu
      split at hm
      · have hb : ∃ neg, l = .eqn neg x (.const (.slice none 0 0)) ∧ op = (if neg then .neq else .eql) := by
          split at hm
          · simp only [Option.some.injEq] at hm; exact ⟨false, hm.symm, rfl⟩
          · simp only [Option.some.injEq] at hm; exact ⟨true, hm.symm, rfl⟩
          · cases hm
        obtain ⟨neg, rfl, rfl⟩ := hb
        simp only [aOp, ev, ofConst] at h
        obtain ⟨b, ad, n, c, h1, rfl, h2⟩ := eqnP_run (ev_rep he x) h
        have hcst : a.eval (.const (.slice none 0 0)) = .slice none 0 0 := rfl
        refine ⟨_, _, h2, rfl, fun w' _ => ?_⟩
        cases neg
        · simp [h1, hcst, eqGuard, (run_eq_nil hu ad n c w').1]
        · simp [h1, hcst, eqGuard, (run_eq_nil hu ad n c w').2]
      · cases hm
    · cases hm
  | nilCheck x =>
    simp only [rl0, Option.some.injEq] at hm
    subst hm
    simp only [aOp] at h
    have hx := ev_rep he x
    split at h
    · rename_i k i f hv
      rw [hv] at hx
      have h2 := hx.2
      exact ⟨_, a.eval x, h, hx, fun w' _ => by simp [h2]⟩
    · rename_i f cs hv
      rw [hv] at hx
      have hx' := hx
      obtain ⟨arr, h2, _⟩ := hx
      exact ⟨_, a.eval x, h, hx', fun w' _ => by simp [h2]⟩
    · exact h.elim
  | unOp op t x =>
    simp only [rl0] at hm
    split at hm
    · simp only [Option.some.injEq] at hm
      subst hm
      obtain ⟨p, h1, h2⟩ := boolK_inv h
      have hx := ev_rep he x
      rw [h1] at hx
      have hx' : a.eval x = .bool p := hx
      exact ⟨_, _, h2, rfl, fun w' _ => by simp [hx', Op.unary]⟩
    · simp only [Option.some.injEq] at hm
      subst hm
      obtain ⟨k, n, h1, h3⟩ := intK_inv h
      have hx := ev_rep he x
      rw [h1] at hx
      have hx' : a.eval x = .int k n := hx
      refine ⟨_, _, h3, rfl, fun w' _ => ?_⟩
      simp [hx', Op.unary, Op.intArith]
    · cases hm
  | convert st d x =>
    simp only [rl0] at hm
    split at hm
    · rename_i ks k ex _ _ hs hd
      simp only [Option.some.injEq] at hm
      subst hm
      obtain ⟨k', n, h1, h2⟩ := intK_inv h
      have hx := ev_rep he x
      rw [h1] at hx
      have hx' : a.eval x = .int k' n := hx
      split at h2
      · exact ⟨_, _, h2.2, rfl, fun w' _ => by simp [hx', convert, run_underlying hs, run_underlying hd, Conv.intToInt, wrap_in k _ h2.1]⟩
      · exact ⟨_, _, h2, rfl, fun w' _ => by simp [hx', convert, run_underlying hs, run_underlying hd, Conv.intToInt]⟩
    · cases hm
  | extract x i =>
    simp only [rl0, Option.some.injEq] at hm
    subst hm
    simp only [aOp] at h
    have hx := ev_rep he x
    split at h
    · rename_i vs hv
      rw [hv] at hx
      obtain ⟨arr, h2, h3⟩ := hx
      unfold optK at h
      split at h
      · rename_i y hy
        obtain ⟨v, h4, h5⟩ := RepL_get h3 hy
        rw [Array.getElem?_toList] at h4
        exact ⟨y, v, h, h5, fun w' _ => by simp [h2, Instr.extract, h4]⟩
      · exact h.elim
    · exact h.elim
  | makeFunc fn first caps =>
    simp only [rl0] at hm
    split at hm
    · rename_i f
      split at hm
      · rename_i hfe
        simp only [Option.some.injEq] at hm
        subst hm
        have hfe' : first = #[] := by simpa using hfe
        subst hfe'
        refine ⟨_, .func (.func f) #[] (caps.map a.eval), h, ⟨_, rfl, ?_⟩, fun w' _ => by simp [Instr.makeFunc]⟩
        have : ∀ xs : List Operand, RepL ρ X w (xs.map (ev s.e)) (xs.map a.eval) := by
          intro xs
          induction xs with
          | nil => trivial
          | cons x r ih => exact ⟨ev_rep he x, ih⟩
        simpa using this caps.toList
      · cases hm
    · cases hm
  | field t x f =>
    simp only [rl0] at hm
    split at hm
    · rename_i fs hs
      split at hm
      · rename_i fd hf
        split at hm
        · rename_i inf d hi hu
          simp only [Option.some.injEq] at hm
          subst hm
          simp only [aOp, aggK] at h
          have hx := ev_rep he x
          split at h
          · rename_i cs hv
            rw [hv] at hx
            obtain ⟨arr, h2, h3⟩ := hx
            obtain ⟨y, val, h4, h5, h6⟩ := field_run hi hu rfl h3 h
            exact ⟨y, val, h4, h5, fun w' _ => by simp [Instr.field, run_underlying hs, hf, h2, asAgg, h6 w']⟩
          · exact h.elim
        · cases hm
      · cases hm
    · cases hm
  | slice t x lo hi mx =>
    simp only [rl0] at hm
    split at hm
    · rename_i e ht
      split at hm
      · rename_i inf hi'
        split at hm
        · cases hm
        · rename_i hmx0
          simp only [Option.some.injEq] at hm
          subst hm
          simp only [aOp] at h
          obtain ⟨l, hl, h1⟩ := bnd_of (o := lo) he h
          obtain ⟨u, hu, h2⟩ := bnd_of (o := hi) he h1
          obtain ⟨m, hmm, h3⟩ := bnd_of (o := mx) he h2
          have hmx : mx.map a.eval ≠ none → hi.map a.eval ≠ none := by
            cases mx <;> cases hi <;> simp_all
          obtain ⟨y, v, h4, h5, h6⟩ := slcP_run ht hi' hr (ev_rep he x) hl hu hmm hmx h3
          exact ⟨y, v, h4, h5, fun w' _ => by simp [h6 w']⟩
      · cases hm
    · cases hm
  | call c =>
    simp only [rl0, rlCall] at hm
    split at hm
    · rename_i x t hc hx ht
      have ha := toArray_of hx
      have hat := toArray_of ht
      split at hm
      · rename_i e hu
        simp only [Option.some.injEq] at hm
        subst hm
        simp only [aOp] at h
        obtain ⟨y, u, h1, h2, h3⟩ := lenP_run (ty := o.type) hu (ev_rep he x) h
        exact ⟨y, u, h1, h2, fun w' _ => by simp [resolve, hc, ha, hat, invoke, builtin, h3 w']⟩
      · rename_i hu
        simp only [Option.some.injEq] at hm
        subst hm
        simp only [aOp, lensP] at h
        split at h
        · rename_i t hv
          have hx' := ev_rep he x
          rw [hv] at hx'
          have hx'' : a.eval x = .string t := hx'
          exact ⟨_, _, h, rfl, fun w' _ => by simp [resolve, hc, ha, hat, invoke, builtin, Builtin.len_, run_underlying hu, hx'', goInt]⟩
        · exact h.elim
      · simp only [Option.some.injEq] at hm
        subst hm
        simp [quietOp] at hq
      · cases hm
    · simp only [Option.some.injEq] at hm
      subst hm
      simp [quietOp] at hq
    · simp only [Option.some.injEq] at hm
      subst hm
      simp [quietOp] at hq
    · rename_i x y hc hx
      have ha := toArray_of hx
      simp only [Option.some.injEq] at hm
      subst hm
      obtain ⟨k, n, h1, h2⟩ := intK_inv h
      obtain ⟨k', n', h3, h5, h4⟩ := intK_inv h2
      subst h5
      have hx := ev_rep he x
      rw [h1] at hx
      have hx' : a.eval x = .int k' n := hx
      have hy := ev_rep he y
      rw [h3] at hy
      have hy' : a.eval y = .int k' n' := hy
      refine ⟨_, _, h4, rfl, fun w' _ => ?_⟩
      have : (if n' < n then n' else n) = min n n' := by rw [Int.min_def]; split <;> split <;> omega
      simp [resolve, hc, ha, invoke, builtin, Builtin.min_, Builtin.min2, hx', hy', this]
    · rename_i x y hc hx
      have ha := toArray_of hx
      simp only [Option.some.injEq] at hm
      subst hm
      obtain ⟨k, n, h1, h2⟩ := intK_inv h
      obtain ⟨k', n', h3, h5, h4⟩ := intK_inv h2
      subst h5
      have hx := ev_rep he x
      rw [h1] at hx
      have hx' : a.eval x = .int k' n := hx
      have hy := ev_rep he y
      rw [h3] at hy
      have hy' : a.eval y = .int k' n' := hy
      refine ⟨_, _, h4, rfl, fun w' _ => ?_⟩
      have : (if n < n' then n' else n) = max n n' := by rw [Int.max_def]; split <;> split <;> omega
      simp [resolve, hc, ha, invoke, builtin, Builtin.max_, Builtin.max2, hx', hy', this]
    · (repeat' split at hm) <;> first | (cases hm; done) | (simp only [Option.some.injEq] at hm; subst hm; simp [quietOp] at hq)
    · (repeat' split at hm) <;> first | (cases hm; done) | (simp only [Option.some.injEq] at hm; subst hm; simp [quietOp] at hq)
    · (repeat' split at hm) <;> first | (cases hm; done) | (simp only [Option.some.injEq] at hm; subst hm; simp [quietOp] at hq)
    · cases hm
  | build t parts =>
    simp only [rl0] at hm
    have hz : ∀ z : Value, RepL ρ X w (z.cells.toList.map .v) z.cells.toList := fun z => RepL_mk (by simp) fun f x hx => by
      simp only [List.getElem?_map, Option.map_eq_some_iff] at hx
      obtain ⟨u, hu, rfl⟩ := hx
      exact ⟨u, hu, rfl⟩
    split at hm
    · rename_i it n e hit hu
      split at hm
      · rename_i z ie hz0 hie
        cases hp : (parts.toList.mapM fun p => (some (p.1 * ie.size, ie.size) : Option (Nat × Nat)).map fun os => (os.1, os.2, p.2)) with
        | none => rw [hp] at hm; cases hm
        | some ps =>
          rw [hp] at hm
          simp only [Option.map_some, Option.some.injEq] at hm
          subst hm
          obtain ⟨y, cells', h1, h2, h3⟩ := fill_build he (place := fun i => some (i * ie.size, ie.size)) parts.toList ps _ _ hp (hz z) h
          refine ⟨_, .agg cells', h1, ⟨cells', rfl, h3⟩, fun w' _ => ?_⟩
          have hb : P.built t (parts.map fun (i, x) => (i, a.eval x)).toList = some cells' := by
            simp only [Program.built, hit, hu, hz0, hie, Array.toList_map]
            exact h2
          simp [run_build w' t _ cells' hb]
      · cases hm
    · rename_i it fields hit hu
      split at hm
      · rename_i z places hz0 hpl
        cases hp : (parts.toList.mapM fun p => (places.toArray[p.1]?).map fun os => (os.1, os.2, p.2)) with
        | none => rw [hp] at hm; simp at hm
        | some ps =>
          rw [hp] at hm
          simp only [Option.map_some, Option.some.injEq] at hm
          subst hm
          obtain ⟨y, cells', h1, h2, h3⟩ := fill_build he (place := fun i => places.toArray[i]?) parts.toList ps _ _ hp (hz z) h
          refine ⟨_, .agg cells', h1, ⟨cells', rfl, h3⟩, fun w' _ => ?_⟩
          have hb : P.built t (parts.map fun (i, x) => (i, a.eval x)).toList = some cells' := by
            simp only [Program.built, hit, hu, hz0, hpl, Array.toList_map]
            exact h2
          simp [run_build w' t _ cells' hb]
      · cases hm
    · cases hm
  | buildSlice t n parts =>
    simp only [rl0] at hm
    (repeat' split at hm) <;> first | (cases hm; done) | (simp only [Option.some.injEq] at hm; subst hm; simp [quietOp] at hq)
  | makeSlice _ _ _ | makeMap _ _ | lookup _ _ _ _ | mapUpdate _ _ _ _ | insert _ _ _ _ | range _ _ | next _ _ | entry _ =>
    simp only [rl0] at hm
    (repeat' split at hm) <;> first | (cases hm; done) | (simp only [Option.some.injEq] at hm; subst hm; simp [quietOp] at hq)
  | box t x => simp only [rl0] at hm; split at hm <;> simp_all [quietOp]; subst hm; simp at hq
  | alloc t =>
    simp only [rl0] at hm
    repeat (split at hm <;> try (cases hm; done))
    simp only [Option.some.injEq] at hm
    subst hm
    simp [quietOp] at hq
  | store t p x =>
    simp only [rl0] at hm
    split at hm
    · simp only [Option.some.injEq] at hm
      subst hm
      simp [quietOp] at hq
    · cases hm
  | _ => simp [rl0] at hm

theorem quiet_at {o : Oper} {l0 l : LOp} {a : Act} {s : St} {cx : Cx} {K : V → St → Prop} (hq : quietOp l = true) (hm : rl P o.op l0 = some l)
    (hr : Rep ρ X w s.h) (he : RepE ρ X w s.e a.tmps) (h : aOp cx l s K) : ∃ x val, K x s ∧ RepV ρ X w x val ∧ ∀ w', QOk ρ w s l w' → (execOp a.eval o).run P w' = .ok (.value val) w' := by
  rcases rl_cases hm with rfl | hm
  · simp [quietOp] at hq
  · exact quiet_at0 hq hm hr he h

theorem quiet_sound {o : Oper} {l0 l : LOp} {a : Act} {s : St} {cx : Cx} {K : V → St → Prop} (hq : quietOp l = true) (hm : rl P o.op l0 = some l)
    (hr : Rep ρ X w s.h) (he : RepE ρ X w s.e a.tmps) (h : aOp cx l s K) : ∃ x val, K x s ∧ RepV ρ X w x val ∧ QRun P o a w val := by
  obtain ⟨x, val, h1, h2, h3⟩ := quiet_at hq hm hr he h
  refine ⟨x, val, h1, h2, fun w' hw' => h3 w' ?_⟩
  unfold QOk
  split
  · exact fun b _ => hw' b
  · trivial
end
end Go.Fx
