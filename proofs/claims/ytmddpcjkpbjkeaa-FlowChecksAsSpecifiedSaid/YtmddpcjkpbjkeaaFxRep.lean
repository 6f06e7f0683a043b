import Derived.Test.YtmddpcjkpbjkeaaFxDefs
import Derived.WalkKit
set_option linter.unusedVariables false
set_option linter.unusedSimpArgs false
set_option linter.unusedSectionVars false
namespace Go.Fx
open Go.RowKit

/-- Where an own block lies. -/
structure Loc where
  real : Bool
  blk : Nat
  off : Nat
  sz : Nat
  room : Nat
  deriving Inhabited

def Own (ρ : Nat → Loc) (b : Nat) : Prop := ∃ k, (ρ k).real = true ∧ (ρ k).blk = b
def Sta (ρ : Nat → Loc) (X : Nat → Prop) (w : World) (b : Nat) : Prop := b < w.heap.size ∧ ¬ Own ρ b ∧ ¬ X b
def Len (ρ : Nat → Loc) (w : World) (b : Nat) : Prop := b < w.heap.size ∧ ¬ Own ρ b

mutual
/-- A cell of plain data. -/
def RepD (S : Nat → Prop) (w : World) : V → Value → Prop
  | .v x, val => val = x ∧ isD (.v x) = true
  | .ro sz els, val => ∃ a len cap, val = .slice a len cap ∧ len = els.length ∧ len ≤ cap ∧ cap ≤ maxLen ∧
      (els = [] ∨ ∃ b off, a = some ⟨b, off, none⟩ ∧ S b ∧ RepEls S w sz b off els)
  | _, _ => False
def RepEls (S : Nat → Prop) (w : World) (sz b : Nat) : Nat → List (List V) → Prop
  | _, [] => True
  | off, e :: r => (e.length = sz ∧ RepCs S w b off e) ∧ RepEls S w sz b (off + sz) r
def RepCs (S : Nat → Prop) (w : World) (b : Nat) : Nat → List V → Prop
  | _, [] => True
  | off, x :: r => (∃ val, w.cell? ⟨b, off, none⟩ = some val ∧ RepD S w x val) ∧ RepCs S w b (off + 1) r
end

mutual
def RepV (ρ : Nat → Loc) (X : Nat → Prop) (w : World) : V → Value → Prop
  | .any, _ => True
  | .v x, val => val = x
  | .ro sz els, val => RepD (Sta ρ X w) w (.ro sz els) val
  | .bro sz els, val => ∃ a len cap, val = .slice a len cap ∧ len = els.length ∧ len ≤ cap ∧ cap ≤ maxLen ∧
      (els = [] ∨ ∃ b off, a = some ⟨b, off, none⟩ ∧ Len ρ w b ∧ RepEls (Sta ρ X w) w sz b off els)
  | .full sz els, val => ∃ a len, val = .slice a len len ∧ len = els.length ∧ len ≤ maxLen ∧
      (els = [] ∨ ∃ b off, a = some ⟨b, off, none⟩ ∧ Len ρ w b ∧ RepEls (Sta ρ X w) w sz b off els)
  | .sl k i n, val => ∃ cap, n ≤ cap ∧ cap ≤ maxLen ∧ ((cap = 0 ∧ ∃ a, val = .slice a 0 0) ∨
      ((ρ k).real = true ∧ val = .slice (some ⟨(ρ k).blk, (ρ k).off + i * (ρ k).sz, none⟩) n cap ∧ (ρ k).off + (i + cap) * (ρ k).sz ≤ (ρ k).room))
  | .ptr k i f, val => (ρ k).real = true ∧ val = .pointer (some ⟨(ρ k).blk, (ρ k).off + i * (ρ k).sz + f, none⟩)
  | .rp sz els i f, val => ∃ b off, val = .pointer (some ⟨b, off + i * sz + f, none⟩) ∧ Len ρ w b ∧ RepEls (Sta ρ X w) w sz b off els
  | .agg cs, val => ∃ arr : Array Value, val = .agg arr ∧ RepL ρ X w cs arr.toList
  | .tup cs, val => ∃ arr : Array Value, val = .tuple arr ∧ RepL ρ X w cs arr.toList
  | .clo f cs, val => ∃ arr : Array Value, val = .func (.func f) #[] arr ∧ RepL ρ X w cs arr.toList
  | .mp k, val => (ρ k).real = true ∧ val = .map (some (ρ k).blk)
  | .itr _, _ => False
def RepL (ρ : Nat → Loc) (X : Nat → Prop) (w : World) : List V → List Value → Prop
  | [], [] => True
  | x :: r, u :: us => RepV ρ X w x u ∧ RepL ρ X w r us
  | _, _ => False
end

def RepB (ρ : Nat → Loc) (X : Nat → Prop) (w : World) (k : Nat) : Blk → Prop
  | .dead => (ρ k).real = false
  | .arr sz els => ((ρ k).sz = sz ∧ 0 < sz) ∧ (((ρ k).real = false ∧ els = []) ∨ ((ρ k).real = true ∧
      ∃ c T, w.heap[(ρ k).blk]? = some (.cells c T (0, 0)) ∧ c.size = (ρ k).room ∧ (ρ k).off + els.length * sz ≤ (ρ k).room ∧
        RepEls (Sta ρ X w) w sz (ρ k).blk (ρ k).off els))
  | .var cs => ((ρ k).real = true ∧ (ρ k).off = 0 ∧ (ρ k).sz = 0) ∧ ∃ c T, w.heap[(ρ k).blk]? = some (.cells c T (0, 0)) ∧ RepL ρ X w cs c.toList
  | .arv sz els => ((ρ k).sz = sz ∧ 0 < sz) ∧ ((ρ k).real = true ∧
      ∃ c T, w.heap[(ρ k).blk]? = some (.cells c T (0, 0)) ∧ c.size = (ρ k).room ∧ (ρ k).off + els.length * sz ≤ (ρ k).room ∧
        ∀ (i : Nat) (e : List V), els[i]? = some e → e.length = sz ∧ ∀ (f : Nat) (x : V), e[f]? = some x → ∃ u, c[(ρ k).off + i * sz + f]? = some u ∧ RepV ρ X w x u)
  | .map es clock => ((ρ k).real = true ∧ (ρ k).off = 0 ∧ (ρ k).sz = 0) ∧ ∃ arr, w.heap[(ρ k).blk]? = some (.map arr clock) ∧
      arr.toList.map (fun e => (e.key, e.born)) = es.map (fun e => (e.1, e.2.2)) ∧ RepL ρ X w (es.map (·.2.1)) (arr.toList.map (·.val))
  | .it m since seen last => ((ρ k).real = true ∧ (ρ k).off = 0 ∧ (ρ k).sz = 0) ∧ ∃ x, w.heap[(ρ k).blk]? = some (.mapIter x since seen.toArray last) ∧ RepV ρ X w m (.map x)

structure Rep (ρ : Nat → Loc) (X : Nat → Prop) (w : World) (h : List Blk) : Prop where
  inj : ∀ j k, j ≠ k → (ρ j).real = true → (ρ k).real = true → (ρ j).blk ≠ (ρ k).blk
  out : ∀ k, h.length ≤ k → (ρ k).real = false
  blk : ∀ k b, h[k]? = some b → RepB ρ X w k b
  disj : ∀ b, Own ρ b → ¬ X b
  lt : ∀ k, (ρ k).real = true → (ρ k).blk < w.heap.size
  xlt : ∀ b, X b → b < w.heap.size

def RepE (ρ : Nat → Loc) (X : Nat → Prop) (w : World) (e : Env) (t : Array Value) : Prop :=
  ∀ i, RepV ρ X w (get e i) (t.getD i undef)

/-- What a step may do to the world. -/
structure Fr (ρ : Nat → Loc) (w : World) (ρ' : Nat → Loc) (w' : World) : Prop where
  os : w'.os = w.os
  tape : w'.tape = w.tape
  output : w'.output = w.output
  size : w.heap.size ≤ w'.heap.size
  keep : ∀ b, b < w.heap.size → ¬ Own ρ b → w'.heap[b]? = w.heap[b]? ∧ ¬ Own ρ' b

theorem Fr.refl (ρ : Nat → Loc) (w : World) : Fr ρ w ρ w := ⟨rfl, rfl, rfl, Nat.le_refl _, fun _ _ h => ⟨rfl, h⟩⟩
theorem Fr.trans {ρ ρ' ρ'' : Nat → Loc} {w w' w'' : World} (h : Fr ρ w ρ' w') (g : Fr ρ' w' ρ'' w'') : Fr ρ w ρ'' w'' :=
  ⟨g.os.trans h.os, g.tape.trans h.tape, g.output.trans h.output, Nat.le_trans h.size g.size, fun b hb ho =>
    have h1 := h.keep b hb ho
    have h2 := g.keep b (Nat.lt_of_lt_of_le hb h.size) h1.2
    ⟨h2.1.trans h1.1, h2.2⟩⟩

theorem Sta.fr {ρ ρ' : Nat → Loc} {X : Nat → Prop} {w w' : World} (h : Fr ρ w ρ' w') {b : Nat} (hb : Sta ρ X w b) : Sta ρ' X w' b :=
  ⟨Nat.lt_of_lt_of_le hb.1 h.size, (h.keep b hb.1 hb.2.1).2, hb.2.2⟩
theorem Len.fr {ρ ρ' : Nat → Loc} {w w' : World} (h : Fr ρ w ρ' w') {b : Nat} (hb : Len ρ w b) : Len ρ' w' b :=
  ⟨Nat.lt_of_lt_of_le hb.1 h.size, (h.keep b hb.1 hb.2).2⟩

theorem cell_of_heap {w w' : World} {b o : Nat} (h : w'.heap[b]? = w.heap[b]?) : w'.cell? ⟨b, o, none⟩ = w.cell? ⟨b, o, none⟩ := by
  simp [World.cell?, h]

mutual
theorem RepD_mono {S S' : Nat → Prop} {w w' : World} (hS : ∀ b, S b → S' b ∧ w'.heap[b]? = w.heap[b]?) :
    ∀ (x : V) (val : Value), RepD S w x val → RepD S' w' x val
  | .v _, _, h => h
  | .ro sz els, val, h => by
    obtain ⟨a, len, cap, h1, h2, h3, h4, h5⟩ := h
    refine ⟨a, len, cap, h1, h2, h3, h4, h5.imp id ?_⟩
    rintro ⟨b, off, h6, h7, h8⟩
    exact ⟨b, off, h6, (hS b h7).1, RepEls_mono hS sz b (hS b h7).2 off els h8⟩
  | .any, _, h | .bro _ _, _, h | .full _ _, _, h | .sl _ _ _, _, h | .ptr _ _ _, _, h | .rp _ _ _ _, _, h | .agg _, _, h | .tup _, _, h | .clo _ _, _, h | .mp _, _, h | .itr _, _, h => h.elim
theorem RepEls_mono {S S' : Nat → Prop} {w w' : World} (hS : ∀ b, S b → S' b ∧ w'.heap[b]? = w.heap[b]?) (sz b : Nat) (hb : w'.heap[b]? = w.heap[b]?) :
    ∀ (off : Nat) (els : List (List V)), RepEls S w sz b off els → RepEls S' w' sz b off els
  | _, [], _ => trivial
  | off, e :: r, h => ⟨⟨h.1.1, RepCs_mono hS b hb off e h.1.2⟩, RepEls_mono hS sz b hb (off + sz) r h.2⟩
theorem RepCs_mono {S S' : Nat → Prop} {w w' : World} (hS : ∀ b, S b → S' b ∧ w'.heap[b]? = w.heap[b]?) (b : Nat) (hb : w'.heap[b]? = w.heap[b]?) :
    ∀ (off : Nat) (cs : List V), RepCs S w b off cs → RepCs S' w' b off cs
  | _, [], _ => trivial
  | off, x :: r, h => ⟨by obtain ⟨⟨val, h1, h2⟩, _⟩ := h; exact ⟨val, (cell_of_heap hb).trans h1, RepD_mono hS x val h2⟩, RepCs_mono hS b hb (off + 1) r h.2⟩
end

theorem Fr.sta {ρ ρ' : Nat → Loc} {X : Nat → Prop} {w w' : World} (h : Fr ρ w ρ' w') : ∀ b, Sta ρ X w b → Sta ρ' X w' b ∧ w'.heap[b]? = w.heap[b]? :=
  fun b hb => ⟨hb.fr h, (h.keep b hb.1 hb.2.1).1⟩

mutual
theorem RepV_kill {ρ ρ' : Nat → Loc} {X : Nat → Prop} {w w' : World} (hf : Fr ρ w ρ' w') (M : List Nat) (hag : ∀ k, k ∉ M → (ρ k).real = true → ρ' k = ρ k) :
    ∀ (x : V) (val : Value), RepV ρ X w x val → RepV ρ' X w' (kill M x) val
  | .any, _, _ => trivial
  | .v _, _, h => h
  | .ro sz els, val, h => RepD_mono hf.sta (.ro sz els) val h
  | .bro sz els, val, h => by
    obtain ⟨a, len, cap, h1, h2, h3, h4, h5⟩ := h
    refine ⟨a, len, cap, h1, h2, h3, h4, h5.imp id ?_⟩
    rintro ⟨b, off, h6, h7, h8⟩
    exact ⟨b, off, h6, h7.fr hf, RepEls_mono hf.sta sz b (hf.keep b h7.1 h7.2).1 off els h8⟩
  | .full sz els, val, h => by
    obtain ⟨a, len, h1, h2, h4, h5⟩ := h
    refine ⟨a, len, h1, h2, h4, h5.imp id ?_⟩
    rintro ⟨b, off, h6, h7, h8⟩
    exact ⟨b, off, h6, h7.fr hf, RepEls_mono hf.sta sz b (hf.keep b h7.1 h7.2).1 off els h8⟩
  | .sl k i n, val, h => by
    by_cases hk : k ∈ M
    · simp [kill, hk, RepV]
    · simp only [kill, hk, if_false]
      obtain ⟨cap, h1, h2, h3⟩ := h
      refine ⟨cap, h1, h2, h3.imp id ?_⟩
      rintro ⟨h4, h5, h6⟩
      rw [hag k hk h4]
      exact ⟨h4, h5, h6⟩
  | .ptr k i f, val, h => by
    by_cases hk : k ∈ M
    · simp [kill, hk, RepV]
    · simp only [kill, hk, if_false]
      obtain ⟨h4, h5⟩ := h
      simp only [RepV]
      rw [hag k hk h4]
      exact ⟨h4, h5⟩
  | .rp sz els i f, val, h => by
    obtain ⟨b, off, h6, h7, h8⟩ := h
    exact ⟨b, off, h6, h7.fr hf, RepEls_mono hf.sta sz b (hf.keep b h7.1 h7.2).1 off els h8⟩
  | .agg cs, val, h => by
    obtain ⟨arr, h1, h2⟩ := h
    exact ⟨arr, h1, RepL_kill hf M hag cs arr.toList h2⟩
  | .tup cs, val, h => by
    obtain ⟨arr, h1, h2⟩ := h
    exact ⟨arr, h1, RepL_kill hf M hag cs arr.toList h2⟩
  | .clo f cs, val, h => by
    obtain ⟨arr, h1, h2⟩ := h
    exact ⟨arr, h1, RepL_kill hf M hag cs arr.toList h2⟩
  | .mp k, val, h => by
    by_cases hk : k ∈ M
    · simp [kill, hk, RepV]
    · simp only [kill, hk, if_false]
      obtain ⟨h4, h5⟩ := h
      simp only [RepV]
      rw [hag k hk h4]
      exact ⟨h4, h5⟩
  | .itr _, _, h => h.elim
theorem RepL_kill {ρ ρ' : Nat → Loc} {X : Nat → Prop} {w w' : World} (hf : Fr ρ w ρ' w') (M : List Nat) (hag : ∀ k, k ∉ M → (ρ k).real = true → ρ' k = ρ k) :
    ∀ (xs : List V) (vs : List Value), RepL ρ X w xs vs → RepL ρ' X w' (kills M xs) vs
  | [], [], _ => trivial
  | x :: r, u :: us, h => ⟨RepV_kill hf M hag x u h.1, RepL_kill hf M hag r us h.2⟩
  | [], _ :: _, h => h.elim
  | _ :: _, [], h => h.elim
end

mutual
theorem RepV_mono {ρ ρ' : Nat → Loc} {X : Nat → Prop} {w w' : World} (hf : Fr ρ w ρ' w') (hag : ∀ k, (ρ k).real = true → ρ' k = ρ k) :
    ∀ (x : V) (val : Value), RepV ρ X w x val → RepV ρ' X w' x val
  | .any, _, _ => trivial
  | .v _, _, h => h
  | .ro sz els, val, h => RepD_mono hf.sta (.ro sz els) val h
  | .bro sz els, val, h => by
    obtain ⟨a, len, cap, h1, h2, h3, h4, h5⟩ := h
    refine ⟨a, len, cap, h1, h2, h3, h4, h5.imp id ?_⟩
    rintro ⟨b, off, h6, h7, h8⟩
    exact ⟨b, off, h6, h7.fr hf, RepEls_mono hf.sta sz b (hf.keep b h7.1 h7.2).1 off els h8⟩
  | .full sz els, val, h => by
    obtain ⟨a, len, h1, h2, h4, h5⟩ := h
    refine ⟨a, len, h1, h2, h4, h5.imp id ?_⟩
    rintro ⟨b, off, h6, h7, h8⟩
    exact ⟨b, off, h6, h7.fr hf, RepEls_mono hf.sta sz b (hf.keep b h7.1 h7.2).1 off els h8⟩
  | .sl k i n, val, h => by
    obtain ⟨cap, h1, h2, h3⟩ := h
    refine ⟨cap, h1, h2, h3.imp id ?_⟩
    rintro ⟨h4, h5, h6⟩
    rw [hag k h4]
    exact ⟨h4, h5, h6⟩
  | .ptr k i f, val, h => by
    obtain ⟨h4, h5⟩ := h
    simp only [RepV]
    rw [hag k h4]
    exact ⟨h4, h5⟩
  | .rp sz els i f, val, h => by
    obtain ⟨b, off, h6, h7, h8⟩ := h
    exact ⟨b, off, h6, h7.fr hf, RepEls_mono hf.sta sz b (hf.keep b h7.1 h7.2).1 off els h8⟩
  | .agg cs, val, h => by
    obtain ⟨arr, h1, h2⟩ := h
    exact ⟨arr, h1, RepL_mono hf hag cs arr.toList h2⟩
  | .tup cs, val, h => by
    obtain ⟨arr, h1, h2⟩ := h
    exact ⟨arr, h1, RepL_mono hf hag cs arr.toList h2⟩
  | .clo f cs, val, h => by
    obtain ⟨arr, h1, h2⟩ := h
    exact ⟨arr, h1, RepL_mono hf hag cs arr.toList h2⟩
  | .mp k, val, h => by
    obtain ⟨h4, h5⟩ := h
    simp only [RepV]
    rw [hag k h4]
    exact ⟨h4, h5⟩
  | .itr _, _, h => h.elim
theorem RepL_mono {ρ ρ' : Nat → Loc} {X : Nat → Prop} {w w' : World} (hf : Fr ρ w ρ' w') (hag : ∀ k, (ρ k).real = true → ρ' k = ρ k) :
    ∀ (xs : List V) (vs : List Value), RepL ρ X w xs vs → RepL ρ' X w' xs vs
  | [], [], _ => trivial
  | x :: r, u :: us, h => ⟨RepV_mono hf hag x u h.1, RepL_mono hf hag r us h.2⟩
  | [], _ :: _, h => h.elim
  | _ :: _, [], h => h.elim
end
end Go.Fx
