import Derived.Test.YtmddpcjkpbjkeaaFxRep
import Derived.ChangeArms
import Derived.ChangeSame
import Derived.Carry
import Derived.DataReads
set_option linter.unusedVariables false
set_option linter.unusedSimpArgs false
set_option linter.unusedSectionVars false
namespace Go.Fx
open Go.RowKit

/-- A type of plain data. -/
inductive T where
  | int (k : IntKind)
  | bool
  | str
  | sl (sz : Nat) (e : T)
  | st (fs : List T)
  deriving Inhabited

mutual
def T.size : T → Nat
  | .st fs => T.sizes fs
  | .int _ => 1
  | .bool => 1
  | .str => 1
  | .sl _ _ => 1
def T.sizes : List T → Nat
  | [] => 0
  | t :: r => t.size + T.sizes r
end

def tysOf (P : Program) (g : TypeId → Option T) : Nat → List Field → Option (List T)
  | _, [] => some []
  | off, f :: fs => match g f.type, tysOf P g (off + P.cellsOf f.type) fs with
    | some t, some ts => if f.offset = off ∧ P.cellsOf f.type = t.size then some (t :: ts) else none
    | _, _ => none

def tyOf (P : Program) : Nat → TypeId → Option T
  | 0, _ => none
  | n + 1, t => match P.underlying t with
    | some .bool => some .bool
    | some (.int k) => some (.int k)
    | some .string => some .str
    | some (.slice e) => match tyOf P n e with
      | some te => if P.cellsOf e = te.size ∧ 0 < te.size then some (.sl te.size te) else none
      | none => none
    | some (.struct fs) => match tysOf P (tyOf P n) 0 fs.toList with
      | some ts => if P.cellsOf t = T.sizes ts then some (.st ts) else none
      | none => none
    | some (.array m e) => match tyOf P n e with
      | some te => if P.cellsOf e = te.size ∧ P.cellsOf t = m * te.size ∧ T.sizes (List.replicate m te) = m * te.size then some (.st (List.replicate m te)) else none
      | none => none
    | _ => none

mutual
/-- The cells of a value of this type. -/
def WfT : T → List V → Prop
  | .int k, xs => ∃ n, xs = [.v (.int k n)] ∧ lo k ≤ n ∧ n ≤ hi k
  | .bool, xs => ∃ b, xs = [.b b]
  | .str, xs => ∃ s : ByteArray, xs = [.v (.string s)] ∧ s.size ≤ maxLen
  | .sl sz e, xs => ∃ els, xs = [.ro sz els] ∧ els.length ≤ maxLen ∧ ∀ x ∈ els, WfT e x
  | .st fs, xs => WfTs fs xs
def WfTs : List T → List V → Prop
  | [], xs => xs = []
  | f :: fs, xs => ∃ a b, xs = a ++ b ∧ WfT f a ∧ WfTs fs b
end

def RepDs (S : Nat → Prop) (w : World) : List V → List Value → Prop
  | [], [] => True
  | x :: r, u :: us => RepD S w x u ∧ RepDs S w r us
  | _, _ => False

section
variable {S : Nat → Prop} {w : World} {P : Program}

theorem RepDs_len : ∀ {xs : List V} {us : List Value}, RepDs S w xs us → xs.length = us.length
  | [], [], _ => rfl
  | _ :: _, _ :: _, h => by simp [RepDs_len h.2]
  | [], _ :: _, h => h.elim
  | _ :: _, [], h => h.elim

theorem RepDs_append : ∀ {xs : List V} {us : List Value} {ys : List V} {vs : List Value}, RepDs S w xs us → RepDs S w ys vs → RepDs S w (xs ++ ys) (us ++ vs)
  | [], [], _, _, _, h => h
  | _ :: _, _ :: _, _, _, h, g => ⟨h.1, RepDs_append h.2 g⟩
  | [], _ :: _, _, _, h, _ => h.elim
  | _ :: _, [], _, _, h, _ => h.elim

theorem RepCs_of (b : Nat) : ∀ (off : Nat) (xs : List V) (us : List Value), RepDs S w xs us → (∀ i, i < us.length → w.cell? ⟨b, off + i, none⟩ = us[i]?) → RepCs S w b off xs
  | _, [], [], _, _ => trivial
  | off, x :: r, u :: us, h, g => ⟨⟨u, by simpa using g 0 (by simp), h.1⟩, RepCs_of b (off + 1) r us h.2 fun i hi => by
      have := g (i + 1) (by simpa using hi)
      rw [show off + 1 + i = off + (i + 1) by omega]
      simpa using this⟩
  | _, [], _ :: _, h, _ => h.elim
  | _, _ :: _, [], h, _ => h.elim

theorem add_none {a : Addr} (h : a.spot = none) (i : Nat) : a.add i = ⟨a.block, a.off + i, none⟩ := by
  unfold Addr.add
  split
  · subst_vars; cases a; simp_all
  · rfl

theorem cell_spot {a : Addr} {u : Value} (h : w.cell? a = some u) : a.spot = none ∧ a.block < w.heap.size := by
  unfold World.cell? at h
  split at h
  · rename_i c _ _ hc
    split at h
    · cases h
    · rename_i hs
      exact ⟨by simpa using hs, (Array.getElem?_eq_some_iff.1 hc).1⟩
  · cases h

theorem els_of {sz b off len : Nat} {Q : List V → Prop}
    (h : ∀ i, i < len → ∃ xs, xs.length = sz ∧ Q xs ∧ RepCs S w b (off + i * sz) xs) : ∀ m start, start + m = len → ∃ els : List (List V), els.length = m ∧ (∀ x ∈ els, Q x) ∧ RepEls S w sz b (off + start * sz) els
  | 0, _, _ => ⟨[], rfl, by simp, trivial⟩
  | m + 1, start, hm => by
    obtain ⟨xs, h1, h2, h3⟩ := h start (by omega)
    obtain ⟨els, h4, h5, h6⟩ := els_of h m (start + 1) (by omega)
    refine ⟨xs :: els, by simp [h4], ?_, ⟨h1, h3⟩, ?_⟩
    · intro x hx
      rcases List.mem_cons.1 hx with rfl | hx
      · exact h2
      · exact h5 x hx
    · rw [show off + start * sz + sz = off + (start + 1) * sz by rw [Nat.add_mul]; omega]
      exact h6

variable {H : Type} {enc : TypeId × Value → H} {base : Nat} {spare : Nat → Bool} {held : Bool}

theorem fields_rep {n : Nat} {g : TypeId → Option T} {cs : List Value}
    (ih : ∀ t ty cs x, g t = some ty → DataW.trod enc P w base spare held n t cs = some x → ∃ xs, WfT ty xs ∧ RepDs S w xs cs) :
    ∀ (fs : List Field) (off : Nat) (ts : List T), tysOf P g off fs = some ts → (∀ f ∈ fs, ∃ x, DataW.trod enc P w base spare held n f.type ((cs.drop f.offset).take (P.cellsOf f.type)) = some x) → off + T.sizes ts = cs.length →
      ∃ xs, WfTs ts xs ∧ RepDs S w xs (cs.drop off)
  | [], off, ts, h, _, hl => by
    simp only [tysOf, Option.some.injEq] at h
    subst h
    simp only [T.sizes, Nat.add_zero] at hl
    exact ⟨[], rfl, by rw [hl, List.drop_length]; trivial⟩
  | f :: fs, off, ts, h, hx, hl => by
    simp only [tysOf] at h
    split at h
    · rename_i ty tr h1 h2
      split at h
      · rename_i hc
        simp only [Option.some.injEq] at h
        subst h
        obtain ⟨x, hx1⟩ := hx f List.mem_cons_self
        obtain ⟨xs, h3, h4⟩ := ih f.type ty _ x h1 hx1
        simp only [T.sizes] at hl
        obtain ⟨ys, h5, h6⟩ := fields_rep ih fs _ tr h2 (fun f' hf' => hx f' (List.mem_cons_of_mem _ hf')) (by omega)
        refine ⟨xs ++ ys, ⟨xs, ys, rfl, h3, h5⟩, ?_⟩
        have := RepDs_append h4 h6
        rw [hc.1, ← List.drop_drop, List.take_append_drop] at this
        exact this
      · cases h
    · cases h

theorem arr_rep {n : Nat} {ty : T} {e : TypeId} {cs : List Value} (hsz : P.cellsOf e = ty.size)
    (ih : ∀ cs x, DataW.trod enc P w base spare held n e cs = some x → ∃ xs, WfT ty xs ∧ RepDs S w xs cs) :
    ∀ (m i : Nat), (∀ j, i ≤ j → j < i + m → ∃ x, DataW.trod enc P w base spare held n e ((cs.drop (j * P.cellsOf e)).take (P.cellsOf e)) = some x) → (i + m) * P.cellsOf e = cs.length →
      ∃ xs, WfTs (List.replicate m ty) xs ∧ RepDs S w xs (cs.drop (i * P.cellsOf e))
  | 0, i, _, hl => ⟨[], rfl, by simp only [Nat.add_zero] at hl; rw [hl, List.drop_length]; trivial⟩
  | m + 1, i, hx, hl => by
    obtain ⟨x, hx1⟩ := hx i (Nat.le_refl _) (by omega)
    obtain ⟨xs, h3, h4⟩ := ih _ x hx1
    obtain ⟨ys, h5, h6⟩ := arr_rep hsz ih m (i + 1) (fun j h1 h2 => hx j (by omega) (by omega)) (by rw [← hl]; congr 1; omega)
    refine ⟨xs ++ ys, ⟨xs, ys, rfl, h3, h5⟩, ?_⟩
    have := RepDs_append h4 h6
    rw [Nat.add_mul, Nat.one_mul, ← List.drop_drop, List.take_append_drop] at this
    exact this

/-- WHAT READS AS DATA STANDS FOR CELLS OF ITS TYPE. -/
theorem trod_rep (hS : ∀ b, b < w.heap.size → S b) : ∀ (fuel f : Nat) (t : TypeId) (ty : T) (cs : List Value) (x : DataW H × List MemPlace), tyOf P f t = some ty →
    DataW.trod enc P w base spare held fuel t cs = some x → ∃ xs, WfT ty xs ∧ RepDs S w xs cs
  | 0, _, _, _, _, _, _, h => by simp [DataW.trod] at h
  | fuel + 1, 0, _, _, _, _, ht, _ => by simp [tyOf] at ht
  | fuel + 1, f + 1, t, ty, cs, x, ht, h => by
    simp only [tyOf] at ht
    split at ht
    · rename_i hu
      simp only [Option.some.injEq] at ht
      subst ht
      simp only [DataW.trod, hu] at h
      split at h <;> simp_all
      rename_i b
      exact ⟨[.b b], ⟨b, rfl⟩, ⟨rfl, rfl⟩, trivial⟩
    · rename_i k hu
      simp only [Option.some.injEq] at ht
      subst ht
      simp only [DataW.trod, hu] at h
      split at h <;> simp_all
      rename_i k' n _
      obtain ⟨⟨rfl, hw⟩, _⟩ := h
      refine ⟨[.v (.int k' n)], ⟨n, rfl, ?_⟩, ⟨rfl, rfl⟩, trivial⟩
      cases k' <;> simpa [Lit.wf, IntKind.min, IntKind.max, IntKind.signed, IntKind.bits, lo, hi] using hw
    · rename_i hu
      simp only [Option.some.injEq] at ht
      subst ht
      simp only [DataW.trod, hu] at h
      split at h <;> simp_all
      rename_i s
      exact ⟨[.v (.string s)], ⟨s, rfl, h.1⟩, ⟨rfl, rfl⟩, trivial⟩
    · rename_i e hu
      split at ht
      · rename_i te he
        split at ht
        · rename_i hc
          simp only [Option.some.injEq] at ht
          subst ht
          rcases DataW.trod_slice hu h with ⟨rfl, _⟩ | ⟨a, len, cap, elems, rest, n, hn, rfl, _, hb, hlc, hcm, hlen, hel, _⟩
          · exact ⟨[.ro te.size []], ⟨[], rfl, Nat.zero_le _, by simp⟩, ⟨none, 0, 0, rfl, rfl, Nat.le_refl _, Nat.zero_le _, .inl rfl⟩, trivial⟩
          · obtain rfl : fuel = n := by omega
            have key : ∀ i, i < len → ∃ xs, xs.length = te.size ∧ WfT te xs ∧ RepCs S w a.block (a.off + i * te.size) xs ∧ a.spot = none ∧ a.block < w.heap.size := by
              intro i hi
              have h1 := hel i hi
              rw [List.getElem?_eq_getElem (by omega)] at h1
              obtain ⟨cs', h2, h3⟩ := Option.bind_eq_some_iff.1 h1
              obtain ⟨xs, h4, h5⟩ := trod_rep hS fuel f e te cs' _ he h3
              obtain ⟨_, h6, h7⟩ := World.cells?_some h2
              have h0 : w.cell? ((a.add (i * P.cellsOf e)).add 0) = cs'[0]? := h7 0 (by omega)
              rw [List.getElem?_eq_getElem (by omega)] at h0
              obtain ⟨h8, h9⟩ := cell_spot h0
              have hb0 : ((a.add (i * P.cellsOf e)).add 0).block = a.block := by unfold Addr.add; split <;> split <;> rfl
              have hnz : ∀ j, (a.add (i * P.cellsOf e)).add j = ⟨a.block, a.off + i * P.cellsOf e + j, none⟩ := by
                have : (a.add (i * P.cellsOf e)).spot = none := by simpa [Addr.add] using h8
                intro j
                rw [add_none this]
                have h10 : (a.add (i * P.cellsOf e)).block = a.block := by unfold Addr.add; split <;> rfl
                have h11 : (a.add (i * P.cellsOf e)).off = a.off + i * P.cellsOf e := by unfold Addr.add; split <;> simp_all
                rw [h10, h11]
              have hspot : a.spot = none := by
                have h1 := hel 0 (by omega)
                rw [List.getElem?_eq_getElem (by omega)] at h1
                obtain ⟨cs2, h12, _⟩ := Option.bind_eq_some_iff.1 h1
                obtain ⟨_, h13, h14⟩ := World.cells?_some h12
                have h15 := h14 0 (by omega)
                rw [List.getElem?_eq_getElem (by omega)] at h15
                have := (cell_spot h15).1
                simpa [Addr.add] using this
              refine ⟨xs, by rw [RepDs_len h5, h6, hc.1], h4, RepCs_of a.block _ xs cs' h5 fun j hj => ?_, hspot, by rw [← hb0]; exact h9⟩
              rw [← h7 j (by omega), hnz, hc.1]
            by_cases hl0 : len = 0
            · subst hl0
              exact ⟨[.ro te.size []], ⟨[], rfl, Nat.zero_le _, by simp⟩, ⟨some a, 0, cap, rfl, rfl, Nat.zero_le _, hcm, .inl rfl⟩, trivial⟩
            · obtain ⟨els, h20, h21, h22⟩ := els_of (S := S) (w := w) (sz := te.size) (b := a.block) (off := a.off) (len := len) (Q := WfT te) (fun i hi => by obtain ⟨xs, h1, h2, h3, _⟩ := key i hi; exact ⟨xs, h1, h2, h3⟩) len 0 (by omega)
              obtain ⟨_, _, _, _, h23, h24⟩ := key 0 (by omega)
              refine ⟨[.ro te.size els], ⟨els, rfl, by omega, h21⟩, ⟨some a, len, cap, rfl, h20.symm, hlc, hcm, .inr ⟨a.block, a.off, ?_, hS _ h24, by simpa using h22⟩⟩, trivial⟩
              cases a; simp_all
        · cases ht
      · cases ht
    · rename_i fs hu
      split at ht
      · rename_i ts hts
        split at ht
        · rename_i hc
          simp only [Option.some.injEq] at ht
          subst ht
          obtain ⟨xs, n, hn, _, hl, hxl, hf⟩ := DataW.trod_struct hu h
          obtain rfl : fuel = n := by omega
          obtain ⟨ys, h1, h2⟩ := fields_rep (P := P) (n := fuel) (cs := cs) (fun t ty cs x h1 h2 => trod_rep hS fuel f t ty cs x h1 h2) fs.toList 0 ts hts (fun fl hfl => by
            obtain ⟨i, hi⟩ := List.getElem?_of_mem hfl
            have hi' : fs[i]? = some fl := by simpa using hi
            have h3 := hf i fl hi'
            have : i < xs.length := by rw [hxl]; exact (Array.getElem?_eq_some_iff.1 hi').1
            rw [List.getElem?_eq_getElem this] at h3
            exact ⟨_, h3⟩) (by omega)
          exact ⟨ys, h1, by simpa using h2⟩
        · cases ht
      · cases ht
    · rename_i m e hu
      split at ht
      · rename_i te he
        split at ht
        · rename_i hc
          simp only [Option.some.injEq] at ht
          subst ht
          simp only [DataW.trod, hu] at h
          split at h
          · rename_i hl
            simp only [Option.map_eq_some_iff] at h
            obtain ⟨xs, h1, _⟩ := h
            have hlen := mapM_some_length h1
            obtain ⟨ys, h3, h4⟩ := arr_rep (P := P) (n := fuel) (ty := te) (e := e) (cs := cs) hc.1 (fun cs x h2 => trod_rep hS fuel f e te cs x he h2) m 0 (fun j _ hj => by
              have h5 := mapM_some_get h1 j j (by rw [List.getElem?_range]; omega)
              have : j < xs.length := by rw [hlen, List.length_range]; omega
              rw [List.getElem?_eq_getElem this] at h5
              exact ⟨_, h5⟩) (by rw [hl, hc.2.1, hc.1, Nat.zero_add])
            exact ⟨ys, h3, by simpa using h4⟩
          · cases h
        · cases ht
      · cases ht
    · cases ht
end
end Go.Fx
