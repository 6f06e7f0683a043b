import Derived.Test.YtmddpcjkpbjkeaaFxData
import Derived.Test.YtmddpcjkpbjkeaaFxFn
import Derived.OpenShut
import Derived.ChangeOld
import Derived.Below
import Derived.ProofKit
import Derived.JoinedCond
set_option linter.unusedVariables false
set_option linter.unusedSimpArgs false
set_option linter.unusedSectionVars false
namespace Go.Fx
open Go.RowKit Go.ChangeShapes Go.WideShapes

/-- The value of a parameter of this type. -/
def WfV : T → V → Prop
  | .st fs, x => ∃ cs, WfTs fs cs ∧ x = .agg cs
  | .int k, x => WfT (.int k) [x]
  | .bool, x => WfT .bool [x]
  | .str, x => WfT .str [x]
  | .sl sz e, x => WfT (.sl sz e) [x]

def WfA : List T → List V → Prop
  | [], xs => xs = []
  | t :: ts, xs => ∃ x r, xs = x :: r ∧ WfV t x ∧ WfA ts r

def tysA (P : Program) : List TypeId → Option (List T)
  | [] => some []
  | t :: ts => match tyOf P 20 t, tysA P ts with
    | some x, some r => some (x :: r)
    | _, _ => none

def rho0 : Nat → Loc := fun _ => ⟨false, 0, 0, 0, 0⟩
theorem rho0_own (b : Nat) : ¬ Own rho0 b := fun ⟨_, h, _⟩ => by simp [rho0] at h
theorem rho0_rep (w : World) : Rep rho0 (fun _ => False) w [] :=
  ⟨fun j k _ h => by simp [rho0] at h, fun _ _ => rfl, fun k b h => by simp at h, fun _ h => (rho0_own _ h).elim, fun k h => by simp [rho0] at h, fun _ h => h.elim⟩

section
variable {P : Program} {w : World} {ρ : Nat → Loc} {X : Nat → Prop}

theorem RepD_V : ∀ {x : V} {u : Value}, RepD (Sta ρ X w) w x u → RepV ρ X w x u
  | .v _, _, h => h.1
  | .ro _ _, _, h => h
  | .any, _, h | .bro _ _, _, h | .full _ _, _, h | .sl _ _ _, _, h | .ptr _ _ _, _, h | .rp _ _ _ _, _, h | .agg _, _, h | .tup _, _, h | .clo _ _, _, h | .mp _, _, h | .itr _, _, h => h.elim
theorem RepDs_L : ∀ {xs : List V} {us : List Value}, RepDs (Sta ρ X w) w xs us → RepL ρ X w xs us
  | [], [], _ => trivial
  | _ :: _, _ :: _, h => ⟨RepD_V h.1, RepDs_L h.2⟩
  | [], _ :: _, h => h.elim
  | _ :: _, [], h => h.elim

theorem cells_one {v u : Value} (h : v.cells.toList = [u]) (hn : ∀ cs, v ≠ .agg cs) : u = v := by
  cases v <;> simp_all [Value.cells]

variable {H : Type} {enc : TypeId × Value → H} {base : Nat} {spare : Nat → Bool} {held : Bool}

theorem arg_rep {n : Nat} {t : TypeId} {ty : T} {v : Value} {r : Reach} {b : Nat} {d : DataW H} {p : List MemPlace} (hS : ∀ b, b < w.heap.size → Sta ρ X w b) (ht : tyOf P n t = some ty)
    (hok : Value.okWide P w r b t v) (h : DataW.Trod enc P w base spare held t v d p) : ∃ x, WfV ty x ∧ RepV ρ X w x v := by
  obtain ⟨fuel, h⟩ := h
  obtain ⟨xs, h1, h2⟩ := trod_rep hS fuel n t ty _ _ ht h
  cases n with
  | zero => simp [tyOf] at ht
  | succ n =>
    unfold Value.okWide at hok
    simp only [tyOf] at ht
    split at ht
    · rename_i hu
      simp only [Option.some.injEq] at ht
      subst ht
      obtain ⟨c, rfl⟩ := h1
      have hl := RepDs_len h2
      obtain ⟨u, hu'⟩ : ∃ u, v.cells.toList = [u] := List.length_eq_one_iff.1 hl.symm
      have hv := cells_one hu' (fun cs hc => by subst hc; simp [hu, Cell.okWide, Cell.ok] at hok)
      subst hv
      rw [hu'] at h2
      exact ⟨_, ⟨c, rfl⟩, RepD_V h2.1⟩
    · rename_i k hu
      simp only [Option.some.injEq] at ht
      subst ht
      obtain ⟨c, rfl, hc⟩ := h1
      have hl := RepDs_len h2
      obtain ⟨u, hu'⟩ : ∃ u, v.cells.toList = [u] := List.length_eq_one_iff.1 hl.symm
      have hv := cells_one hu' (fun cs hc => by subst hc; simp [hu, Cell.okWide, Cell.ok] at hok)
      subst hv
      rw [hu'] at h2
      exact ⟨_, ⟨c, rfl, hc⟩, RepD_V h2.1⟩
    · rename_i hu
      simp only [Option.some.injEq] at ht
      subst ht
      obtain ⟨c, rfl, hc⟩ := h1
      have hl := RepDs_len h2
      obtain ⟨u, hu'⟩ : ∃ u, v.cells.toList = [u] := List.length_eq_one_iff.1 hl.symm
      have hv := cells_one hu' (fun cs hc => by subst hc; simp [hu, Cell.okWide, Cell.ok] at hok)
      subst hv
      rw [hu'] at h2
      exact ⟨_, ⟨c, rfl, hc⟩, RepD_V h2.1⟩
    · rename_i e hu
      split at ht
      · rename_i te _
        split at ht
        · simp only [Option.some.injEq] at ht
          subst ht
          obtain ⟨c, rfl, hc⟩ := h1
          have hl := RepDs_len h2
          obtain ⟨u, hu'⟩ : ∃ u, v.cells.toList = [u] := List.length_eq_one_iff.1 hl.symm
          have hv := cells_one hu' (fun cs hc => by subst hc; simp [hu, Cell.okWide, Cell.ok] at hok)
          subst hv
          rw [hu'] at h2
          exact ⟨_, ⟨c, rfl, hc⟩, RepD_V h2.1⟩
        · cases ht
      · cases ht
    · rename_i fs hu
      split at ht
      · split at ht
        · simp only [Option.some.injEq] at ht
          subst ht
          simp only [hu] at hok
          obtain ⟨cs, rfl, _⟩ := hok
          exact ⟨.agg xs, ⟨xs, h1, rfl⟩, cs, rfl, RepDs_L (by simpa [Value.cells] using h2)⟩
        · cases ht
      · cases ht
    · rename_i m e hu
      split at ht
      · split at ht
        · simp only [Option.some.injEq] at ht
          subst ht
          simp only [hu] at hok
          obtain ⟨cs, rfl, _⟩ := hok
          exact ⟨.agg xs, ⟨xs, h1, rfl⟩, cs, rfl, RepDs_L (by simpa [Value.cells] using h2)⟩
        · cases ht
      · cases ht
    · cases ht

theorem args_rep (hS : ∀ b, b < w.heap.size → Sta ρ X w b) : ∀ (ts : List TypeId) (tys : List T) (vs : List Value) (ds : List (DataW H)) (p : List MemPlace), tysA P ts = some tys →
    (∀ (j : Nat) t v, ts[j]? = some t → vs[j]? = some v → Value.okWide P w .any base t v) → DataW.TrodAll enc P w 0 spare held ts vs ds p → ∃ xs, WfA tys xs ∧ RepL ρ X w xs vs ∧ ds.length = tys.length
  | [], tys, vs, ds, p, ht, hok, h => by
    simp only [tysA, Option.some.injEq] at ht
    subst ht
    obtain ⟨rfl, rfl, rfl⟩ := trodAll_nil h
    exact ⟨[], rfl, trivial, rfl⟩
  | t :: ts, tys, vs, ds, p, ht, hok, h => by
    simp only [tysA] at ht
    split at ht
    · rename_i ty tr h1 h2
      simp only [Option.some.injEq] at ht
      subst ht
      obtain ⟨v, vs1, d, ds1, a, b, rfl, rfl, rfl, h3, h4⟩ := trodAll_cons h
      obtain ⟨x, h5, h6⟩ := arg_rep hS h1 (hok 0 t v rfl rfl) h3
      obtain ⟨xs, h7, h8, h9⟩ := args_rep hS ts tr vs1 ds1 b h2 (fun j t v h1 h2 => hok (j + 1) t v (by simpa using h1) (by simpa using h2)) h4
      exact ⟨x :: xs, ⟨x, xs, rfl, h5, h7⟩, ⟨h6, h8⟩, by simp [h9]⟩
    · cases ht

theorem trodAll_stays (hl : laidOutB P = true) {W W' : World} (hb : Below W.heap.size W W') : ∀ (ts : List TypeId) (vs : List Value) (ds : List (DataW H)) (p : List MemPlace), (∀ t ∈ ts, P.readableRec t = true ∧ t < P.types.size) →
    DataW.TrodAll enc P W 0 (fun _ => true) true ts vs ds p → (∀ x ∈ p, x.block < W.heap.size) → DataW.TrodAll enc P W' 0 (fun b => decide (b < W.heap.size)) true ts vs ds p
  | [], vs, ds, p, _, h, _ => by
    obtain ⟨rfl, rfl, rfl⟩ := trodAll_nil h
    rfl
  | t :: ts, vs, ds, p, hr, h, hlt => by
    obtain ⟨v, vs1, d, ds1, a, b, rfl, rfl, rfl, h3, h4⟩ := trodAll_cons h
    exact trodAll_cons_mk (Below.trod hl (hr t List.mem_cons_self).1 (hr t List.mem_cons_self).2 h3 hb (fun x hx => hlt x (List.mem_append_left _ hx)))
      (trodAll_stays hl hb ts vs1 ds1 b (fun t ht => hr t (List.mem_cons_of_mem _ ht)) h4 (fun x hx => hlt x (List.mem_append_right _ hx)))

theorem trodAll_true (hl : laidOutB P = true) {W W' : World} (hb : Below W.heap.size W W') : ∀ (ts : List TypeId) (vs : List Value) (ds : List (DataW H)) (p : List MemPlace), (∀ t ∈ ts, P.readableRec t = true ∧ t < P.types.size) →
    DataW.TrodAll enc P W 0 (fun _ => true) true ts vs ds p → (∀ x ∈ p, x.block < W.heap.size) → DataW.TrodAll enc P W' 0 (fun _ => true) true ts vs ds p
  | [], vs, ds, p, _, h, _ => by
    obtain ⟨rfl, rfl, rfl⟩ := trodAll_nil h
    rfl
  | t :: ts, vs, ds, p, hr, h, hlt => by
    obtain ⟨v, vs1, d, ds1, a, b, rfl, rfl, rfl, h3, h4⟩ := trodAll_cons h
    exact trodAll_cons_mk (WideElems.Trod_stays hl (hr t List.mem_cons_self).1 (hr t List.mem_cons_self).2 h3 (fun x hx => hb.same (hlt x (List.mem_append_left _ hx))) (fun _ _ => rfl))
      (trodAll_true hl hb ts vs1 ds1 b (fun t ht => hr t (List.mem_cons_of_mem _ ht)) h4 (fun x hx => hlt x (List.mem_append_right _ hx)))

/-- FROM A LAW's CONTRACT TO WHAT ITS ROW ASKS. -/
theorem law_contract {f : FuncId} {fn : Func} {s : ChangeSpec} {tys : List T} {tb : TypeId} {apart fresh handsOn again : Bool}
    (hl : laidOutB P = true) (ht : tysA P fn.params.toList = some tys) (hread : (fn.params.toList.all fun t => P.readableRec t && decide (t < P.types.size)) = true)
    (hres : fn.resultTypes = #[tb]) (hb : P.underlying tb = some .bool) (hvars : s.vars = [])
    (hspec : ∀ (H : Type) (ds : List (DataW H)), ds.length = tys.length → s.fn H ds = { results := [.lit (.bool true)], args := ds })
    (hfn : ∀ as, WfA tys as → Fn P f as [] [] (fun r _ => r = .b true))
    (W : World) (base : Nat) (args : Array Value) (ds gs : List (DataW H)) (before : List MemPlace)
    (hval : ∀ (j : Nat) t v, fn.params[j]? = some t → args[j]? = some v → Value.okWide P W .any base t v)
    (hW : DataW.Whole enc P fn.params.toList s.vars apart W args.toList ds gs before) :
    Calls P f args W fun e W' => ∃ v, e = .returned v ∧ s.post enc P fn apart fresh handsOn again W args v W' := by
  have hW' := hW
  obtain ⟨p, q, hA, hV, rfl, hfz, hnd⟩ := hW
  have hpl := hW'.lt
  have hV0 : gs = [] ∧ q = [] := by
    rw [hvars] at hV
    cases gs with
    | nil => exact ⟨rfl, hV⟩
    | cons _ _ => exact hV.elim
  obtain ⟨rfl, rfl⟩ := hV0
  obtain ⟨xs, h1, h2, h3⟩ := args_rep (ρ := rho0) (X := fun _ => False) (fun b hb => ⟨hb, rho0_own b, fun h => h⟩) fn.params.toList tys args.toList ds p ht (fun j t v h1 h2 => hval j t v (by simpa using h1) (by simpa using h2)) hA
  have hc := hfn xs h1 rho0 (fun _ => False) W args.toList (rho0_rep W) h2
  have harr : args.toList.toArray = args := by simp
  rw [harr] at hc
  refine hc.mono fun e W' ⟨val, r, h', ρ', he, ⟨hr, _⟩, hF, hR, hv, _⟩ => ?_
  subst hr
  have hv : val = .bool true := hv
  subst hv
  refine ⟨_, he, ?_⟩
  have hbel : Below W.heap.size W W' := ⟨hF.os, hF.tape, hF.output, hF.size, fun k hk => (hF.keep k hk (rho0_own k)).1⟩
  have hsz : fn.resultTypes.size = 1 := by rw [hres]; rfl
  have hrl : (Value.bool true).resultList fn.resultTypes.size = [.bool true] := by rw [hsz]; rfl
  have hsp : s.fn H (ds ++ []) = { results := [.lit (.bool true)], args := ds } := by rw [List.append_nil]; exact hspec H ds h3
  have hrd : ∀ t ∈ fn.params.toList, P.readableRec t = true ∧ t < P.types.size := by
    intro t ht
    have := List.all_eq_true.1 hread t ht
    simpa using this
  have hplt : ∀ x ∈ p, x.block < W.heap.size := fun x hx => hpl x (by simpa using hx)
  have hok : ∀ (j : Nat) (t : TypeId) (r : Value), fn.resultTypes[j]? = some t → ((Value.bool true).resultList fn.resultTypes.size)[j]? = some r → Value.okWide P W' .any 0 t r := by
    intro j t r h4 h5
    rw [hrl] at h5
    rw [hres] at h4
    cases j with
    | zero =>
      simp only [List.getElem?_cons_zero, Option.some.injEq] at h5
      simp only [List.getElem?_toArray, List.getElem?_cons_zero, Option.some.injEq] at h4
      subst h4 h5
      simp [Value.okWide, hb, Cell.okWide, Cell.ok]
    | succ j => simp at h5
  have hrt : ∀ (b : Nat) (sp : Nat → Bool) (hd : Bool), DataW.TrodAll enc P W' b sp hd fn.resultTypes.toList ((Value.bool true).resultList fn.resultTypes.size) [.lit (.bool true)] [] := by
    intro b sp hd
    rw [hrl, hres]
    exact ⟨[], [], ⟨1, by simp [DataW.trod, Value.cells, hb]⟩, rfl, rfl⟩
  refine ⟨ds, [], p ++ [], [], p, [], hW', ?_, ?_, ?_, hbel.frame _, fun _ => ⟨hok, ds.cons (.lit (.bool true)), [], p ++ [], ?_, fun x hx _ => hx⟩⟩
  · rw [hsp]; exact hrt _ _ _
  · rw [hsp]; exact trodAll_stays hl hbel _ _ _ _ hrd hA hplt
  · rw [hsp, hvars]; rfl
  · refine ⟨p, [], ?_, by rw [hvars]; rfl, rfl, ?_, hnd⟩
    · have h6 := trodAll_true hl hbel _ _ _ _ hrd hA hplt
      have h7 := trodAll_append h6 (hrt 0 (fun _ => true) true)
      simpa using h7
    · intro b off hp
      have h8 := hfz b off hp
      rw [World.frozen?_of_block (w := W) (hbel.block b (hpl _ hp))]
      exact h8
end
end Go.Fx
