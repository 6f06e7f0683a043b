import Derived.Test.YtmddpcjkpbjkeaaFxRunDefs
set_option linter.unusedVariables false
set_option linter.unusedSimpArgs false
set_option linter.unusedSectionVars false
namespace Go.Fx
open Go.RowKit

mutual
theorem killN_nil : ∀ x : V, kill [] x = x
  | .any => by simp [kill]
  | .v _ => by simp [kill]
  | .ro _ _ => by simp [kill]
  | .bro _ _ => by simp [kill]
  | .full _ _ => by simp [kill]
  | .rp _ _ _ _ => by simp [kill]
  | .sl _ _ _ => by simp [kill]
  | .ptr _ _ _ => by simp [kill]
  | .mp _ => by simp [kill]
  | .itr _ => by simp [kill]
  | .agg cs => by simp [kill, killsN_nil cs]
  | .tup cs => by simp [kill, killsN_nil cs]
  | .clo _ cs => by simp [kill, killsN_nil cs]
theorem killsN_nil : ∀ xs : List V, kills [] xs = xs
  | [] => rfl
  | x :: r => by simp [kills, killN_nil x, killsN_nil r]
end

theorem killN_B (b : Blk) : killB [] b = b := by
  cases b with
  | var cs => simp [killB, killsN_nil]
  | arv sz els => simp [killB, killsN_nil, funext killsN_nil]
  | map es c =>
    simp only [killB, killN_nil]
    congr 1
    simp
  | it m s sn l => simp [killB, killN_nil]
  | _ => rfl

theorem hasN_iff {l : List Nat} {n : Nat} : hasN l n = true ↔ n ∈ l := by
  unfold hasN
  simp only [List.any_eq_true, Nat.beq_eq]
  exact ⟨fun ⟨x, hx, e⟩ => e ▸ hx, fun h => ⟨n, h, rfl⟩⟩
theorem hasN_not {l : List Nat} {n : Nat} (h : hasN l n = false) : n ∉ l := fun hm => by rw [hasN_iff.2 hm] at h; cases h

mutual
theorem wk_refl : ∀ x : V, wk x x
  | .any => by simp [wk]
  | .v _ => by simp [wk]
  | .ro _ _ => by simp [wk, wkR]
  | .bro _ _ => by simp [wk, wkB]
  | .full _ _ => by simp [wk]
  | .rp _ _ _ _ => by simp [wk]
  | .sl _ _ _ => by simp [wk]
  | .ptr _ _ _ => by simp [wk]
  | .mp _ => by simp [wk]
  | .itr _ => by simp [wk]
  | .agg cs => by simp [wk, wkL_refl cs]
  | .tup cs => by simp [wk, wkL_refl cs]
  | .clo _ cs => by simp [wk, wkL_refl cs]
theorem wkL_refl : ∀ xs : List V, wkL xs xs
  | [] => by simp [wkL]
  | x :: r => by simp [wkL, wk_refl x, wkL_refl r]
end

mutual
theorem lendOk_of {h : List Blk} {g : Nat → Option Nat} : ∀ x : V, lendOkB h g x = true → lendOk h g x
  | .sl k i n, hx => by
    simp only [lendOkB] at hx
    simp only [lendOk]
    split
    · trivial
    · rename_i hg
      simp only [hg] at hx
      split
      · rename_i hb; simp only [hb] at hx; simpa using hx
      · trivial
  | .agg cs, hx => lendsOk_of cs (by simpa [lendOkB] using hx)
  | .tup cs, hx => lendsOk_of cs (by simpa [lendOkB] using hx)
  | .clo _ cs, hx => lendsOk_of cs (by simpa [lendOkB] using hx)
  | .any, _ | .v _, _ | .ro _ _, _ | .bro _ _, _ | .full _ _, _ | .rp _ _ _ _, _ | .ptr _ _ _, _ | .mp _, _ | .itr _, _ => by simp [lendOk]
theorem lendsOk_of {h : List Blk} {g : Nat → Option Nat} : ∀ xs : List V, lendsOkB h g xs = true → lendsOk h g xs
  | [], _ => by simp [lendsOk]
  | x :: r, hx => by
    simp only [lendsOkB, Bool.and_eq_true] at hx
    exact ⟨lendOk_of x hx.1, lendsOk_of r hx.2⟩
end

theorem live_of {h : List Blk} {k : Nat} (hl : liveB h k = true) : liveP h k := by
  unfold liveB at hl
  unfold liveP
  cases hb : h[k]? with
  | none => rw [hb] at hl; cases hl
  | some B => rw [hb] at hl; cases B <;> first | exact True.intro | cases hl

theorem keep_of {h : List Blk} {fx : List Nat} (hk : keepB h fx = true) : keepP fx h :=
  keepP_mk fun k hk' => live_of (List.all_eq_true.1 hk k hk')

theorem nodup_of : ∀ {l : List Nat}, nodupB l = true → l.Nodup
  | [], _ => List.nodup_nil
  | k :: r, h => by
    simp only [nodupB, Bool.and_eq_true, Bool.not_eq_true'] at h
    exact List.nodup_cons.2 ⟨hasN_not h.1, nodup_of h.2⟩

theorem loadCs_ok {n : Option Nat} {f : Nat} {cs : List V} {x : V} {K : V → Prop} (h : loadCsD n f cs = some x) (hK : K x) : loadCs n f cs K := by
  unfold loadCsD at h
  unfold loadCs
  split at h
  · rw [h]; exact hK
  · split at h
    · rename_i hc; simp only [Option.some.injEq] at h; subst h; exact ⟨hc, hK⟩
    · cases h
theorem loadB_ok {n : Option Nat} {i f : Nat} {b : Blk} {x : V} {K : V → Prop} (h : loadBD n i f b = some x) (hK : K x) : loadB n i f b K := by
  unfold loadBD at h
  unfold loadB
  split at h
  · exact loadCs_ok h hK
  · split at h
    · rename_i e he
      obtain ⟨hi, rfl⟩ := List.getElem?_eq_some_iff.1 he
      exact ⟨hi, loadCs_ok h hK⟩
    · cases h
  · split at h
    · rename_i e he
      obtain ⟨hi, rfl⟩ := List.getElem?_eq_some_iff.1 he
      exact ⟨hi, loadCs_ok h hK⟩
    · cases h
  · cases h
theorem load_ok {h : List Blk} {n : Option Nat} {p x : V} {K : V → Prop} (hd : loadD h n p = some x) (hK : K x) : loadP h n p K := by
  unfold loadD at hd
  unfold loadP
  split at hd
  · exact loadB_ok hd hK
  · split at hd
    · rename_i e he
      obtain ⟨hi, rfl⟩ := List.getElem?_eq_some_iff.1 he
      exact ⟨hi, loadCs_ok hd hK⟩
    · cases hd
  · cases hd
theorem storeB_ok {n i f : Nat} {cs : List V} {b b' : Blk} {K : Blk → Prop} (h : storeBD n i f cs b = some b') (hK : K b') : storeB n i f cs b K := by
  unfold storeBD at h
  unfold storeB
  split at h
  · split at h
    · rename_i hc; simp only [Option.some.injEq] at h; subst h; exact ⟨hc, hK⟩
    · cases h
  · split at h
    · rename_i e he
      obtain ⟨hi, rfl⟩ := List.getElem?_eq_some_iff.1 he
      split at h
      · rename_i hc; simp only [Option.some.injEq] at h; subst h; exact ⟨hc, hi, hK⟩
      · cases h
    · cases h
  · split at h
    · rename_i e he
      obtain ⟨hi, rfl⟩ := List.getElem?_eq_some_iff.1 he
      split at h
      · rename_i hc; simp only [Option.some.injEq] at h; subst h; exact ⟨hc, hi, hK⟩
      · cases h
    · cases h
  · cases h
theorem store_ok {bn : List Nat} {h h' : List Blk} {n : Nat} {p : V} {cs : List V} {K : List Blk → Prop} (hd : storeD bn h n p cs = some h') (hK : K h') : storeP bn h n p cs K := by
  unfold storeD at hd
  unfold storeP
  split at hd
  · split at hd
    · rename_i hc
      simp only [Option.map_eq_some_iff] at hd
      obtain ⟨b, hb, rfl⟩ := hd
      exact ⟨⟨hc.1, hasN_not hc.2.1⟩, hc.2.2, storeB_ok hb hK⟩
    · cases hd
  · cases hd
theorem arrSz_ok {z : Nat} {b : Blk} (h : arrSzB z b = true) : arrSz z b := by
  unfold arrSzB at h
  unfold arrSz
  split at h <;> simp_all
theorem idx_ok {h : List Blk} {z : Nat} {n : Int} {x y : V} {K : V → Prop} (hd : idxD h z n x = some y) (hK : K y) : idxP h z n x K := by
  unfold idxD at hd
  unfold idxP
  split at hd
  · split at hd
    · rename_i hc; simp only [Option.some.injEq] at hd; subst hd; exact ⟨arrSz_ok hc.1, hc.2, hK⟩
    · cases hd
  all_goals first
    | (split at hd
       · rename_i hc; simp only [Option.some.injEq] at hd; subst hd; exact ⟨hc.1, hc.2, hK⟩
       · cases hd)
    | cases hd
theorem len_ok {x y : V} {K : V → Prop} (hd : lenD x = some y) (hK : K y) : lenP x K := by
  unfold lenD at hd
  unfold lenP
  split at hd <;> first | (simp only [Option.some.injEq] at hd; subst hd; first | exact fun _ => hK | exact hK) | cases hd
theorem view_ok {h : List Blk} {x : V} {p : Nat × List (List V)} {K : Nat → List (List V) → Prop} (hd : viewD h x = some p) (hK : K p.1 p.2) : viewK h x K := by
  unfold viewD at hd
  unfold viewK
  split at hd
  · split at hd
    · rename_i hb
      split at hd
      · rename_i hc; simp only [Option.some.injEq] at hd; subst hd; simp only [hb]; exact ⟨hc, hK⟩
      · cases hd
    · cases hd
  all_goals first | (simp only [Option.some.injEq] at hd; subst hd; exact hK) | cases hd
theorem opt_ok {o : Option V} {r : Option Int} {K : Option Int → Prop} (hd : optD o = some r) (hK : K r) : optI o K := by
  unfold optD at hd
  unfold optI
  split at hd <;> first | (simp only [Option.some.injEq] at hd; subst hd; exact hK) | cases hd
theorem slc_ok {h : List Blk} {z : Nat} {x y : V} {l u m : Option Int} {K : V → Prop} (hd : slcD h z x l u m = some y) (hK : K y) : slcP h z x l u m K := by
  unfold slcD at hd
  unfold slcP
  split at hd
  · split at hd
    · rename_i hc; simp only [Option.some.injEq] at hd; subst hd; exact ⟨arrSz_ok hc.1, hc.2, hK⟩
    · cases hd
  all_goals first
    | (split at hd
       · rename_i hc; simp only [Option.some.injEq] at hd; subst hd; exact ⟨hc.1, hc.2, hK⟩
       · cases hd)
    | (split at hd
       · rename_i hc; simp only [Option.some.injEq] at hd; subst hd; exact ⟨hc, hK⟩
       · cases hd)
    | cases hd

section
variable {e : Env} {E : Tr} (he : ∀ i, get e i = E.get i)
include he
theorem ev_ok (x : Operand) : ev e x = evT E x := by
  cases x with
  | tmp t => exact he t
  | _ => rfl
theorem evs_ok (xs : List Operand) : xs.map (ev e) = xs.map (evT E) := by
  apply List.map_congr_left
  intro x _
  exact ev_ok he x
theorem evo_ok (x : Option Operand) : x.map (ev e) = x.map (evT E) := by
  cases x with
  | none => rfl
  | some x => simp [ev_ok he x]
theorem build_ok {y : V} {K : V → Prop} (hK : K y) : ∀ (ps : List (Nat × Nat × Operand)) (acc : List V), buildD E acc ps = some y → buildP e acc ps K
  | [], acc, h => by simp only [buildD, Option.some.injEq] at h; subst h; exact hK
  | (off, sz, x) :: r, acc, h => by
    simp only [buildD] at h
    simp only [buildP, ev_ok he x]
    split at h
    · rename_i cs hc
      split at h
      · rename_i hq; rw [hc]; exact ⟨hq, build_ok hK r _ h⟩
      · cases h
    · cases h
theorem lits_ok {sz : Nat} {els : List (List V)} {K : List (List V) → Prop} (hK : K els) : ∀ (ps : List (Nat × Operand)) (acc : List (List V)), litsD E sz acc ps = some els → litsP e sz acc ps K
  | [], acc, h => by simp only [litsD, Option.some.injEq] at h; subst h; exact hK
  | (i, x) :: r, acc, h => by
    simp only [litsD] at h
    simp only [litsP, ev_ok he x]
    split at h
    · rename_i cs hc
      split at h
      · rename_i hq; rw [hc]; exact ⟨⟨⟨hq.1, hq.2.1⟩, hq.2.2⟩, lits_ok hK r _ h⟩
      · cases h
    · cases h
end

theorem get_frzT (k sz : Nat) (els : List (List V)) : ∀ (E : Tr) (i : Nat), (frzT k sz els E).get i = frzV k sz els (E.get i)
  | .lf, _ => by simp [frzT, Tr.get, frzV]
  | .nd v l r, i => by
    cases i with
    | zero => rfl
    | succ j =>
      simp only [frzT, Tr.get]
      split
      · exact get_frzT k sz els l _
      · exact get_frzT k sz els r _
theorem frzD_ok {fx : List Nat} {b : Nat} {E' : Tr} {h' : List Blk} {K : St → Prop} : ∀ (xs : List Nat) (E : Tr) (h : List Blk) (e : Env), (∀ i, get e i = E.get i) → frzD fx xs (E, h) = some (E', h') → (∀ e', (∀ i, get e' i = E'.get i) → K ⟨e', h', b⟩) → frzP fx xs ⟨e, h, b⟩ K
  | [], E, h, e, he, hd, hK => by
    simp only [frzD, Option.some.injEq, Prod.mk.injEq] at hd
    obtain ⟨rfl, rfl⟩ := hd
    exact hK e he
  | x :: r, E, h, e, he, hd, hK => by
    simp only [frzD] at hd
    simp only [frzP, he x]
    split at hd
    · rename_i k i n hx
      rw [hx]
      show frz1 fx k (blk h k) _ _
      split at hd
      · rename_i sz els hb
        rw [hb]
        split at hd
        · cases hd
        · rename_i hk
          exact ⟨hasN_not (by simpa using hk), frzD_ok r _ _ _ (fun i => by rw [get_frzE, get_frzT, he]) hd hK⟩
      · rename_i hb
        unfold frz1
        split
        · rename_i hb'; exact (hb _ _ hb').elim
        · exact frzD_ok r _ _ _ he hd hK
    · rename_i hne
      split
      · rename_i hx; exact (hne _ _ _ hx).elim
      · exact frzD_ok r _ _ _ he hd hK

theorem fresh_ok {h : List Blk} {k : Nat} (hd : freshB h k = true) : freshP h k := by
  unfold freshB at hd
  unfold freshP
  split at hd
  · rename_i hb; rw [hb]; trivial
  · cases hd
theorem ex_ok {ex : Bool} {k : IntKind} {c : Int} {y : V} {K : V → Prop} (hd : exD ex k c = some y) (hK : K y) : if ex then (lo k ≤ c ∧ c ≤ hi k) ∧ K (.v (.int k c)) else K (.v (.int k (k.wrap c))) := by
  unfold exD at hd
  split at hd
  · rename_i h1
    rw [if_pos h1]
    split at hd
    · rename_i h2; simp only [Option.some.injEq] at hd; subst hd; exact ⟨h2, hK⟩
    · cases hd
  · rename_i h1; simp only [Option.some.injEq] at hd; subst hd; rw [if_neg h1]; exact hK
theorem bin_ok {op : BinOp} {ex : Bool} {k : IntKind} {a b : Int} {y : V} {K : V → Prop} (hd : binD op ex k a b = some y) (hK : K y) : binInt op ex k a b K := by
  unfold binD at hd
  unfold binInt
  cases op <;> simp only at hd ⊢
  case add | sub | mul => exact ex_ok hd hK
  case quo =>
    unfold quoD at hd
    split at hd
    · rename_i h0; exact ⟨h0, ex_ok hd hK⟩
    · cases hd
  case rem =>
    unfold remD at hd
    split at hd
    · rename_i h0; simp only [Option.some.injEq] at hd; subst hd; exact ⟨h0, hK⟩
    · cases hd
  case and | or | xor | andNot => simp only [andBD, orBD, xorBD, andNotBD, Option.some.injEq] at hd; subst hd; exact hK
  case eql => rw [eqZ_eq] at hd; simp only [Option.some.injEq] at hd; subst hd; exact hK
  case neq => rw [eqZ_eq] at hd; simp only [Option.some.injEq] at hd; subst hd; exact hK
  case lss | gtr => rw [ltZ_eq] at hd; simp only [Option.some.injEq] at hd; subst hd; exact hK
  case leq | geq =>
    rw [ltZ_eq] at hd
    simp only [Option.some.injEq] at hd
    subst hd
    have : ∀ u v : Int, (!decide (v < u)) = decide (u ≤ v) := by intro u v; rw [Bool.eq_iff_iff]; simp
    rw [this] at hK
    exact hK
  all_goals first | (simp only [Option.some.injEq] at hd; subst hd; exact hK) | cases hd
theorem eqFsD_ok {xs ys : List V} : ∀ {K : Bool → Prop} (ks : List (Nat × TypeDesc)) (t : Bool), eqFsD xs ys ks = some t → K t → eqFs xs ys ks K
  | K, [], t, h, hK => by
    simp only [eqFsD, Option.some.injEq] at h
    subst h
    exact hK
  | K, f :: r, t, h, hK => by
    simp only [eqFsD] at h
    simp only [eqFs, eqC]
    split at h
    · rename_i a b ha hb
      rw [ha, hb]
      split at h
      · rename_i hc
        simp only [Bool.and_eq_true] at hc
        split at h
        · rename_i u hu
          simp only [Option.some.injEq] at h
          subst h
          exact ⟨hc, eqFsD_ok r u hu hK⟩
        · cases h
      · cases h
    · cases h
theorem shift_ok {op : BinOp} {k : IntKind} {a b : Int} {y : V} {K : V → Prop} (hd : shiftD op k a b = some y) (hK : K y) : shiftInt op k a b K := by
  unfold shiftD at hd
  unfold shiftInt
  split at hd
  · split at hd
    · rename_i h0; simp only [Option.some.injEq] at hd; subst hd; exact ⟨h0, hK⟩
    · cases hd
  · split at hd
    · rename_i h0; simp only [Option.some.injEq] at hd; subst hd; exact ⟨h0, hK⟩
    · cases hd
  · cases hd
theorem map_ok {h : List Blk} {x : V} {p : Nat × List (Value × V × Nat) × Nat} {K : Nat → List (Value × V × Nat) → Nat → Prop} (hd : mapD h x = some p) (hK : K p.1 p.2.1 p.2.2) : mapK h x K := by
  unfold mapD at hd
  unfold mapK
  split at hd
  · split at hd
    · rename_i hb; simp only [Option.some.injEq] at hd; subst hd; simp only [hb, mapB]; exact hK
    · cases hd
  · cases hd
theorem look_ok {r : Option (Option (Nat × V))} {z : Value} {ok : Bool} {y : V} {K : V → Prop} (hd : lookD r z ok = some y) (hK : K y) : lookK r z ok K := by
  unfold lookD at hd
  unfold lookK
  split at hd <;> first | (simp only [Option.some.injEq] at hd; subst hd; exact hK) | cases hd
theorem mset_ok {r : Option (Option (Nat × V))} {key : Value} {x : V} {es : List (Value × V × Nat)} {c : Nat} {B : Blk} {K : Blk → Prop} (hd : msetD r key x es c = some B) (hK : K B) : msetK r key x es c K := by
  unfold msetD at hd
  unfold msetK
  split at hd <;> first | (simp only [Option.some.injEq] at hd; subst hd; exact hK) | cases hd
theorem mdel_ok {r : Option (Option (Nat × V))} {es : List (Value × V × Nat)} {c : Nat} {B : Blk} {K : Blk → Prop} (hd : mdelD r es c = some B) (hK : K B) : mdelK r es c K := by
  unfold mdelD at hd
  unfold mdelK
  split at hd <;> first | (simp only [Option.some.injEq] at hd; subst hd; exact hK) | cases hd
theorem it_ok {h : List Blk} {x : V} {p : Nat × V × Nat × List Nat × Nat} {K : Nat → V → Nat → List Nat → Nat → Prop} (hd : itD h x = some p) (hK : K p.1 p.2.1 p.2.2.1 p.2.2.2.1 p.2.2.2.2) : itK h x K := by
  unfold itD at hd
  unfold itK
  split at hd
  · split at hd
    · rename_i hb; simp only [Option.some.injEq] at hd; subst hd; simp only [hb, itB]; exact hK
    · cases hd
  · cases hd

section
variable {C : Ctr} {fx bn : List Nat} {call : CallD} {mvf : FuncId → Bool} {E : Tr} {h : List Blk} {b : Nat} {e : Env} {rs : List Res} {K : V → St → Prop}

/-- What an outcome's way on must bear. -/
def KOk (b : Nat) (rs : List Res) (K : V → St → Prop) : Prop := ∀ r ∈ rs, ∀ e', (∀ i, get e' i = r.E.get i) → K r.x ⟨e', r.h, b⟩

theorem kok1 {x : V} {E' : Tr} {h' : List Blk} (hK : KOk b [⟨x, E', h'⟩] K) {e' : Env} (h : ∀ i, get e' i = E'.get i) : K x ⟨e', h', b⟩ :=
  hK ⟨x, E', h'⟩ (by simp) e' h

theorem killIf_get {M : List Nat} {E : Tr} {e : Env} (he : ∀ i, get e i = E.get i) : ∀ i, get (killE M e) i = (killIf M E).get i := by
  intro i
  rw [get_killE, he]
  unfold killIf
  split
  · rw [killN_nil]
  · rw [Tr.get_kill]

theorem one_ok (he : ∀ i, get e i = E.get i) {x : V} {h' : List Blk} (hd : one E x h' = some rs) (hK : KOk b rs K) : K x ⟨e, h', b⟩ := by
  simp only [one, Option.some.injEq] at hd
  subst hd
  exact kok1 hK he
theorem oneO_ok (he : ∀ i, get e i = E.get i) {o : Option V} {h' : List Blk} (hd : oneO E o h' = some rs) (hK : KOk b rs K) : ∃ x, o = some x ∧ K x ⟨e, h', b⟩ := by
  unfold oneO at hd
  split at hd
  · exact ⟨_, rfl, one_ok he hd hK⟩
  · cases hd

theorem callD_ok (hcall : ∀ f as h0 mv r h', call f as h0 mv = some (r, h') → C f as h0 mv (fun r1 h1 => r1 = r ∧ h1 = h')) (he : ∀ i, get e i = E.get i) {f : FuncId} {args : List V} (hd : callD E call mvf fx bn f args h = some rs) (hK : KOk b rs K) :
    callP ⟨C, fx, bn⟩ f args ⟨e, h, b⟩ K := by
  unfold callD at hd
  generalize without bn (reach h 1000 (namesL args) []) = ι at hd
  generalize (if mvf f = true then List.range ι.length else []) = mv at hd
  unfold callI at hd
  split at hd
  · rename_i hc
    simp only [Bool.and_eq_true, List.all_eq_true, decide_eq_true_eq, Bool.not_eq_true', Bool.or_eq_true] at hc
    obtain ⟨⟨h1, h2⟩, h3, h4⟩ := hc
    split at hd
    · rename_i r h' hcl
      have hh : (if mv.isEmpty = true then h else h.map (killB (mv.filterMap (ι[·]?)))) = h.map (killB (mv.filterMap (ι[·]?))) := by
        cases mv with
        | nil => simp [killN_B, funext killN_B]
        | cons _ _ => rfl
      rw [hh] at hd
      unfold afterD at hd
      split at hd
      · rename_i hkp
        simp only [Option.some.injEq] at hd
        subst hd
        refine ⟨ι, _, mv, _, ⟨⟨nodup_of h1, fun k hk => ⟨(h2 k hk).1, hasN_not (h2 k hk).2⟩⟩, fun j hj k hk => ?_⟩, lendsOk_of _ h3, wkL_refl _, hcall _ _ _ _ _ _ hcl, ?_⟩
        · rcases h4 with h4 | h4
          · have : mv = [] := by simpa using h4
            subst this
            simp at hj
          · exact hasN_not (h4 k (List.mem_of_getElem? hk))
        · rintro r1 h1' ⟨rfl, rfl⟩ hl
          exact ⟨keep_of hkp, kok1 hK (e' := killE (mv.filterMap (ι[·]?)) e) (killIf_get he)⟩
      · cases hd
    · cases hd
  · cases hd

theorem opD_ok (hcall : ∀ f as h0 mv r h', call f as h0 mv = some (r, h') → C f as h0 mv (fun r1 h1 => r1 = r ∧ h1 = h')) (he : ∀ i, get e i = E.get i) {o : LOp} (hd : opD call mvf fx bn o E h b = some rs) (hK : KOk b rs K) :
    aOp ⟨C, fx, bn⟩ o ⟨e, h, b⟩ K := by
  have hv := ev_ok he
  cases o with
  | mov x => simp only [opD] at hd; simp only [aOp, hv]; exact one_ok he hd hK
  | pick c a d =>
    simp only [opD, o_pick] at hd
    simp only [aOp, hv]
    split at hd
    · rename_i t hc
      rw [hc]
      have := one_ok he hd hK
      cases t with
      | true => exact ⟨fun _ => this, fun h => by cases h⟩
      | false => exact ⟨fun h => (by cases h), fun _ => this⟩
    · cases hd
  | box j x =>
    simp only [opD, o_box] at hd
    simp only [aOp, hv]
    split at hd
    · rename_i cs hc
      split at hd
      · rename_i hf; rw [hc]; exact ⟨fresh_ok hf, one_ok he hd hK⟩
      · cases hd
    · cases hd
  | alloc j z =>
    simp only [opD, o_alloc] at hd
    simp only [aOp]
    split at hd
    · rename_i cs hc
      split at hd
      · rename_i hf; rw [hc]; exact ⟨fresh_ok hf, one_ok he hd hK⟩
      · cases hd
    · cases hd
  | load n a =>
    simp only [opD] at hd
    simp only [aOp, hv]
    obtain ⟨x, hx, hk⟩ := oneO_ok he hd hK
    exact load_ok hx hk
  | store n a x =>
    simp only [opD, o_store] at hd
    simp only [aOp, hv]
    split at hd
    · rename_i cs hc
      split at hd
      · rename_i h' hs; rw [hc]; exact store_ok (K := fun h => K (.v (.tuple #[])) ⟨e, h, b⟩) hs (one_ok he hd hK)
      · cases hd
    · cases hd
  | fld off x =>
    simp only [opD, o_fld] at hd
    simp only [aOp, hv]
    split at hd
    · rename_i hx; rw [hx]; exact one_ok he hd hK
    · rename_i hx; rw [hx]; exact one_ok he hd hK
    · cases hd
  | idx z x i =>
    simp only [opD, o_idx] at hd
    simp only [aOp, hv]
    split at hd
    · rename_i hx
      rw [hx]
      obtain ⟨y, hy, hk⟩ := oneO_ok he hd hK
      exact idx_ok (K := fun y => K y ⟨e, h, b⟩) hy hk
    · cases hd
  | bin op ex x y =>
    simp only [opD, o_bin] at hd
    simp only [aOp, hv]
    split at hd
    · rename_i hx hy
      split at hd
      · rename_i hk
        rw [hx, hy]
        obtain ⟨z, hz, hk'⟩ := oneO_ok he hd hK
        exact ⟨hk, bin_ok hz hk'⟩
      · cases hd
    · cases hd
  | shift op x y =>
    simp only [opD, o_shift] at hd
    simp only [aOp, hv]
    split at hd
    · rename_i hx hy
      rw [hx, hy]
      obtain ⟨z, hz, hk'⟩ := oneO_ok he hd hK
      exact shift_ok (K := fun y => K y ⟨e, h, b⟩) hz hk'
    · cases hd
  | len x =>
    simp only [opD] at hd
    simp only [aOp, hv]
    obtain ⟨y, hy, hk⟩ := oneO_ok he hd hK
    exact len_ok hy hk
  | lens x =>
    simp only [opD, o_lens] at hd
    simp only [aOp, hv]
    split at hd
    · rename_i hx; rw [hx]; exact one_ok he hd hK
    · cases hd
  | nilc x =>
    simp only [opD, o_nilc] at hd
    simp only [aOp, hv]
    split at hd
    · rename_i hx; rw [hx]; exact one_ok he hd hK
    · rename_i hx; rw [hx]; exact one_ok he hd hK
    · cases hd
  | not x =>
    simp only [opD, o_not] at hd
    simp only [aOp, hv]
    split at hd
    · rename_i hx; rw [hx]; exact one_ok he hd hK
    · cases hd
  | neg x =>
    simp only [opD, o_neg] at hd
    simp only [aOp, hv]
    split at hd
    · rename_i hx
      split at hd
      · rename_i hc; rw [hx]; simp only [intK, wrap_in _ _ hc]; exact one_ok he hd hK
      · cases hd
    · cases hd
  | conv ex k x =>
    simp only [opD, o_conv] at hd
    simp only [aOp, hv]
    split at hd
    · rename_i hx
      rw [hx]
      show (if _ then _ else _)
      split at hd
      · rename_i hex
        split at hd
        · rename_i hc; rw [if_pos hex]; exact ⟨hc, one_ok he hd hK⟩
        · cases hd
      · rename_i hex; rw [if_neg hex]; exact one_ok he hd hK
    · cases hd
  | minmax mx x y =>
    simp only [opD, o_minmax] at hd
    simp only [aOp, hv]
    split at hd
    · rename_i hx hy
      split at hd
      · rename_i hk; rw [hx, hy]; exact ⟨hk, one_ok he hd hK⟩
      · cases hd
    · cases hd
  | ext x i =>
    simp only [opD, o_ext] at hd
    simp only [aOp, hv]
    split at hd
    · rename_i vs hx
      rw [hx]
      obtain ⟨y, hy, hk⟩ := oneO_ok he hd hK
      show optK vs[i]? _
      rw [hy]; exact hk
    · cases hd
  | fn f caps =>
    simp only [opD] at hd
    simp only [aOp, evs_ok he]
    exact one_ok he hd hK
  | field off n x =>
    simp only [opD, o_field] at hd
    simp only [aOp, hv]
    split at hd
    · rename_i cs hx
      rw [hx]
      obtain ⟨y, hy, hk⟩ := oneO_ok he hd hK
      exact loadCs_ok hy hk
    · cases hd
  | slice z x l u m =>
    simp only [opD, o_slice] at hd
    simp only [aOp, hv, evo_ok he]
    split at hd
    · rename_i l' u' m' h1 h2 h3
      obtain ⟨y, hy, hk⟩ := oneO_ok he hd hK
      exact opt_ok h1 (opt_ok h2 (opt_ok h3 (slc_ok hy hk)))
    · cases hd
  | build z ps =>
    simp only [opD] at hd
    simp only [aOp]
    obtain ⟨y, hy, hk⟩ := oneO_ok he hd hK
    exact build_ok (K := fun y => K y ⟨e, h, b⟩) he hk ps _ hy
  | eqb neg x y =>
    simp only [opD, o_eqb] at hd
    simp only [aOp, hv]
    split at hd
    · rename_i hx hy; rw [hx, hy]; exact one_ok he hd hK
    · cases hd
  | eqn neg x y =>
    simp only [opD, o_eqn] at hd
    simp only [aOp, hv]
    split at hd
    · rename_i hy
      rw [hy]
      split at hd
      · rename_i ts ht
        simp only [Option.some.injEq] at hd
        subst hd
        have hk : ∀ t ∈ ts, K (.b (if neg then !t else t)) ⟨e, h, b⟩ := fun t ht => hK ⟨.b (if neg then !t else t), E, h⟩ (by simp only [List.mem_map]; exact ⟨t, ht, rfl⟩) e he
        show eqnP (evT E x) _
        generalize evT E x = v at ht ⊢
        unfold eqnD at ht
        unfold eqnP
        split at ht
        · split at ht
          · rename_i hn
            simp only [Option.some.injEq] at ht
            subst ht
            exact ⟨fun h => by omega, fun _ => ⟨hk true (by simp), hk false (by simp)⟩⟩
          · rename_i hn
            simp only [Option.some.injEq] at ht
            subst ht
            exact ⟨fun _ => hk false (by simp), fun h => absurd h hn⟩
        · split at ht
          · simp only [Option.some.injEq] at ht
            subst ht
            exact ⟨fun h => absurd rfl h, fun _ => ⟨hk true (by simp), hk false (by simp)⟩⟩
          · rename_i hn
            simp only [Option.some.injEq] at ht
            subst ht
            exact ⟨fun _ => hk false (by simp), fun h => (hn h).elim⟩
        · split at ht
          · simp only [Option.some.injEq] at ht
            subst ht
            exact ⟨fun h => absurd rfl h, fun _ => ⟨hk true (by simp), hk false (by simp)⟩⟩
          · rename_i hn
            simp only [Option.some.injEq] at ht
            subst ht
            exact ⟨fun _ => hk false (by simp), fun h => (hn h).elim⟩
        · simp only [Option.some.injEq] at ht
          subst ht
          exact hk true (by simp)
        · cases ht
      · cases hd
    · cases hd
  | lits j sz n z ps =>
    simp only [opD, o_lits] at hd
    simp only [aOp]
    split at hd
    · rename_i els hl
      split at hd
      · rename_i hf
        exact lits_ok (K := fun els => freshP h (b + j) ∧ K (.sl (b + j) 0 n) { e := e, h := h.set (b + j) (.arr sz els), b := b }) he ⟨fresh_ok hf, one_ok he hd hK⟩ ps _ hl
      · cases hd
    · cases hd
  | litsf xs j sz n z ps =>
    simp only [opD, o_litsf] at hd
    simp only [aOp]
    split at hd
    · rename_i E' h' hf
      obtain hfz := frzD_ok (b := b) (K := fun s => litsP s.e sz (List.replicate n (z.map .v)) ps fun els => freshP s.h (s.b + j) ∧ K (.sl (s.b + j) 0 n) { s with h := s.h.set (s.b + j) (.arr sz els) }) xs E h e he hf
      refine hfz fun e' he' => ?_
      split at hd
      · rename_i els hl
        split at hd
        · rename_i hf
          exact lits_ok (K := fun els => freshP h' (b + j) ∧ K (.sl (b + j) 0 n) { e := e', h := h'.set (b + j) (.arr sz els), b := b }) he' ⟨fresh_ok hf, one_ok he' hd hK⟩ ps _ hl
        · cases hd
      · cases hd
    · cases hd
  | mk j sz bytes z l c =>
    simp only [opD, o_mk] at hd
    simp only [aOp, hv]
    split at hd
    · rename_i hx hy
      split at hd
      · rename_i hc; rw [hx, hy]; exact ⟨hc.1, fresh_ok hc.2, one_ok he hd hK⟩
      · cases hd
    · cases hd
  | mkv j sz bytes z l c =>
    simp only [opD, o_mkv] at hd
    simp only [aOp, hv]
    split at hd
    · rename_i hx hy
      split at hd
      · rename_i hc; rw [hx, hy]; exact ⟨hc.1, fresh_ok hc.2, one_ok he hd hK⟩
      · cases hd
    · cases hd
  | mkmap j r =>
    simp only [opD, o_mkmap] at hd
    simp only [aOp]
    split at hd
    · rename_i hf
      split at hd
      · exact ⟨trivial, fresh_ok hf, one_ok he hd hK⟩
      · rename_i x
        split at hd
        · rename_i hx
          refine ⟨?_, fresh_ok hf, one_ok he hd hK⟩
          show intK (ev e x) _
          rw [hv, hx]; trivial
        · cases hd
    · cases hd
  | lookup kd z ok m k =>
    simp only [opD, o_lookup] at hd
    simp only [aOp, hv]
    split at hd
    · rename_i key hk
      split at hd
      · rename_i hkey
        rw [hk]
        refine ⟨hkey, ?_⟩
        split at hd
        · rename_i hm
          obtain ⟨y, hy, hk⟩ := oneO_ok he hd hK
          rw [hm]
          exact look_ok hy hk
        · rename_i hne
          split at hd
          · rename_i kb es c hmp
            obtain ⟨y, hy, hk⟩ := oneO_ok he hd hK
            split
            · rename_i hm; rw [hm] at hmp; simp [mapD] at hmp
            · exact map_ok hmp (look_ok hy hk)
          · cases hd
      · cases hd
    · cases hd
  | mset kd m k x =>
    simp only [opD, o_mset] at hd
    simp only [aOp, hv]
    split at hd
    · rename_i key hk
      split at hd
      · rename_i hkey
        rw [hk]
        refine ⟨hkey, ?_⟩
        split at hd
        · rename_i kb es c hmp
          split at hd
          · cases hd
          · rename_i hbn
            split at hd
            · rename_i B hB
              exact map_ok hmp ⟨hasN_not (by simpa using hbn), mset_ok hB (one_ok he hd hK)⟩
            · cases hd
        · cases hd
      · cases hd
    · cases hd
  | mdel kd m k =>
    simp only [opD, o_mdel] at hd
    simp only [aOp, hv]
    split at hd
    · rename_i key hk
      split at hd
      · rename_i hkey
        rw [hk]
        refine ⟨hkey, ?_⟩
        split at hd
        · rename_i kb es c hmp
          split at hd
          · cases hd
          · rename_i hbn
            split at hd
            · rename_i B hB
              exact map_ok hmp ⟨hasN_not (by simpa using hbn), mdel_ok hB (one_ok he hd hK)⟩
            · cases hd
        · cases hd
      · cases hd
    · cases hd
  | mlen m =>
    simp only [opD, o_mlen] at hd
    simp only [aOp, hv]
    split at hd
    · rename_i hmp; exact map_ok hmp (one_ok he hd hK)
    · cases hd
  | range j m =>
    simp only [opD, o_range] at hd
    simp only [aOp, hv]
    split at hd
    · rename_i hmp
      split at hd
      · rename_i hf; exact map_ok hmp ⟨fresh_ok hf, one_ok he hd hK⟩
      · cases hd
    · cases hd
  | next i =>
    simp only [opD, o_next] at hd
    simp only [aOp, hv]
    split at hd
    · rename_i k m since seen last hit
      split at hd
      · rename_i kb es c hmp
        split at hd
        · cases hd
        · rename_i hbn
          refine it_ok hit (map_ok hmp ⟨hasN_not (by simpa using hbn), ?_⟩)
          unfold nextD at hd
          simp only at hd
          split at hd
          · rename_i hc
            refine ⟨hc, ?_, ?_⟩
            · intro hall
              split at hd
              · simp only [Option.some.injEq] at hd
                subst hd
                exact kok1 hK he
              · rename_i hne
                exfalso
                apply hne
                rw [List.filter_eq_nil_iff]
                intro a ha
                have := List.all_eq_true.1 hall a ha
                rw [this]; simp
            · intro a ha hs
              have hmem : a ∈ es.filter fun e => !(seen.contains e.2.2) := by
                rw [List.mem_filter]; exact ⟨ha, by rw [hs]; rfl⟩
              split at hd
              · rename_i hnil; rw [hnil] at hmem; simp at hmem
              · simp only [Option.some.injEq] at hd
                subst hd
                exact hK ⟨.tup [.b true, .v a.1, a.2.1], E, h.set k (.it m since (seen ++ [a.2.2]) c)⟩ (by rw [List.mem_map]; exact ⟨a, hmem, rfl⟩) e he
          · cases hd
      · cases hd
    · cases hd
  | entry i =>
    simp only [opD, o_entry] at hd
    simp only [aOp, hv]
    split at hd
    · rename_i k m since seen last hit
      split at hd
      · rename_i kb es c hmp
        split at hd
        · rename_i hl
          split at hd
          · rename_i st hst
            split at hd
            · rename_i a ha
              refine it_ok hit (map_ok hmp ⟨hl, ?_⟩)
              show optK seen.getLast? _
              rw [hst]
              simp only [optK, ha, entK]
              exact one_ok he hd hK
            · cases hd
          · cases hd
        · cases hd
      · cases hd
    · cases hd
  | append j sz bytes x y =>
    simp only [opD, o_append] at hd
    simp only [aOp, hv]
    split at hd
    · rename_i sz' new hvw
      split at hd
      · rename_i hc
        refine view_ok hvw ⟨by simpa using hc, ?_⟩
        have hnew : ∀ {id : Nat} {old : List (List V)}, appNewD E id sz bytes h old new = some rs → appNew id sz bytes ⟨e, h, b⟩ old new K := by
          intro id old hn
          unfold appNewD at hn
          split at hn
          · rename_i hq
            simp only [Option.some.injEq] at hn
            subst hn
            exact ⟨hq.1, fresh_ok hq.2, kok1 hK he⟩
          · cases hn
        unfold appD at hd
        show appP fx bn (b + j) sz bytes ⟨e, h, b⟩ (evT E x) new K
        generalize evT E x = v at hd ⊢
        unfold appP
        split at hd
        · rename_i k i n
          unfold appBD at hd
          show appB fx bn k i n sz bytes ⟨e, h, b⟩ new (blk h k) K
          unfold appB
          split at hd
          · rename_i sz0 els hb
            split at hd
            · rename_i hq
              simp only [Option.some.injEq] at hd
              subst hd
              simp only [hb]
              exact ⟨hq.1, ⟨hasN_not hq.2.1, hasN_not hq.2.2⟩, kok1 hK (e' := killE [k] e) (fun i => by rw [get_killE, he, Tr.get_kill])⟩
            · cases hd
          · cases hd
        · exact hnew hd
        · split at hd
          · rename_i hq
            exact ⟨⟨hq.1, by simpa using hq.2⟩, hnew hd⟩
          · cases hd
        · cases hd
      · cases hd
    · cases hd
  | copy sz x y =>
    simp only [opD, o_copy] at hd
    simp only [aOp, hv]
    split at hd
    · rename_i sz' new hvw
      split at hd
      · rename_i hc
        refine view_ok hvw ⟨by simpa using hc, ?_⟩
        unfold copyD at hd
        show copyP bn sz ⟨e, h, b⟩ (evT E x) new K
        generalize evT E x = v at hd ⊢
        unfold copyP
        split at hd
        · rename_i k i n
          split at hd
          · rename_i sz0 els hb
            split at hd
            · rename_i hq
              simp only [Option.some.injEq] at hd
              subst hd
              show copyB bn k i n sz ⟨e, h, b⟩ new (blk h k) K
              rw [hb]
              exact ⟨⟨hq.1, hq.2.1, hasN_not hq.2.2⟩, kok1 hK he⟩
            · cases hd
          · cases hd
        · cases hd
      · cases hd
    · cases hd
  | call f xs =>
    simp only [opD, o_call] at hd
    simp only [aOp, evs_ok he]
    exact callD_ok hcall he hd hK
  | callv f xs =>
    simp only [opD, o_callv] at hd
    simp only [aOp, hv, evs_ok he]
    split at hd
    · rename_i g cs hf
      rw [hf]
      exact callD_ok hcall he hd hK
    · cases hd
  | eqf neg ks x y =>
    simp only [opD, o_eqf] at hd
    simp only [aOp, hv]
    split at hd
    · rename_i xs ys hx hy
      split at hd
      · rename_i t ht
        rw [hx, hy]
        exact eqFsD_ok (K := fun t => K (.b (if neg then !t else t)) ⟨e, h, b⟩) _ t ht (one_ok he hd hK)
      · cases hd
    · cases hd
  | iface _ _ => simp [opD] at hd
  | panic => simp [opD] at hd
  | bad => simp [opD] at hd
end
end Go.Fx
