import Derived.Test.YtemlboicdekgbaaFxRunDefs
set_option linter.unusedVariables false
set_option linter.unusedSimpArgs false
set_option linter.unusedSectionVars false
namespace Go.Fx
open Go.RowKit
mutual
theorem killN_nil : ∀ x : V, kill [] x = x
  | .any => by simp [kill]
  | .v _ => by simp [kill]
  | .ro _ _ => by simp [kill]
  | .bro _ _ => by simp [kill]
  | .full _ _ => by simp [kill]
  | .rp _ _ _ _ => by simp [kill]
  | .sl _ _ _ => by simp [kill]
  | .ptr _ _ _ => by simp [kill]
  | .mp _ => by simp [kill]
  | .itr _ => by simp [kill]
  | .agg cs => by simp [kill, killsN_nil cs]
  | .tup cs => by simp [kill, killsN_nil cs]
  | .clo _ cs => by simp [kill, killsN_nil cs]
theorem killsN_nil : ∀ xs : List V, kills [] xs = xs
  | [] => rfl
  | x :: r => by simp [kills, killN_nil x, killsN_nil r]
end
theorem killE_nilN : ∀ e : Env, killE [] e = e
  | [] => rfl
  | (_, x) :: r => by simp [killE, killN_nil x, killE_nilN r]
theorem killN_B (b : Blk) : killB [] b = b := by
  cases b with
  | var cs => simp [killB, killsN_nil]
  | arv sz els => simp [killB, killsN_nil, funext killsN_nil]
  | map es c =>
    simp only [killB, killN_nil]
    congr 1
    simp
  | it m s sn l => simp [killB, killN_nil]
  | rcd t e => simp [killB, killE_nilN]
  | _ => rfl
theorem hasN_iff {l : List Nat} {n : Nat} : hasN l n = true ↔ n ∈ l := by
  unfold hasN
  simp only [List.any_eq_true, Nat.beq_eq]
  exact ⟨fun ⟨x, hx, e⟩ => e ▸ hx, fun h => ⟨n, h, rfl⟩⟩
theorem hasN_not {l : List Nat} {n : Nat} (h : hasN l n = false) : n ∉ l := fun hm => by rw [hasN_iff.2 hm] at h; cases h
mutual
theorem wk_refl : ∀ x : V, wk x x
  | .any => by simp [wk]
  | .v _ => by simp [wk]
  | .ro _ _ => by simp [wk, wkR]
  | .bro _ _ => by simp [wk, wkB]
  | .full _ _ => by simp [wk]
  | .rp _ _ _ _ => by simp [wk]
  | .sl _ _ _ => by simp [wk]
  | .ptr _ _ _ => by simp [wk]
  | .mp _ => by simp [wk]
  | .itr _ => by simp [wk]
  | .agg cs => by simp [wk, wkL_refl cs]
  | .tup cs => by simp [wk, wkL_refl cs]
  | .clo _ cs => by simp [wk, wkL_refl cs]
theorem wkL_refl : ∀ xs : List V, wkL xs xs
  | [] => by simp [wkL]
  | x :: r => by simp [wkL, wk_refl x, wkL_refl r]
end
mutual
theorem lendOk_of {h : List Blk} {g : Nat → Option Nat} : ∀ x : V, lendOkB h g x = true → lendOk h g x
  | .sl k i n, hx => by
    simp only [lendOkB] at hx
    simp only [lendOk]
    split
    · trivial
    · rename_i hg
      simp only [hg] at hx
      split
      · rename_i hb; simp only [hb] at hx; simpa using hx
      · trivial
  | .agg cs, hx => lendsOk_of cs (by simpa [lendOkB] using hx)
  | .tup cs, hx => lendsOk_of cs (by simpa [lendOkB] using hx)
  | .clo _ cs, hx => lendsOk_of cs (by simpa [lendOkB] using hx)
  | .any, _ | .v _, _ | .ro _ _, _ | .bro _ _, _ | .full _ _, _ | .rp _ _ _ _, _ | .ptr _ _ _, _ | .mp _, _ | .itr _, _ => by simp [lendOk]
theorem lendsOk_of {h : List Blk} {g : Nat → Option Nat} : ∀ xs : List V, lendsOkB h g xs = true → lendsOk h g xs
  | [], _ => by simp [lendsOk]
  | x :: r, hx => by
    simp only [lendsOkB, Bool.and_eq_true] at hx
    exact ⟨lendOk_of x hx.1, lendsOk_of r hx.2⟩
end
theorem live_of {h : List Blk} {k : Nat} (hl : liveB h k = true) : liveP h k := by
  unfold liveB at hl
  unfold liveP
  cases hb : h[k]? with
  | none => rw [hb] at hl; cases hl
  | some B => rw [hb] at hl; cases B <;> first | exact True.intro | cases hl
theorem keep_of {h : List Blk} {fx : List Nat} (hk : keepB h fx = true) : keepP fx h :=
  keepP_mk fun k hk' => live_of (List.all_eq_true.1 hk k hk')
theorem nodup_of : ∀ {l : List Nat}, nodupB l = true → l.Nodup
  | [], _ => List.nodup_nil
  | k :: r, h => by
    simp only [nodupB, Bool.and_eq_true, Bool.not_eq_true'] at h
    exact List.nodup_cons.2 ⟨hasN_not h.1, nodup_of h.2⟩
theorem loadCs_ok {n : Option Nat} {f : Nat} {cs : List V} {x : V} {K : V → Prop} (h : loadCsD n f cs = some x) (hK : K x) : loadCs n f cs K := by
  unfold loadCsD at h
  unfold loadCs
  split at h
  · rw [h]; exact hK
  · split at h
    · rename_i hc; simp only [Option.some.injEq] at h; subst h; exact ⟨hc, hK⟩
    · cases h
theorem loadB_ok {n : Option Nat} {i f : Nat} {b : Blk} {x : V} {K : V → Prop} (h : loadBD n i f b = some x) (hK : K x) : loadB n i f b K := by
  unfold loadBD at h
  unfold loadB
  split at h
  · exact loadCs_ok h hK
  · split at h
    · rename_i e he
      obtain ⟨hi, rfl⟩ := List.getElem?_eq_some_iff.1 he
      exact ⟨hi, loadCs_ok h hK⟩
    · cases h
  · split at h
    · rename_i e he
      obtain ⟨hi, rfl⟩ := List.getElem?_eq_some_iff.1 he
      exact ⟨hi, loadCs_ok h hK⟩
    · cases h
  · cases h
theorem load_ok {h : List Blk} {n : Option Nat} {p x : V} {K : V → Prop} (hd : loadD h n p = some x) (hK : K x) : loadP h n p K := by
  unfold loadD at hd
  unfold loadP
  split at hd
  · exact loadB_ok hd hK
  · split at hd
    · rename_i e he
      obtain ⟨hi, rfl⟩ := List.getElem?_eq_some_iff.1 he
      exact ⟨hi, loadCs_ok hd hK⟩
    · cases hd
  · cases hd
theorem storeB_ok {n i f : Nat} {cs : List V} {b b' : Blk} {K : Blk → Prop} (h : storeBD n i f cs b = some b') (hK : K b') : storeB n i f cs b K := by
  unfold storeBD at h
  unfold storeB
  split at h
  · split at h
    · rename_i hc; simp only [Option.some.injEq] at h; subst h; exact ⟨hc, hK⟩
    · cases h
  · split at h
    · rename_i e he
      obtain ⟨hi, rfl⟩ := List.getElem?_eq_some_iff.1 he
      split at h
      · rename_i hc; simp only [Option.some.injEq] at h; subst h; exact ⟨hc, hi, hK⟩
      · cases h
    · cases h
  · split at h
    · rename_i e he
      obtain ⟨hi, rfl⟩ := List.getElem?_eq_some_iff.1 he
      split at h
      · rename_i hc; simp only [Option.some.injEq] at h; subst h; exact ⟨hc, hi, hK⟩
      · cases h
    · cases h
  · cases h
theorem store_ok {bn : List Nat} {h h' : List Blk} {n : Nat} {p : V} {cs : List V} {K : List Blk → Prop} (hd : storeD bn h n p cs = some h') (hK : K h') : storeP bn h n p cs K := by
  unfold storeD at hd
  unfold storeP
  split at hd
  · split at hd
    · rename_i hc
      simp only [Option.map_eq_some_iff] at hd
      obtain ⟨b, hb, rfl⟩ := hd
      exact ⟨⟨hc.1, hasN_not hc.2.1⟩, hc.2.2, storeB_ok hb hK⟩
    · cases hd
  · cases hd
theorem arrSz_ok {z : Nat} {b : Blk} (h : arrSzB z b = true) : arrSz z b := by
  unfold arrSzB at h
  unfold arrSz
  split at h <;> simp_all
theorem idx_ok {h : List Blk} {z : Nat} {n : Int} {x y : V} {K : V → Prop} (hd : idxD h z n x = some y) (hK : K y) : idxP h z n x K := by
  unfold idxD at hd
  unfold idxP
  split at hd
  · split at hd
    · rename_i hc; simp only [Option.some.injEq] at hd; subst hd; exact ⟨arrSz_ok hc.1, hc.2, hK⟩
    · cases hd
  all_goals first
    | (split at hd
       · rename_i hc; simp only [Option.some.injEq] at hd; subst hd; exact ⟨hc.1, hc.2, hK⟩
       · cases hd)
    | cases hd
theorem len_ok {x y : V} {K : V → Prop} (hd : lenD x = some y) (hK : K y) : lenP x K := by
  unfold lenD at hd
  unfold lenP
  split at hd <;> first | (simp only [Option.some.injEq] at hd; subst hd; first | exact fun _ => hK | exact hK) | cases hd
theorem view_ok {h : List Blk} {x : V} {p : Nat × List (List V)} {K : Nat → List (List V) → Prop} (hd : viewD h x = some p) (hK : K p.1 p.2) : viewK h x K := by
  unfold viewD at hd
  unfold viewK
  split at hd
  · split at hd
    · rename_i hb
      split at hd
      · rename_i hc; simp only [Option.some.injEq] at hd; subst hd; simp only [hb]; exact ⟨hc, hK⟩
      · cases hd
    · rename_i hb
      split at hd
      · rename_i hc; simp only [Option.some.injEq] at hd; subst hd; simp only [hb]; exact ⟨hc, hK⟩
      · cases hd
    · cases hd
  all_goals first | (simp only [Option.some.injEq] at hd; subst hd; exact hK) | cases hd
theorem opt_ok {o : Option V} {r : Option Int} {K : Option Int → Prop} (hd : optD o = some r) (hK : K r) : optI o K := by
  unfold optD at hd
  unfold optI
  split at hd <;> first | (simp only [Option.some.injEq] at hd; subst hd; exact hK) | cases hd
theorem slc_ok {h : List Blk} {z : Nat} {x y : V} {l u m : Option Int} {K : V → Prop} (hd : slcD h z x l u m = some y) (hK : K y) : slcP h z x l u m K := by
  unfold slcD at hd
  unfold slcP
  split at hd
  · split at hd
    · rename_i hc; simp only [Option.some.injEq] at hd; subst hd; exact ⟨arrSz_ok hc.1, hc.2, hK⟩
    · cases hd
  all_goals first
    | (split at hd
       · rename_i hc; simp only [Option.some.injEq] at hd; subst hd; exact ⟨hc.1, hc.2, hK⟩
       · cases hd)
    | (split at hd
       · rename_i hc; simp only [Option.some.injEq] at hd; subst hd; exact ⟨hc, hK⟩
       · cases hd)
    | cases hd
section
variable {e : Env} {E : Tr} (he : ∀ i, get e i = E.get i)
include he
theorem ev_ok (x : Operand) : ev e x = evT E x := by
  cases x with
  | tmp t => exact he t
  | _ => rfl
theorem evs_ok (xs : List Operand) : xs.map (ev e) = xs.map (evT E) := by
  apply List.map_congr_left
  intro x _
  exact ev_ok he x
theorem evo_ok (x : Option Operand) : x.map (ev e) = x.map (evT E) := by
  cases x with
  | none => rfl
  | some x => simp [ev_ok he x]
theorem build_ok {y : V} {K : V → Prop} (hK : K y) : ∀ (ps : List (Nat × Nat × Operand)) (acc : List V), buildD E acc ps = some y → buildP e acc ps K
  | [], acc, h => by simp only [buildD, Option.some.injEq] at h; subst h; exact hK
  | (off, sz, x) :: r, acc, h => by
    simp only [buildD] at h
    simp only [buildP, ev_ok he x]
    split at h
    · rename_i cs hc
      split at h
      · rename_i hq; rw [hc]; exact ⟨hq, build_ok hK r _ h⟩
      · cases h
    · cases h
theorem lits_ok {sz : Nat} {els : List (List V)} {K : List (List V) → Prop} (hK : K els) : ∀ (ps : List (Nat × Operand)) (acc : List (List V)), litsD E sz acc ps = some els → litsP e sz acc ps K
  | [], acc, h => by simp only [litsD, Option.some.injEq] at h; subst h; exact hK
  | (i, x) :: r, acc, h => by
    simp only [litsD] at h
    simp only [litsP, ev_ok he x]
    split at h
    · rename_i cs hc
      split at h
      · rename_i hq; rw [hc]; exact ⟨⟨⟨hq.1, hq.2.1⟩, hq.2.2⟩, lits_ok hK r _ h⟩
      · cases h
    · cases h
end
theorem get_frzT (k sz : Nat) (els : List (List V)) : ∀ (E : Tr) (i : Nat), (frzT k sz els E).get i = frzV k sz els (E.get i)
  | .lf, _ => by simp [frzT, Tr.get, frzV]
  | .nd v l r, i => by
    cases i with
    | zero => rfl
    | succ j =>
      simp only [frzT, Tr.get]
      split
      · exact get_frzT k sz els l _
      · exact get_frzT k sz els r _
theorem frzD_ok {fx : List Nat} {b : Nat} {E' : Tr} {h' : List Blk} {K : St → Prop} : ∀ (xs : List Nat) (E : Tr) (h : List Blk) (e : Env), (∀ i, get e i = E.get i) → frzD fx xs (E, h) = some (E', h') → (∀ e', (∀ i, get e' i = E'.get i) → K ⟨e', h', b⟩) → frzP fx xs ⟨e, h, b⟩ K
  | [], E, h, e, he, hd, hK => by
    simp only [frzD, Option.some.injEq, Prod.mk.injEq] at hd
    obtain ⟨rfl, rfl⟩ := hd
    exact hK e he
  | x :: r, E, h, e, he, hd, hK => by
    simp only [frzD] at hd
    simp only [frzP, he x]
    split at hd
    · rename_i k i n hx
      rw [hx]
      show frz1 fx k (blk h k) _ _
      split at hd
      · rename_i sz els hb
        rw [hb]
        split at hd
        · cases hd
        · rename_i hk
          exact ⟨hasN_not (by simpa using hk), frzD_ok r _ _ _ (fun i => by rw [get_frzE, get_frzT, he]) hd hK⟩
      · rename_i hb
        unfold frz1
        split
        · rename_i hb'; exact (hb _ _ hb').elim
        · exact frzD_ok r _ _ _ he hd hK
    · rename_i hne
      split
      · rename_i hx; exact (hne _ _ _ hx).elim
      · exact frzD_ok r _ _ _ he hd hK
theorem fresh_ok {h : List Blk} {k : Nat} (hd : freshB h k = true) : freshP h k := by
  unfold freshB at hd
  unfold freshP
  split at hd
  · rename_i hb; rw [hb]; trivial
  · cases hd
theorem ex_ok {ex : Bool} {k : IntKind} {c : Int} {y : V} {K : V → Prop} (hd : exD ex k c = some y) (hK : K y) : if ex then (lo k ≤ c ∧ c ≤ hi k) ∧ K (.v (.int k c)) else K (.v (.int k (k.wrap c))) := by
  unfold exD at hd
  split at hd
  · rename_i h1
    rw [if_pos h1]
    split at hd
    · rename_i h2; simp only [Option.some.injEq] at hd; subst hd; exact ⟨h2, hK⟩
    · cases hd
  · rename_i h1; simp only [Option.some.injEq] at hd; subst hd; rw [if_neg h1]; exact hK
theorem bin_ok {op : BinOp} {ex : Bool} {k : IntKind} {a b : Int} {y : V} {K : V → Prop} (hd : binD op ex k a b = some y) (hK : K y) : binInt op ex k a b K := by
  unfold binD at hd
  unfold binInt
  cases op <;> simp only at hd ⊢
  case add | sub | mul => exact ex_ok hd hK
  case quo =>
    unfold quoD at hd
    split at hd
    · rename_i h0; exact ⟨h0, ex_ok hd hK⟩
    · cases hd
  case rem =>
    unfold remD at hd
    split at hd
    · rename_i h0; simp only [Option.some.injEq] at hd; subst hd; exact ⟨h0, hK⟩
    · cases hd
  case and | or | xor | andNot => simp only [andBD, orBD, xorBD, andNotBD, Option.some.injEq] at hd; subst hd; exact hK
  case eql => rw [eqZ_eq] at hd; simp only [Option.some.injEq] at hd; subst hd; exact hK
  case neq => rw [eqZ_eq] at hd; simp only [Option.some.injEq] at hd; subst hd; exact hK
  case lss | gtr => rw [ltZ_eq] at hd; simp only [Option.some.injEq] at hd; subst hd; exact hK
  case leq | geq =>
    rw [ltZ_eq] at hd
    simp only [Option.some.injEq] at hd
    subst hd
    have : ∀ u v : Int, (!decide (v < u)) = decide (u ≤ v) := by intro u v; rw [Bool.eq_iff_iff]; simp
    rw [this] at hK
    exact hK
  all_goals first | (simp only [Option.some.injEq] at hd; subst hd; exact hK) | cases hd
theorem eqFsD_ok {xs ys : List V} : ∀ {K : Bool → Prop} (ks : List (Nat × TypeDesc)) (t : Bool), eqFsD xs ys ks = some t → K t → eqFs xs ys ks K
  | K, [], t, h, hK => by
    simp only [eqFsD, Option.some.injEq] at h
    subst h
    exact hK
  | K, f :: r, t, h, hK => by
    simp only [eqFsD] at h
    simp only [eqFs, eqC]
    split at h
    · rename_i a b ha hb
      rw [ha, hb]
      split at h
      · rename_i hc
        simp only [Bool.and_eq_true] at hc
        split at h
        · rename_i u hu
          simp only [Option.some.injEq] at h
          subst h
          exact ⟨hc, eqFsD_ok r u hu hK⟩
        · cases h
      · cases h
    · cases h
theorem shift_ok {op : BinOp} {k : IntKind} {a b : Int} {y : V} {K : V → Prop} (hd : shiftD op k a b = some y) (hK : K y) : shiftInt op k a b K := by
  unfold shiftD at hd
  unfold shiftInt
  split at hd
  · split at hd
    · rename_i h0; simp only [Option.some.injEq] at hd; subst hd; exact ⟨h0, hK⟩
    · cases hd
  · split at hd
    · rename_i h0; simp only [Option.some.injEq] at hd; subst hd; exact ⟨h0, hK⟩
    · cases hd
  · cases hd
theorem map_ok {h : List Blk} {x : V} {p : Nat × List (Value × V × Nat) × Nat} {K : Nat → List (Value × V × Nat) → Nat → Prop} (hd : mapD h x = some p) (hK : K p.1 p.2.1 p.2.2) : mapK h x K := by
  unfold mapD at hd
  unfold mapK
  split at hd
  · split at hd
    · rename_i hb; simp only [Option.some.injEq] at hd; subst hd; simp only [hb, mapB]; exact hK
    · cases hd
  · cases hd
theorem look_ok {r : Option (Option (Nat × V))} {z : Value} {ok : Bool} {y : V} {K : V → Prop} (hd : lookD r z ok = some y) (hK : K y) : lookK r z ok K := by
  unfold lookD at hd
  unfold lookK
  split at hd <;> first | (simp only [Option.some.injEq] at hd; subst hd; exact hK) | cases hd
theorem mset_ok {r : Option (Option (Nat × V))} {key : Value} {x : V} {es : List (Value × V × Nat)} {c : Nat} {B : Blk} {K : Blk → Prop} (hd : msetD r key x es c = some B) (hK : K B) : msetK r key x es c K := by
  unfold msetD at hd
  unfold msetK
  split at hd <;> first | (simp only [Option.some.injEq] at hd; subst hd; exact hK) | cases hd
theorem mdel_ok {r : Option (Option (Nat × V))} {es : List (Value × V × Nat)} {c : Nat} {B : Blk} {K : Blk → Prop} (hd : mdelD r es c = some B) (hK : K B) : mdelK r es c K := by
  unfold mdelD at hd
  unfold mdelK
  split at hd <;> first | (simp only [Option.some.injEq] at hd; subst hd; exact hK) | cases hd
theorem it_ok {h : List Blk} {x : V} {p : Nat × V × Nat × List Nat × Nat} {K : Nat → V → Nat → List Nat → Nat → Prop} (hd : itD h x = some p) (hK : K p.1 p.2.1 p.2.2.1 p.2.2.2.1 p.2.2.2.2) : itK h x K := by
  unfold itD at hd
  unfold itK
  split at hd
  · split at hd
    · rename_i hb; simp only [Option.some.injEq] at hd; subst hd; simp only [hb, itB]; exact hK
    · cases hd
  · cases hd
section
variable {C : Ctr} {it : Itr} {yy : Nat → Yt} {rk : Option Nat} {fx bn : List Nat} {call : CallD} {mvf : FuncId → Option Nat} {E : Tr} {h : List Blk} {b : Nat} {e : Env} {rs : List Res} {K : V → St → Prop}
def KOk (b : Nat) (rs : List Res) (K : V → St → Prop) : Prop := ∀ r ∈ rs, ∀ e', (∀ i, get e' i = r.E.get i) → K r.x ⟨e', r.h, b⟩
theorem kok1 {x : V} {E' : Tr} {h' : List Blk} (hK : KOk b [⟨x, E', h'⟩] K) {e' : Env} (h : ∀ i, get e' i = E'.get i) : K x ⟨e', h', b⟩ :=
  hK ⟨x, E', h'⟩ (by simp) e' h
theorem killIf_get {M : List Nat} {E : Tr} {e : Env} (he : ∀ i, get e i = E.get i) : ∀ i, get (killE M e) i = (killIf M E).get i := by
  intro i
  rw [get_killE, he]
  unfold killIf
  split
  · rw [killN_nil]
  · rw [Tr.get_kill]
theorem one_ok (he : ∀ i, get e i = E.get i) {x : V} {h' : List Blk} (hd : one E x h' = some rs) (hK : KOk b rs K) : K x ⟨e, h', b⟩ := by
  simp only [one, Option.some.injEq] at hd
  subst hd
  exact kok1 hK he
theorem oneO_ok (he : ∀ i, get e i = E.get i) {o : Option V} {h' : List Blk} (hd : oneO E o h' = some rs) (hK : KOk b rs K) : ∃ x, o = some x ∧ K x ⟨e, h', b⟩ := by
  unfold oneO at hd
  split at hd
  · exact ⟨_, rfl, one_ok he hd hK⟩
  · cases hd
theorem callD_ok (hcall : ∀ f zas h0 mv r h', call f zas h0 mv = some (r, h') → C f zas h0 mv (fun r1 h1 => r1 = r ∧ h1 = h')) (he : ∀ i, get e i = E.get i) {f : FuncId} {args : List V} (hd : callD E call mvf fx bn f args h = some rs) (hK : KOk b rs K) :
    callP { C := C, fx := fx, bn := bn, it := it, y := yy, rk := rk } f args ⟨e, h, b⟩ K := by
  unfold callD at hd
  generalize without bn (reach h 1000 (namesL args) []) = ι at hd
  generalize mvOf (mvf f) ι.length = mv at hd
  unfold callI at hd
  split at hd
  · rename_i hc
    simp only [Bool.and_eq_true, List.all_eq_true, decide_eq_true_eq, Bool.not_eq_true', Bool.or_eq_true] at hc
    obtain ⟨⟨h1, h2⟩, h3, h4⟩ := hc
    split at hd
    · rename_i r h' hcl
      have hh : (if mv.isEmpty = true then h else h.map (killB (mv.filterMap (ι[·]?)))) = h.map (killB (mv.filterMap (ι[·]?))) := by
        cases mv with
        | nil => simp [killN_B, funext killN_B]
        | cons _ _ => rfl
      rw [hh] at hd
      unfold afterD at hd
      split at hd
      · rename_i hkp
        simp only [Option.some.injEq] at hd
        subst hd
        refine ⟨ι, _, mv, _, ⟨⟨nodup_of h1, fun k hk => ⟨(h2 k hk).1, hasN_not (h2 k hk).2⟩⟩, fun j hj k hk => ?_⟩, lendsOk_of _ h3, wkL_refl _, hcall _ _ _ _ _ _ hcl, ?_⟩
        · rcases h4 with h4 | h4
          · have : mv = [] := by simpa using h4
            subst this
            simp at hj
          · exact hasN_not (h4 k (List.mem_of_getElem? hk))
        · rintro r1 h1' ⟨rfl, rfl⟩ hl
          exact ⟨keep_of hkp, kok1 hK (e' := killE (mv.filterMap (ι[·]?)) e) (killIf_get he)⟩
      · cases hd
    · cases hd
  · cases hd
theorem int_ok {x : V} {n : Int} {K : IntKind → Int → Prop} (hd : intD x = some n) (hK : ∀ k, K k n) : intK x K := by
  unfold intD at hd
  split at hd
  · simp only [Option.some.injEq] at hd; subst hd; exact hK _
  · cases hd
theorem str_ok {x : V} {t : ByteArray} {K : ByteArray → Prop} (hd : strD x = some t) (hK : K t) : strK x K := by
  unfold strD at hd
  split at hd
  · simp only [Option.some.injEq] at hd; subst hd; exact hK
  · cases hd
theorem agg_ok {x : V} {cs : List V} {K : List V → Prop} (hd : aggD x = some cs) (hK : K cs) : aggK x K := by
  unfold aggD at hd
  split at hd
  · simp only [Option.some.injEq] at hd; subst hd; exact hK
  · cases hd
theorem fld_ok {off : Nat} {x y : V} {K : V → Prop} (hd : fldD off x = some y) (hK : K y) : fldP off x K := by
  unfold fldD at hd
  split at hd
  · simp only [Option.some.injEq] at hd; subst hd; exact hK
  · simp only [Option.some.injEq] at hd; subst hd; exact hK
  · cases hd
theorem slcA_ok {n : Nat} {x y : V} {l u m : Option Int} {K : V → Prop} (hd : slcAD h n x l u m = some y) (hK : K y) : slcAP h n x l u m K := by
  unfold slcAD at hd
  unfold slcAP
  split at hd
  · split at hd
    · rename_i hb
      split at hd
      · rename_i hc; simp only [Option.some.injEq] at hd; subst hd; simp only [hb, slcAB]; exact ⟨hc, hK⟩
      · cases hd
    · cases hd
  · split at hd
    · rename_i e' he'
      obtain ⟨hi, rfl⟩ := List.getElem?_eq_some_iff.1 he'
      split at hd
      · rename_i hc; simp only [Option.some.injEq] at hd; subst hd; exact ⟨hc.1, hi, hc.2, hK⟩
      · cases hd
    · cases hd
  · cases hd
theorem peq_ok {x y : V} {t : Bool} {K : Bool → Prop} (hd : peqD x y = some t) (hK : K t) : peqP x y K := by
  unfold peqD at hd
  unfold peqP
  split at hd
  · split at hd <;> first | (simp only [Option.some.injEq] at hd; subst hd; exact hK) | cases hd
  · cases hd
theorem sslc_ok {t : ByteArray} {l u : Option Int} {y : V} {K : V → Prop} (hd : sslcD t l u = some y) (hK : K y) : sslcP t l u K := by
  unfold sslcD at hd
  split at hd
  · rename_i hc; simp only [Option.some.injEq] at hd; subst hd; exact ⟨hc, hK⟩
  · cases hd
theorem sbin_ok {op : BinOp} {t u : ByteArray} {y : V} {K : V → Prop} (hd : sbinD op t u = some y) (hK : K y) : sbinP op t u K := by
  unfold sbinD at hd
  unfold sbinP
  cases op <;> simp only at hd ⊢
  case add =>
    split at hd
    · rename_i hc; simp only [Option.some.injEq] at hd; subst hd; exact ⟨hc, hK⟩
    · cases hd
  all_goals first | (simp only [Option.some.injEq] at hd; subst hd; exact hK) | cases hd
theorem mm_ok {mx : Bool} {y : V} {K : V → Prop} (hK : K y) : ∀ {r : List V} {x : V}, mmD mx x r = some y → mmP mx x r K
  | [], x, h => by simp only [mmD, Option.some.injEq] at h; subst h; exact hK
  | z :: r, x, h => by
    simp only [mmD] at h
    split at h
    · split at h
      · rename_i hk; exact ⟨hk, mm_ok hK h⟩
      · cases h
    · cases h
theorem prim_ok {p : Prim} {xs : List V} {y : V} {K : V → Prop} (hd : primD h p xs = some y) (hK : K y) : primP h p xs K := by
  unfold primD at hd
  unfold primP
  split at hd <;> (try simp only [Option.bind_eq_some_iff] at hd)
  · obtain ⟨j, h1, h2⟩ := hd
    split at h2
    · rename_i hc; exact int_ok h1 fun _ => ⟨hc, fld_ok h2 hK⟩
    · cases h2
  · exact slcA_ok hd hK
  · obtain ⟨j, h1, h2⟩ := hd; exact int_ok h1 fun _ => slcA_ok h2 hK
  · obtain ⟨j, h1, h2⟩ := hd; exact int_ok h1 fun _ => slcA_ok h2 hK
  · obtain ⟨j, h1, j2, h2, h3⟩ := hd; exact int_ok h1 fun _ => int_ok h2 fun _ => slcA_ok h3 hK
  · obtain ⟨j, h1, j2, h2, h3⟩ := hd; exact int_ok h1 fun _ => int_ok h2 fun _ => slcA_ok h3 hK
  · obtain ⟨j, h1, j2, h2, j3, h3, h4⟩ := hd; exact int_ok h1 fun _ => int_ok h2 fun _ => int_ok h3 fun _ => slcA_ok h4 hK
  · obtain ⟨t, h1, h2⟩ := hd
    simp only [Option.some.injEq] at h2
    subst h2
    exact peq_ok h1 hK
  · obtain ⟨j, h1, h2⟩ := hd
    split at h2
    · rename_i hc
      simp only [Option.bind_eq_some_iff] at h2
      obtain ⟨cs, h3, h4⟩ := h2
      exact int_ok h1 fun _ => ⟨hc, agg_ok h3 (loadCs_ok h4 hK)⟩
    · cases h2
  · unfold aeqD at hd
    split at hd
    · rename_i xs ys hx hy
      split at hd
      · rename_i t ht
        simp only [Option.some.injEq] at hd
        subst hd
        simp only [hx, hy]
        exact eqFsD_ok _ t ht hK
      · cases hd
    · cases hd
  · obtain ⟨t, h1, j, h2, h3⟩ := hd
    split at h3
    · rename_i hc
      simp only [Option.bind_eq_some_iff, Option.some.injEq] at h3
      obtain ⟨c, h4, h5⟩ := h3
      subst h5
      exact str_ok h1 (int_ok h2 fun _ => ⟨hc, by rw [h4]; exact hK⟩)
    · cases h3
  · obtain ⟨t, h1, h2⟩ := hd; exact str_ok h1 (sslc_ok h2 hK)
  · obtain ⟨t, h1, j, h2, h3⟩ := hd; exact str_ok h1 (int_ok h2 fun _ => sslc_ok h3 hK)
  · obtain ⟨t, h1, j, h2, h3⟩ := hd; exact str_ok h1 (int_ok h2 fun _ => sslc_ok h3 hK)
  · obtain ⟨t, h1, j, h2, j2, h3, h4⟩ := hd; exact str_ok h1 (int_ok h2 fun _ => int_ok h3 fun _ => sslc_ok h4 hK)
  · obtain ⟨t, h1, u, h2, h3⟩ := hd; exact str_ok h1 (str_ok h2 (sbin_ok h3 hK))
  · exact mm_ok hK hd
  · cases hd
theorem keyA_ok {ks : List (Nat × TypeDesc)} {x : V} {us : List Value} {K : List Value → Prop} (hd : keyAD ks x = some us) (hK : K us) : keyA ks x K := by
  unfold keyAD at hd
  unfold keyA
  split at hd
  · split at hd
    · rename_i us' hm
      split at hd
      · rename_i hc
        simp only [Option.some.injEq] at hd
        subst hd
        simp only [hm]
        exact ⟨hc, hK⟩
      · cases hd
    · cases hd
  · cases hd
theorem keysA_ok {ks : List (Nat × TypeDesc)} {es : List (Value × V × Nat)} (hd : keysAB ks es = true) : keysA ks es := by
  intro e he
  have := List.all_eq_true.1 hd e he
  split at this
  · rename_i ws hw
    simp only [Bool.and_eq_true, decide_eq_true_eq] at this
    exact ⟨ws, hw, this⟩
  · cases this
theorem litv_ok {sz : Nat} {els : List (List V)} {K : List (List V) → Prop} (hK : K els) : ∀ (ps : List (Nat × V)) (acc : List (List V)), litvD sz acc ps = some els → litvP sz acc ps K
  | [], acc, h => by simp only [litvD, Option.some.injEq] at h; subst h; exact hK
  | (i, x) :: r, acc, h => by
    simp only [litvD] at h
    simp only [litvP]
    split at h
    · rename_i cs hc
      split at h
      · rename_i hq; rw [hc]; exact ⟨hq, litv_ok hK r _ h⟩
      · cases h
    · cases h
theorem viewV_ok {x : V} {p : Nat × List (List V)} {K : Nat → List (List V) → Prop} (hd : viewVD h x = some p) (hK : K p.1 p.2) : viewVK h x K := by
  unfold viewVD at hd
  unfold viewVK
  split at hd
  · split at hd
    · rename_i hb
      split at hd
      · rename_i hc; simp only [Option.some.injEq] at hd; subst hd; simp only [hb, viewVB]; exact ⟨hc, hK⟩
      · cases hd
    · cases hd
  · cases hd
theorem effD_ok (he : ∀ i, get e i = E.get i) {p : Eff} {j : Nat} {xs : List V} (hd : effD E fx bn p j xs h = some rs) (hK : KOk b rs K) : effP fx bn p j xs ⟨e, h, b⟩ K := by
  unfold effD at hd
  unfold effP
  split at hd
  · split at hd
    · rename_i hlen
      split at hd
      · rename_i els hl
        split at hd
        · rename_i hf
          exact ⟨hlen, litv_ok ⟨fresh_ok hf, one_ok he hd hK⟩ _ _ hl⟩
        · cases hd
      · cases hd
    · cases hd
  · split at hd
    · rename_i sz' new hv
      split at hd
      · rename_i hc
        refine viewV_ok hv ⟨⟨hc.1, by simpa using hc.2.1, hc.2.2⟩, ?_⟩
        unfold appVD at hd
        unfold appVP
        split at hd
        · split at hd
          · rename_i sz0 els hb
            split at hd
            · rename_i hq
              simp only [Option.some.injEq] at hd
              subst hd
              show appVB _ _ _ _ _ _ _ _ _ (blk h _) _
              rw [hb]
              exact ⟨hq.1, ⟨hasN_not hq.2.1, hasN_not hq.2.2⟩, kok1 hK (fun i => by rw [get_killE, he, Tr.get_kill])⟩
            · cases hd
          · cases hd
        · split at hd
          · rename_i hq
            exact ⟨hq.1, fresh_ok hq.2, one_ok he hd hK⟩
          · cases hd
        · cases hd
      · cases hd
    · cases hd
  · unfold clrD at hd
    unfold clrP
    split at hd
    · split at hd
      · rename_i sz' els hb
        split at hd
        · rename_i hq
          show clrB _ _ _ _ _ _ _ (blk h _) K
          rw [hb]
          exact ⟨⟨hq.1, hq.2.1, hasN_not hq.2.2⟩, one_ok he hd hK⟩
        · cases hd
      · cases hd
    · exact one_ok he hd hK
    · cases hd
  · rename_i ks z ok m k
    split at hd
    · rename_i us hu
      obtain ⟨y, h1, h2⟩ := oneO_ok he hd hK
      refine keyA_ok hu ?_
      show lookMA h ks us z ok m fun x => K x ⟨e, h, b⟩
      unfold lookAD at h1
      unfold lookMA
      split at h1
      · exact look_ok h1 h2
      · rename_i hne
        split at h1
        · rename_i kb es c hm
          split at h1
          · rename_i hks
            split
            · rename_i hm'; exact (hne rfl).elim
            · exact map_ok hm ⟨keysA_ok hks, look_ok h1 h2⟩
          · cases h1
        · cases h1
    · cases hd
  · split at hd
    · rename_i us hu
      split at hd
      · rename_i kb es c hm
        split at hd
        · rename_i hc
          split at hd
          · rename_i B hB
            exact keyA_ok hu (map_ok hm ⟨⟨hasN_not hc.1, keysA_ok hc.2⟩, mset_ok hB (one_ok he hd hK)⟩)
          · cases hd
        · cases hd
      · cases hd
    · cases hd
  · split at hd
    · rename_i sz els hv
      split at hd
      · rename_i hc
        split at hd
        · rename_i l hl
          refine view_ok hv ⟨by simpa using hc, ?_⟩
          show optK (bytesOf els) _
          rw [hl]
          exact one_ok he hd hK
        · cases hd
      · cases hd
    · cases hd
  · cases hd
theorem opD_ok (hcall : ∀ f zas h0 mv r h', call f zas h0 mv = some (r, h') → C f zas h0 mv (fun r1 h1 => r1 = r ∧ h1 = h')) (he : ∀ i, get e i = E.get i) {o : LOp} (hd : opD call mvf fx bn o E h b = some rs) (hK : KOk b rs K) :
    aOp { C := C, fx := fx, bn := bn, it := it, y := yy, rk := rk } o ⟨e, h, b⟩ K := by
  have hv := ev_ok he
  cases o with
  | mov x => simp only [opD] at hd; simp only [aOp, hv]; exact one_ok he hd hK
  | pick c a d =>
    simp only [opD, o_pick] at hd
    simp only [aOp, hv]
    split at hd
    · rename_i t hc
      rw [hc]
      have := one_ok he hd hK
      cases t with
      | true => exact ⟨fun _ => this, fun h => by cases h⟩
      | false => exact ⟨fun h => (by cases h), fun _ => this⟩
    · cases hd
  | box j x =>
    simp only [opD, o_box] at hd
    simp only [aOp, hv]
    split at hd
    · rename_i cs hc
      split at hd
      · rename_i hf; rw [hc]; exact ⟨fresh_ok hf, one_ok he hd hK⟩
      · cases hd
    · cases hd
  | alloc j z =>
    simp only [opD, o_alloc] at hd
    simp only [aOp]
    split at hd
    · rename_i cs hc
      split at hd
      · rename_i hf; rw [hc]; exact ⟨fresh_ok hf, one_ok he hd hK⟩
      · cases hd
    · cases hd
  | load n a =>
    simp only [opD] at hd
    simp only [aOp, hv]
    obtain ⟨x, hx, hk⟩ := oneO_ok he hd hK
    exact load_ok hx hk
  | store n a x =>
    simp only [opD, o_store] at hd
    simp only [aOp, hv]
    split at hd
    · rename_i cs hc
      split at hd
      · rename_i h' hs; rw [hc]; exact store_ok (K := fun h => K (.v (.tuple #[])) ⟨e, h, b⟩) hs (one_ok he hd hK)
      · cases hd
    · cases hd
  | fld off x =>
    simp only [opD, o_fld] at hd
    simp only [aOp, hv]
    split at hd
    · rename_i hx; rw [hx]; exact one_ok he hd hK
    · rename_i hx; rw [hx]; exact one_ok he hd hK
    · cases hd
  | idx z x i =>
    simp only [opD, o_idx] at hd
    simp only [aOp, hv]
    split at hd
    · rename_i hx
      rw [hx]
      obtain ⟨y, hy, hk⟩ := oneO_ok he hd hK
      exact idx_ok (K := fun y => K y ⟨e, h, b⟩) hy hk
    · cases hd
  | bin op ex x y =>
    simp only [opD, o_bin] at hd
    simp only [aOp, hv]
    split at hd
    · rename_i hx hy
      split at hd
      · rename_i hk
        rw [hx, hy]
        obtain ⟨z, hz, hk'⟩ := oneO_ok he hd hK
        exact ⟨hk, bin_ok hz hk'⟩
      · cases hd
    · cases hd
  | shift op x y =>
    simp only [opD, o_shift] at hd
    simp only [aOp, hv]
    split at hd
    · rename_i hx hy
      rw [hx, hy]
      obtain ⟨z, hz, hk'⟩ := oneO_ok he hd hK
      exact shift_ok (K := fun y => K y ⟨e, h, b⟩) hz hk'
    · cases hd
  | len x =>
    simp only [opD] at hd
    simp only [aOp, hv]
    obtain ⟨y, hy, hk⟩ := oneO_ok he hd hK
    exact len_ok hy hk
  | lens x =>
    simp only [opD, o_lens] at hd
    simp only [aOp, hv]
    split at hd
    · rename_i hx; rw [hx]; exact one_ok he hd hK
    · cases hd
  | nilc x =>
    simp only [opD, o_nilc] at hd
    simp only [aOp, hv]
    split at hd
    · rename_i hx; rw [hx]; exact one_ok he hd hK
    · rename_i hx; rw [hx]; exact one_ok he hd hK
    · cases hd
  | not x =>
    simp only [opD, o_not] at hd
    simp only [aOp, hv]
    split at hd
    · rename_i hx; rw [hx]; exact one_ok he hd hK
    · cases hd
  | neg x =>
    simp only [opD, o_neg] at hd
    simp only [aOp, hv]
    split at hd
    · rename_i hx
      split at hd
      · rename_i hc; rw [hx]; simp only [intK, wrap_in _ _ hc]; exact one_ok he hd hK
      · cases hd
    · cases hd
  | conv ex k x =>
    simp only [opD, o_conv] at hd
    simp only [aOp, hv]
    split at hd
    · rename_i hx
      rw [hx]
      show (if _ then _ else _)
      split at hd
      · rename_i hex
        split at hd
        · rename_i hc; rw [if_pos hex]; exact ⟨hc, one_ok he hd hK⟩
        · cases hd
      · rename_i hex; rw [if_neg hex]; exact one_ok he hd hK
    · cases hd
  | minmax mx x y =>
    simp only [opD, o_minmax] at hd
    simp only [aOp, hv]
    split at hd
    · rename_i hx hy
      split at hd
      · rename_i hk; rw [hx, hy]; exact ⟨hk, one_ok he hd hK⟩
      · cases hd
    · cases hd
  | ext x i =>
    simp only [opD, o_ext] at hd
    simp only [aOp, hv]
    split at hd
    · rename_i vs hx
      rw [hx]
      obtain ⟨y, hy, hk⟩ := oneO_ok he hd hK
      show optK vs[i]? _
      rw [hy]; exact hk
    · cases hd
  | fn f caps =>
    simp only [opD] at hd
    simp only [aOp, evs_ok he]
    exact one_ok he hd hK
  | field off n x =>
    simp only [opD, o_field] at hd
    simp only [aOp, hv]
    split at hd
    · rename_i cs hx
      rw [hx]
      obtain ⟨y, hy, hk⟩ := oneO_ok he hd hK
      exact loadCs_ok hy hk
    · cases hd
  | slice z x l u m =>
    simp only [opD, o_slice] at hd
    simp only [aOp, hv, evo_ok he]
    split at hd
    · rename_i l' u' m' h1 h2 h3
      obtain ⟨y, hy, hk⟩ := oneO_ok he hd hK
      exact opt_ok h1 (opt_ok h2 (opt_ok h3 (slc_ok hy hk)))
    · cases hd
  | build z ps =>
    simp only [opD] at hd
    simp only [aOp]
    obtain ⟨y, hy, hk⟩ := oneO_ok he hd hK
    exact build_ok (K := fun y => K y ⟨e, h, b⟩) he hk ps _ hy
  | eqb neg x y =>
    simp only [opD, o_eqb] at hd
    simp only [aOp, hv]
    split at hd
    · rename_i hx hy; rw [hx, hy]; exact one_ok he hd hK
    · cases hd
  | eqn neg x y =>
    simp only [opD, o_eqn] at hd
    simp only [aOp, hv]
    split at hd
    · rename_i hy
      rw [hy]
      split at hd
      · rename_i ts ht
        simp only [Option.some.injEq] at hd
        subst hd
        have hk : ∀ t ∈ ts, K (.b (if neg then !t else t)) ⟨e, h, b⟩ := fun t ht => hK ⟨.b (if neg then !t else t), E, h⟩ (by simp only [List.mem_map]; exact ⟨t, ht, rfl⟩) e he
        show eqnP (evT E x) _
        generalize evT E x = v at ht ⊢
        unfold eqnD at ht
        unfold eqnP
        split at ht
        · split at ht
          · rename_i hn
            simp only [Option.some.injEq] at ht
            subst ht
            exact ⟨fun h => by omega, fun _ => ⟨hk true (by simp), hk false (by simp)⟩⟩
          · rename_i hn
            simp only [Option.some.injEq] at ht
            subst ht
            exact ⟨fun _ => hk false (by simp), fun h => absurd h hn⟩
        · split at ht
          · simp only [Option.some.injEq] at ht
            subst ht
            exact ⟨fun h => absurd rfl h, fun _ => ⟨hk true (by simp), hk false (by simp)⟩⟩
          · rename_i hn
            simp only [Option.some.injEq] at ht
            subst ht
            exact ⟨fun _ => hk false (by simp), fun h => (hn h).elim⟩
        · split at ht
          · simp only [Option.some.injEq] at ht
            subst ht
            exact ⟨fun h => absurd rfl h, fun _ => ⟨hk true (by simp), hk false (by simp)⟩⟩
          · rename_i hn
            simp only [Option.some.injEq] at ht
            subst ht
            exact ⟨fun _ => hk false (by simp), fun h => (hn h).elim⟩
        · simp only [Option.some.injEq] at ht
          subst ht
          exact hk true (by simp)
        · cases ht
      · cases hd
    · cases hd
  | lits j sz n z ps =>
    simp only [opD, o_lits] at hd
    simp only [aOp]
    split at hd
    · rename_i els hl
      split at hd
      · rename_i hf
        exact lits_ok (K := fun els => freshP h (b + j) ∧ K (.sl (b + j) 0 n) { e := e, h := h.set (b + j) (.arr sz els), b := b }) he ⟨fresh_ok hf, one_ok he hd hK⟩ ps _ hl
      · cases hd
    · cases hd
  | litsf xs j sz n z ps =>
    simp only [opD, o_litsf] at hd
    simp only [aOp]
    split at hd
    · rename_i E' h' hf
      obtain hfz := frzD_ok (b := b) (K := fun s => litsP s.e sz (List.replicate n (z.map .v)) ps fun els => freshP s.h (s.b + j) ∧ K (.sl (s.b + j) 0 n) { s with h := s.h.set (s.b + j) (.arr sz els) }) xs E h e he hf
      refine hfz fun e' he' => ?_
      split at hd
      · rename_i els hl
        split at hd
        · rename_i hf
          exact lits_ok (K := fun els => freshP h' (b + j) ∧ K (.sl (b + j) 0 n) { e := e', h := h'.set (b + j) (.arr sz els), b := b }) he' ⟨fresh_ok hf, one_ok he' hd hK⟩ ps _ hl
        · cases hd
      · cases hd
    · cases hd
  | mk j sz bytes z l c =>
    simp only [opD, o_mk] at hd
    simp only [aOp, hv]
    split at hd
    · rename_i hx hy
      split at hd
      · rename_i hc; rw [hx, hy]; exact ⟨hc.1, fresh_ok hc.2, one_ok he hd hK⟩
      · cases hd
    · cases hd
  | mkv j sz bytes z l c =>
    simp only [opD, o_mkv] at hd
    simp only [aOp, hv]
    split at hd
    · rename_i hx hy
      split at hd
      · rename_i hc; rw [hx, hy]; exact ⟨hc.1, fresh_ok hc.2, one_ok he hd hK⟩
      · cases hd
    · cases hd
  | mkmap j r =>
    simp only [opD, o_mkmap] at hd
    simp only [aOp]
    split at hd
    · rename_i hf
      split at hd
      · exact ⟨trivial, fresh_ok hf, one_ok he hd hK⟩
      · rename_i x
        split at hd
        · rename_i hx
          refine ⟨?_, fresh_ok hf, one_ok he hd hK⟩
          show intK (ev e x) _
          rw [hv, hx]; trivial
        · cases hd
    · cases hd
  | lookup kd z ok m k =>
    simp only [opD, o_lookup] at hd
    simp only [aOp, hv]
    split at hd
    · rename_i key hk
      split at hd
      · rename_i hkey
        rw [hk]
        refine ⟨hkey, ?_⟩
        split at hd
        · rename_i hm
          obtain ⟨y, hy, hk⟩ := oneO_ok he hd hK
          rw [hm]
          exact look_ok hy hk
        · rename_i hne
          split at hd
          · rename_i kb es c hmp
            obtain ⟨y, hy, hk⟩ := oneO_ok he hd hK
            split
            · rename_i hm; rw [hm] at hmp; simp [mapD] at hmp
            · exact map_ok hmp (look_ok hy hk)
          · cases hd
      · cases hd
    · cases hd
  | mset kd m k x =>
    simp only [opD, o_mset] at hd
    simp only [aOp, hv]
    split at hd
    · rename_i key hk
      split at hd
      · rename_i hkey
        rw [hk]
        refine ⟨hkey, ?_⟩
        split at hd
        · rename_i kb es c hmp
          split at hd
          · cases hd
          · rename_i hbn
            split at hd
            · rename_i B hB
              exact map_ok hmp ⟨hasN_not (by simpa using hbn), mset_ok hB (one_ok he hd hK)⟩
            · cases hd
        · cases hd
      · cases hd
    · cases hd
  | mdel kd m k =>
    simp only [opD, o_mdel] at hd
    simp only [aOp, hv]
    split at hd
    · rename_i key hk
      split at hd
      · rename_i hkey
        rw [hk]
        refine ⟨hkey, ?_⟩
        split at hd
        · rename_i kb es c hmp
          split at hd
          · cases hd
          · rename_i hbn
            split at hd
            · rename_i B hB
              exact map_ok hmp ⟨hasN_not (by simpa using hbn), mdel_ok hB (one_ok he hd hK)⟩
            · cases hd
        · cases hd
      · cases hd
    · cases hd
  | mlen m =>
    simp only [opD, o_mlen] at hd
    simp only [aOp, hv]
    split at hd
    · rename_i hmp; exact map_ok hmp (one_ok he hd hK)
    · cases hd
  | range j m =>
    simp only [opD, o_range] at hd
    simp only [aOp, hv]
    split at hd
    · rename_i hmp
      split at hd
      · rename_i hf; exact map_ok hmp ⟨fresh_ok hf, one_ok he hd hK⟩
      · cases hd
    · cases hd
  | next i =>
    simp only [opD, o_next] at hd
    simp only [aOp, hv]
    split at hd
    · rename_i k m since seen last hit
      split at hd
      · rename_i kb es c hmp
        split at hd
        · cases hd
        · rename_i hbn
          refine it_ok hit (map_ok hmp ⟨hasN_not (by simpa using hbn), ?_⟩)
          unfold nextD at hd
          simp only at hd
          split at hd
          · rename_i hc
            refine ⟨hc, ?_, ?_⟩
            · intro hall
              split at hd
              · simp only [Option.some.injEq] at hd
                subst hd
                exact kok1 hK he
              · rename_i hne
                exfalso
                apply hne
                rw [List.filter_eq_nil_iff]
                intro a ha
                have := List.all_eq_true.1 hall a ha
                rw [this]; simp
            · intro a ha hs
              have hmem : a ∈ es.filter fun e => !(seen.contains e.2.2) := by
                rw [List.mem_filter]; exact ⟨ha, by rw [hs]; rfl⟩
              split at hd
              · rename_i hnil; rw [hnil] at hmem; simp at hmem
              · simp only [Option.some.injEq] at hd
                subst hd
                exact hK ⟨.tup [.b true, .v a.1, a.2.1], E, h.set k (.it m since (seen ++ [a.2.2]) c)⟩ (by rw [List.mem_map]; exact ⟨a, hmem, rfl⟩) e he
          · cases hd
      · cases hd
    · cases hd
  | entry i =>
    simp only [opD, o_entry] at hd
    simp only [aOp, hv]
    split at hd
    · rename_i k m since seen last hit
      split at hd
      · rename_i kb es c hmp
        split at hd
        · rename_i hl
          split at hd
          · rename_i st hst
            split at hd
            · rename_i a ha
              refine it_ok hit (map_ok hmp ⟨hl, ?_⟩)
              show optK seen.getLast? _
              rw [hst]
              simp only [optK, ha, entK]
              exact one_ok he hd hK
            · cases hd
          · cases hd
        · cases hd
      · cases hd
    · cases hd
  | append j sz bytes x y =>
    simp only [opD, o_append] at hd
    simp only [aOp, hv]
    split at hd
    · rename_i sz' new hvw
      split at hd
      · rename_i hc
        refine view_ok hvw ⟨by simpa using hc, ?_⟩
        have hnew : ∀ {id : Nat} {old : List (List V)}, appNewD E id sz bytes h old new = some rs → appNew id sz bytes ⟨e, h, b⟩ old new K := by
          intro id old hn
          unfold appNewD at hn
          split at hn
          · rename_i hq
            simp only [Option.some.injEq] at hn
            subst hn
            exact ⟨hq.1, fresh_ok hq.2, kok1 hK he⟩
          · cases hn
        unfold appD at hd
        show appP fx bn (b + j) sz bytes ⟨e, h, b⟩ (evT E x) new K
        generalize evT E x = v at hd ⊢
        unfold appP
        split at hd
        · rename_i k i n
          unfold appBD at hd
          show appB fx bn k i n sz bytes ⟨e, h, b⟩ new (blk h k) K
          unfold appB
          split at hd
          · rename_i sz0 els hb
            split at hd
            · rename_i hq
              simp only [Option.some.injEq] at hd
              subst hd
              simp only [hb]
              exact ⟨hq.1, ⟨hasN_not hq.2.1, hasN_not hq.2.2⟩, kok1 hK (e' := killE [k] e) (fun i => by rw [get_killE, he, Tr.get_kill])⟩
            · cases hd
          · cases hd
        · exact hnew hd
        · split at hd
          · rename_i hq
            exact ⟨⟨hq.1, by simpa using hq.2⟩, hnew hd⟩
          · cases hd
        · cases hd
      · cases hd
    · cases hd
  | copy sz x y =>
    simp only [opD, o_copy] at hd
    simp only [aOp, hv]
    split at hd
    · rename_i sz' new hvw
      split at hd
      · rename_i hc
        refine view_ok hvw ⟨by simpa using hc, ?_⟩
        unfold copyD at hd
        show copyP bn sz ⟨e, h, b⟩ (evT E x) new K
        generalize evT E x = v at hd ⊢
        unfold copyP
        split at hd
        · rename_i k i n
          split at hd
          · rename_i sz0 els hb
            split at hd
            · rename_i hq
              simp only [Option.some.injEq] at hd
              subst hd
              show copyB bn k i n sz ⟨e, h, b⟩ new (blk h k) K
              rw [hb]
              exact ⟨⟨hq.1, hq.2.1, hasN_not hq.2.2⟩, kok1 hK he⟩
            · cases hd
          · rename_i cs hb
            split at hd
            · rename_i hq
              simp only [Option.some.injEq] at hd
              subst hd
              show copyB bn k i n sz ⟨e, h, b⟩ new (blk h k) K
              rw [hb]
              exact ⟨⟨hq.1, hq.2.1, hasN_not hq.2.2⟩, kok1 hK he⟩
            · cases hd
          · cases hd
        · cases hd
      · cases hd
    · cases hd
  | call f xs =>
    simp only [opD, o_call] at hd
    simp only [aOp, evs_ok he]
    exact callD_ok hcall he hd hK
  | callv f xs =>
    simp only [opD, o_callv] at hd
    simp only [aOp, hv, evs_ok he]
    split at hd
    · rename_i g cs hf
      rw [hf]
      exact callD_ok hcall he hd hK
    · cases hd
  | eqf neg ks x y =>
    simp only [opD, o_eqf] at hd
    simp only [aOp, hv]
    split at hd
    · rename_i xs ys hx hy
      split at hd
      · rename_i t ht
        rw [hx, hy]
        exact eqFsD_ok (K := fun t => K (.b (if neg then !t else t)) ⟨e, h, b⟩) _ t ht (one_ok he hd hK)
      · cases hd
    · cases hd
  | iface _ _ => simp [opD] at hd
  | panic => simp [opD] at hd
  | yld _ _ => simp [opD] at hd
  | prim p xs =>
    simp only [opD] at hd
    simp only [aOp, evs_ok he]
    obtain ⟨y, h1, h2⟩ := oneO_ok he hd hK
    exact prim_ok h1 h2
  | eff p j xs =>
    simp only [opD] at hd
    simp only [aOp, evs_ok he]
    exact effD_ok he hd hK
  | bad => simp [opD] at hd
end
end Go.Fx
namespace Go.Fx
open Go.RowKit
mutual
def eqVal : Value → Value → Bool
  | .int k a, .int j b => decide (k = j) && decide (a = b)
  | .bool a, .bool b => decide (a = b)
  | .string a, .string b => a == b
  | .slice none 0 0, .slice none 0 0 => true
  | .pointer none, .pointer none => true
  | .map none, .map none => true
  | .tuple a, .tuple b => a.isEmpty && b.isEmpty
  | _, _ => false
end
theorem eqVal_ok {a b : Value} (h : eqVal a b = true) : a = b := by
  unfold eqVal at h
  split at h <;> first
    | (simp only [Bool.and_eq_true, decide_eq_true_eq] at h; obtain ⟨rfl, rfl⟩ := h; rfl)
    | (simp only [decide_eq_true_eq] at h; subst h; rfl)
    | (rw [MapKept.bytes_beq] at h; subst h; rfl)
    | rfl
    | (simp only [Bool.and_eq_true, Array.isEmpty_iff] at h; obtain ⟨rfl, rfl⟩ := h; rfl)
    | cases h
mutual
def eqV : V → V → Bool
  | .any, .any => true
  | .v a, .v b => eqVal a b
  | .ro s e, .ro t f => Nat.beq s t && eqLL e f
  | .bro s e, .bro t f => Nat.beq s t && eqLL e f
  | .full s e, .full t f => Nat.beq s t && eqLL e f
  | .rp s e i j, .rp t f i' j' => (Nat.beq s t && eqLL e f) && (Nat.beq i i' && Nat.beq j j')
  | .sl a b c, .sl a' b' c' => Nat.beq a a' && Nat.beq b b' && Nat.beq c c'
  | .ptr a b c, .ptr a' b' c' => Nat.beq a a' && Nat.beq b b' && Nat.beq c c'
  | .mp a, .mp b => Nat.beq a b
  | .itr a, .itr b => Nat.beq a b
  | .agg a, .agg b => eqL a b
  | .tup a, .tup b => eqL a b
  | .clo f a, .clo g b => decide (f = g) && eqL a b
  | _, _ => false
def eqL : List V → List V → Bool
  | [], [] => true
  | a :: r, b :: s => eqV a b && eqL r s
  | _, _ => false
def eqLL : List (List V) → List (List V) → Bool
  | [], [] => true
  | a :: r, b :: s => eqL a b && eqLL r s
  | _, _ => false
end
mutual
theorem eqV_ok : ∀ {a b : V}, eqV a b = true → a = b
  | .any, b, h => by cases b <;> simp_all [eqV]
  | .v a, b, h => by cases b <;> simp_all [eqV]; exact eqVal_ok h
  | .ro s e, b, h => by cases b <;> simp_all [eqV]; exact eqLL_ok h.2
  | .bro s e, b, h => by cases b <;> simp_all [eqV]; exact eqLL_ok h.2
  | .full s e, b, h => by cases b <;> simp_all [eqV]; exact eqLL_ok h.2
  | .rp s e i j, b, h => by cases b <;> simp_all [eqV]; exact eqLL_ok h.1.2
  | .sl _ _ _, b, h => by cases b <;> simp_all [eqV]
  | .ptr _ _ _, b, h => by cases b <;> simp_all [eqV]
  | .mp _, b, h => by cases b <;> simp_all [eqV]
  | .itr _, b, h => by cases b <;> simp_all [eqV]
  | .agg a, b, h => by cases b <;> simp_all [eqV]; exact eqL_ok h
  | .tup a, b, h => by cases b <;> simp_all [eqV]; exact eqL_ok h
  | .clo f a, b, h => by cases b <;> simp_all [eqV]; exact eqL_ok h.2
theorem eqL_ok : ∀ {a b : List V}, eqL a b = true → a = b
  | [], b, h => by cases b <;> simp_all [eqL]
  | a :: r, b, h => by
    cases b with
    | nil => simp [eqL] at h
    | cons c s => simp only [eqL, Bool.and_eq_true] at h; rw [eqV_ok h.1, eqL_ok h.2]
theorem eqLL_ok : ∀ {a b : List (List V)}, eqLL a b = true → a = b
  | [], b, h => by cases b <;> simp_all [eqLL]
  | a :: r, b, h => by
    cases b with
    | nil => simp [eqLL] at h
    | cons c s => simp only [eqLL, Bool.and_eq_true] at h; rw [eqL_ok h.1, eqLL_ok h.2]
end
def eqMs : List (Value × V × Nat) → List (Value × V × Nat) → Bool
  | [], [] => true
  | a :: r, b :: s => (eqVal a.1 b.1 && eqV a.2.1 b.2.1 && Nat.beq a.2.2 b.2.2) && eqMs r s
  | _, _ => false
theorem eqMs_ok : ∀ {a b : List (Value × V × Nat)}, eqMs a b = true → a = b
  | [], b, h => by cases b <;> simp_all [eqMs]
  | (k, v, n) :: r, b, h => by
    cases b with
    | nil => simp [eqMs] at h
    | cons c s =>
      obtain ⟨k', v', n'⟩ := c
      simp only [eqMs, Bool.and_eq_true, Nat.beq_eq] at h
      obtain ⟨⟨⟨h1, h2⟩, h3⟩, h4⟩ := h
      rw [eqVal_ok h1, eqV_ok h2, h3, eqMs_ok h4]
def eqNs : List Nat → List Nat → Bool
  | [], [] => true
  | a :: r, b :: s => Nat.beq a b && eqNs r s
  | _, _ => false
theorem eqNs_ok : ∀ {a b : List Nat}, eqNs a b = true → a = b
  | [], b, h => by cases b <;> simp_all [eqNs]
  | a :: r, b, h => by
    cases b with
    | nil => simp [eqNs] at h
    | cons c s => simp only [eqNs, Bool.and_eq_true, Nat.beq_eq] at h; rw [h.1, eqNs_ok h.2]
def eqE : Env → Env → Bool
  | [], [] => true
  | a :: r, b :: s => (Nat.beq a.1 b.1 && eqV a.2 b.2) && eqE r s
  | _, _ => false
theorem eqE_ok : ∀ {a b : Env}, eqE a b = true → a = b
  | [], b, h => by cases b <;> simp_all [eqE]
  | (i, x) :: r, b, h => by
    cases b with
    | nil => simp [eqE] at h
    | cons c s =>
      obtain ⟨j, y⟩ := c
      simp only [eqE, Bool.and_eq_true, Nat.beq_eq] at h
      rw [h.1.1, eqV_ok h.1.2, eqE_ok h.2]
def eqB : Blk → Blk → Bool
  | .rcd t e, .rcd t' e' => decide (t = t') && eqE e e'
  | .dead, .dead => true
  | .arr s e, .arr t f => Nat.beq s t && eqLL e f
  | .arv s e, .arv t f => Nat.beq s t && eqLL e f
  | .var a, .var b => eqL a b
  | .map a c, .map b d => eqMs a b && Nat.beq c d
  | .it m a b c, .it m' a' b' c' => (eqV m m' && Nat.beq a a') && (eqNs b b' && Nat.beq c c')
  | _, _ => false
theorem eqB_ok {a b : Blk} (h : eqB a b = true) : a = b := by
  cases a <;> cases b <;> simp_all [eqB]
  · exact eqLL_ok h.2
  · exact eqL_ok h
  · exact eqLL_ok h.2
  · exact eqMs_ok h.1
  · exact ⟨eqV_ok h.1.1, eqNs_ok h.2.1⟩
  · exact eqE_ok h.2
def Tr.join : Tr → Tr → Tr
  | .lf, _ => .lf
  | _, .lf => .lf
  | .nd v l r, .nd v' l' r' => .nd (if eqV v v' then v else .any) (l.join l') (r.join r')
def joinH : List Blk → List Blk → List Blk
  | b :: r, c :: s => (if eqB b c then b else .dead) :: joinH r s
  | _, _ => []
def Tr.namesT : Tr → List Nat
  | .lf => []
  | .nd v l r => namesV v ++ (l.namesT ++ r.namesT)
def gone (h : List Blk) : List Nat → List Nat
  | [] => []
  | k :: r => if liveB h k then gone h r else k :: gone h r
def Tr.wf (h : List Blk) : Tr → Bool
  | .lf => true
  | .nd v l r => wfVB h v && (l.wf h && r.wf h)
def leTB : Tr → Tr → Bool
  | _, .lf => true
  | .nd v l r, .nd v' l' r' => ((match v' with | .any => true | _ => eqV v v') && leTB l l') && leTB r r'
  | .lf, .nd v' l' r' => ((match v' with | .any => true | _ => false) && leTB .lf l') && leTB .lf r'
def leVsB : List V → List V → Bool
  | [], [] => true
  | x :: xs, y :: ys => (match y with | .any => true | _ => eqV x y) && leVsB xs ys
  | _, _ => false
def leBB (b c : Blk) : Bool :=
  match c with
  | .dead => true
  | .var ys => match b with
    | .var xs => leVsB xs ys
    | _ => false
  | c => eqB b c
def leHB : List Blk → List Blk → Bool
  | _, [] => true
  | b :: h, c :: p => leBB b c && leHB h p
  | [], _ :: _ => false
abbrev Pt := Tr × List Blk
def Tr.toEnv : Tr → Env
  | .lf => []
  | .nd v l r => (0, v) :: (l.toEnv.map (fun p => (2 * p.1 + 1, p.2)) ++ r.toEnv.map (fun p => (2 * p.1 + 2, p.2)))
def joinD (fx : List Nat) (outs : List Pt) : Option (List Pt) :=
  match outs with
  | [] => some []
  | [p] => some [p]
  | p :: r =>
    let E := r.foldl (fun E q => E.join q.1) p.1
    let h := r.foldl (fun h q => joinH h q.2) p.2
    let M := gone h (E.namesT ++ (h.map namesB).flatten)
    let E' := E.kill M
    let h' := h.map (killB M)
    if (outs.all fun q => leTB q.1 E' && leHB q.2 h') && (keepB h' fx && (E'.wf h' && wfBB h' h')) then some [(E', h')] else none
inductive Out where
  | normal (p : Pt)
  | exit (j : Nat) (p : Pt)
  | ret (p : Pt)
def goL {α β : Type} (f : α → Option (List β)) : List α → Option (List β)
  | [] => some []
  | [x] => f x
  | x :: r => match f x, goL f r with
    | some a, some b => some (a ++ b)
    | _, _ => none
def bindL {α β : Type} (l : Option (List α)) (f : α → Option (List β)) : Option (List β) :=
  match l with
  | none => none
  | some xs => goL f xs
def putT (E : Tr) (d : Option Nat) (x : V) : Tr :=
  match d with
  | none => E
  | some d => forceV x fun x => Tr.put (d + 1) E d x
mutual
def renK (g : Nat → Option Nat) : V → V
  | .sl k i n => match g k with
    | some j => .sl j i n
    | none => .any
  | .ptr k i f => match g k with
    | some j => .ptr j i f
    | none => .any
  | .mp k => match g k with
    | some j => .mp j
    | none => .any
  | .itr k => match g k with
    | some j => .itr j
    | none => .any
  | .agg cs => .agg (rensK g cs)
  | .tup cs => .tup (rensK g cs)
  | .clo f cs => .clo f (rensK g cs)
  | x => x
def rensK (g : Nat → Option Nat) : List V → List V
  | [] => []
  | x :: r => renK g x :: rensK g r
end
def renEK (g : Nat → Option Nat) : Env → Env
  | [] => []
  | (j, x) :: r => (j, renK g x) :: renEK g r
def renBK (g : Nat → Option Nat) : Blk → Blk
  | .rcd t e => .rcd t (renEK g e)
  | .var cs => .var (rensK g cs)
  | .arv sz els => .arv sz (els.map (rensK g))
  | .map es c => .map (es.map fun e => (e.1, renK g e.2.1, e.2.2)) c
  | .it m s sn l => .it (renK g m) s sn l
  | b => b
def Tr.ren (g : Nat → Option Nat) : Tr → Tr
  | .lf => .lf
  | .nd v l r => .nd (renK g v) (l.ren g) (r.ren g)
def keepN (n : Nat) (h : List Blk) (names : List Nat) : List Nat :=
  List.range n ++ (reach h 5000 (names ++ List.range n) []).filter fun k => !(Nat.blt k n)
def numB (L : List Nat) (h : List Blk) (n : Nat) : Bool :=
  nodupB L && (L.all fun k => Nat.blt k h.length) && Nat.ble n h.length
def gcK (fx : List Nat) (n : Nat) (p : Pt) (L : List Nat) : Option Pt :=
  let h := L.map fun k => renBK (pos L) (blk p.2 k)
  if numB L p.2 n && keepB h fx then some (p.1.ren (pos L), h) else none
def gcD (fx : List Nat) (n : Nat) (p : Pt) : Option Pt :=
  match Nat.blt p.2.length (n + 40) with
  | true => some p
  | false => gcK fx n p (keepN n p.2 p.1.namesT)
section
variable (call : CallD) (mvf : FuncId → Option Nat) (fx : List Nat)
def runD (bn : List Nat) (o : LOper) (b : Nat) (p : Pt) : Option (List Pt) :=
  match opD call mvf fx bn o.op p.1 p.2 b with
  | none => none
  | some rs => some (rs.map fun r => (putT r.E o.dst r.x, r.h))
def operD (bn : List Nat) (o : LOper) (b : Nat) (p : Pt) : Option (List Pt) :=
  match o.g with
  | none => runD call mvf fx bn o b p
  | some (g, want) => match p.1.get g with
    | .v (.bool t) => if t = want then runD call mvf fx bn o b p else some [(putT p.1 o.dst (.v (.tuple #[])), p.2)]
    | .v (.tuple _) => some [(putT p.1 o.dst (.v (.tuple #[])), p.2)]
    | _ => none
def opsD (b : Nat) : List LOper → Pt → Option (List Pt)
  | [], p => some [p]
  | o :: r, p => bindL (operD call mvf fx [] o b p) (opsD b r)
def rdT (o : LOp) (E : Tr) (bn : List Nat) : List Nat :=
  match o with
  | .load _ a => match evT E a with
    | .ptr k _ _ => k :: bn
    | _ => bn
  | _ => bn
def planD (b : Nat) : LPlan → List Nat → Pt → Option (List Pt)
  | .done, _, p => some [p]
  | .take _ _ o q, bn, p => bindL (operD call mvf fx [] o b p) (planD b q (rdT o.op p.1 bn))
  | .alt _ o r q q', bn, p => match bindL (operD call mvf fx (if r then bn else []) o b p) (planD b q (if r then bn else [])), planD b q' bn p with
    | some x, some y => some (x ++ y)
    | _, _ => none
  | .none, _, _ => some []
def yldD (y : Nat → YtD) (d : Option Nat) (f : Operand) (xs : List Operand) (p : Pt) : Option (List Pt) :=
  match evT p.1 f with
  | .itr k => match y k (xs.map (evT p.1)) p with
    | some rs => some (rs.map fun r => (putT r.2.1 d r.1, r.2.2))
    | none => none
  | _ => none
def operYD (y : Nat → YtD) (o : LOper) (b : Nat) (p : Pt) : Option (List Pt) :=
  match o.op with
  | .yld f xs => match o.g with
    | none => yldD y o.dst f xs p
    | some (g, want) => match p.1.get g with
      | .v (.bool t) => if t = want then yldD y o.dst f xs p else some [(putT p.1 o.dst (.v (.tuple #[])), p.2)]
      | .v (.tuple _) => some [(putT p.1 o.dst (.v (.tuple #[])), p.2)]
      | _ => none
  | _ => operD call mvf fx [] o b p
def opsYD (y : Nat → YtD) (b : Nat) : List LOper → Pt → Option (List Pt)
  | [], p => some [p]
  | o :: r, p => bindL (operYD call mvf fx y o b p) (opsYD y b r)
end
def norms : List Out → List Pt
  | [] => []
  | .normal p :: r => p :: norms r
  | _ :: r => norms r
def others : List Out → List Out
  | [] => []
  | .normal _ :: r => others r
  | o :: r => o :: others r
def andD (l : Option (List Out)) (f : Pt → Option (List Out)) : Option (List Out) :=
  bindL l fun o => match o with
    | .normal p => f p
    | o => some [o]
def leave (id : Nat) : Out → Out
  | .exit j p => if j = id then .normal p else .exit j p
  | o => o
def blockD (fx : List Nat) (id : Nat) (l : Option (List Out)) : Option (List Out) :=
  match l with
  | none => none
  | some outs => match joinD fx (norms (outs.map (leave id))) with
    | none => none
    | some ps => some (ps.map .normal ++ others (outs.map (leave id)))
def loopD (fx : List Nat) (n0 : Nat) (f : Pt → Option (List Out)) : Nat → Pt → Option (List Out)
  | 0, _ => none
  | n + 1, p => match gcD fx n0 p with
    | some p => andD (f p) (loopD fx n0 f n)
    | none => none
def roomD (n : Nat) (h : List Blk) : List Blk :=
  match n with
  | 0 => h
  | n + 1 => h ++ List.replicate (n + 1) .dead
def ofEnv : Env → Tr
  | [] => .lf
  | (i, x) :: r => forceNat i fun i => putT (ofEnv r) (some i) x
def setPsT : List Nat → List V → Tr → Tr
  | p :: ps, x :: xs, E => setPsT ps xs (putT E (some p) x)
  | _, _, E => E
def inRdB (rk : Option Nat) (h : List Blk) : Bool :=
  match rk with
  | none => true
  | some k => match h[k]? with
    | some (.rcd .busy _) => true
    | _ => false
def begRdD (k : Nat) (f : Pt → Option (List Out)) (o : Out) : Option (List Out) :=
  match o with
  | .normal q => match q.2[k]? with
    | some (.rcd .ready e) => f (q.1, q.2.set k (.rcd .busy e))
    | _ => none
  | _ => none
def endRdD (k kE : Nat) (b : Bool) (t : RS) (q : Pt) : Option (List (V × Pt)) :=
  match q.2[k]? with
  | some (.rcd .busy e2) => match q.2[kE]? with
    | some (.rcd .ghost eI) => some [(.b b, ofEnv eI, (q.2.set k (.rcd t e2)).set kE .dead)]
    | _ => none
  | _ => none
def outRdD (k kE : Nat) (o : Out) : Option (List (V × Pt)) :=
  match o with
  | .normal q => endRdD k kE true .ready q
  | .exit j q => endRdD k kE false (.out (some j)) q
  | .ret q => endRdD k kE false (.out none) q
def rndD (k : Nat) (ps : List Nat) (fa fb : Nat → Pt → Option (List Out)) (xs : List V) (p : Pt) : Option (List (V × Pt)) :=
  match p.2[k]? with
  | some (.rcd .ready e) => if xs.length = ps.length then
      bindL (bindL (fa p.2.length (setPsT ps xs (ofEnv e), p.2 ++ [.rcd .ghost p.1.toEnv])) (begRdD k (fb p.2.length))) (outRdD k p.2.length)
    else none
  | _ => none
def endLpD (k : Nat) (h : List Blk) : Option (List Out) :=
  match h[k]? with
  | some (.rcd t e) => if wfEB (h.set k .dead) e && wfBB (h.set k .dead) (h.set k .dead) then match t with
      | .ready => some [.normal (ofEnv e, h.set k .dead)]
      | .out none => some [.ret (ofEnv e, h.set k .dead)]
      | .out (some j) => some [.exit j (ofEnv e, h.set k .dead)]
      | _ => none
    else none
  | _ => none
section
variable (call : CallD) (mvf : FuncId → Option Nat) (iter : ItD)
def cw : LCode → List Nat → Nat → (Nat → YtD) → Option Nat → Pt → Option (List Out)
  | .skip, _, _, _, _, p => some [.normal p]
  | .reg n ops, fx, _, _, _, p => (opsD call mvf fx p.2.length ops (p.1, roomD n p.2)).map (·.map .normal)
  | .tail _ n ops, fx, _, _, _, p => (opsD call mvf fx p.2.length ops (p.1, roomD n p.2)).map (·.map .normal)
  | .qui n ops, fx, _, _, _, p => (opsD call mvf fx p.2.length ops (p.1, roomD n p.2)).map (·.map .normal)
  | .yreg _ n ops, fx, _, y, _, p => (opsYD call mvf fx y p.2.length ops (p.1, roomD n p.2)).map (·.map .normal)
  | .tree n q, fx, _, _, _, p => match planD call mvf fx p.2.length q [] (p.1, roomD n p.2) with
    | none => none
    | some ps => (joinD fx ps).map (·.map .normal)
  | .ytree n q _ ops, fx, _, y, _, p => match bindL (planD call mvf fx p.2.length q [] (p.1, roomD n p.2)) (opsYD call mvf fx y p.2.length ops) with
    | none => none
    | some ps => (joinD fx ps).map (·.map .normal)
  | .seq a b, fx, n0, y, rk, p => andD (cw a fx n0 y rk p) (cw b fx n0 y rk)
  | .cond c a b, fx, n0, y, rk, p => match evT p.1 c with
    | .v (.bool true) => cw a fx n0 y rk p
    | .v (.bool false) => cw b fx n0 y rk p
    | _ => none
  | .block id c, fx, n0, y, rk, p => blockD fx id (cw c fx n0 y rk p)
  | .loop c, fx, n0, y, rk, p => loopD fx n0 (cw c fx n0 y rk) 3000 p
  | .exit j, _, _, _, _, p => some [.exit j p]
  | .ret, _, _, _, _, p => some [.ret p]
  | .bad, _, _, _, _, _ => none
  | .frz xs c, fx, n0, y, rk, p => match frzD fx xs p with
    | some p => cw c fx n0 y rk p
    | none => none
  | .rfn g ps asg body, fx, _, _, rk, p => match evT p.1 g with
    | .clo gf caps => if inRdB rk p.2 then
        forceNat p.2.length fun k => bindL (iter gf (.itr k :: caps) (k :: fx) k
          (rndD k ps (fun kE => cw asg (kE :: k :: fx) (kE + 1) (fun _ _ _ => none) (some k)) (fun kE => cw body (kE :: k :: fx) (kE + 1) (fun _ _ _ => none) (some k)))
          (p.2 ++ [.rcd .ready p.1.toEnv])) (endLpD k)
      else none
    | _ => none
end
def resD (p : Pt) : List LRes → Option (List V)
  | [] => some []
  | .tmp t :: r => match resD p r with
    | some xs => some (p.1.get t :: xs)
    | none => none
  | .cell a n :: r => match loadD p.2 n (p.1.get a), resD p r with
    | some x, some xs => some (x :: xs)
    | _, _ => none
def argsT : Nat → List V → Tr → Tr
  | _, [], E => E
  | i, x :: r, E => argsT (i + 1) r (putT E (some i) x)
def finD (fx : List Nat) (n : Nat) (rs : List LRes) (p : Pt) : Option (V × List Blk) :=
  match resD p rs with
  | none => none
  | some xs =>
    let L := keepN n p.2 (namesL xs)
    let h := L.map fun k => renBK (pos L) (blk p.2 k)
    if numB L p.2 n && keepB h fx then some (renK (pos L) (tupV xs), h) else none
def endD (fx : List Nat) (n : Nat) (rs : List LRes) (outs : List Out) : Option (V × List Blk) :=
  match outs with
  | [.normal p] => finD fx n rs p
  | [.ret p] => finD fx n rs p
  | _ => none
structure Memo where
  f : FuncId
  zas : List V
  h0 : List Blk
  r : V
  h : List Blk
def eqBs : List Blk → List Blk → Bool
  | [], [] => true
  | a :: r, b :: s => eqB a b && eqBs r s
  | _, _ => false
theorem eqBs_ok : ∀ {a b : List Blk}, eqBs a b = true → a = b
  | [], b, h => by cases b <;> simp_all [eqBs]
  | a :: r, b, h => by
    cases b with
    | nil => simp [eqBs] at h
    | cons c s => simp only [eqBs, Bool.and_eq_true] at h; rw [eqB_ok h.1, eqBs_ok h.2]
def findM (f : FuncId) (zas : List V) (h0 : List Blk) : List Memo → Option (V × List Blk)
  | [] => none
  | m :: r => if Nat.beq m.f f && (eqL m.zas zas && eqBs m.h0 h0) then some (m.r, m.h) else findM f zas h0 r
def bodyD (call : CallD) (mvf : FuncId → Option Nat) (iter : ItD) (en : Ent) (zas : List V) (h0 : List Blk) (mv fx : List Nat) : Option (V × List Blk) :=
  if decide (zas.length ≤ en.nt) && keepB h0 fx then
    match cw call mvf iter en.code fx h0.length (fun _ _ _ => none) none (argsT 0 zas .lf, h0) with
    | some outs => endD fx h0.length en.rs outs
    | none => none
  else none
def heapsD : List Out → Option (List (List Blk))
  | [] => some []
  | o :: r => match o, heapsD r with
    | .normal p, some l => some (p.2 :: l)
    | .ret p, some l => some (p.2 :: l)
    | _, _ => none
def ibodyD (call : CallD) (mvf : FuncId → Option Nat) (iter : ItD) (en : Ent) (zas : List V) (fx : List Nat) (k : Nat) (y : YtD) (h : List Blk) : Option (List (List Blk)) :=
  if (decide (zas.length ≤ en.nt) && en.rs.isEmpty) && (keepB h fx && fx.all fun j => Nat.blt j h.length) then
    match cw call mvf iter en.code fx h.length (fun k' => if Nat.beq k' k then y else fun _ _ => none) none (argsT 0 zas .lf, h) with
    | some outs => heapsD outs
    | none => none
  else none
def mvT (T : List (Option Ent)) (g : FuncId) : Option Nat :=
  match T[g]? with
  | some (some e) => e.mv
  | _ => none
def fiD (T : List (Option Ent)) (M : List Memo) : Nat → CallD × ItD
  | 0 => (fun _ _ _ _ => none, fun _ _ _ _ _ _ => none)
  | d + 1 => (fun f zas h0 mv => match (if mv.isEmpty then findM f zas h0 M else none) with
      | some x => some x
      | none => match T[f]? with
        | some (some en) => bodyD (fiD T M d).1 (mvT T) (fiD T M d).2 en zas h0 mv ((List.range h0.length).filter fun k => !(hasN mv k))
        | _ => none,
    fun f zas fx k y h => match T[f]? with
      | some (some en) => ibodyD (fiD T M d).1 (mvT T) (fiD T M d).2 en zas fx k y h
      | _ => none)
def fnD (T : List (Option Ent)) (M : List Memo) (d : Nat) : CallD := (fiD T M d).1
def givesB (x : Option (V × List Blk)) (r : V) (h : List Blk) : Bool :=
  match x with
  | some (r', h') => eqV r' r && eqBs h' h
  | none => false
theorem givesB_ok {x : Option (V × List Blk)} {r : V} {h : List Blk} (hx : givesB x r h = true) : x = some (r, h) := by
  unfold givesB at hx
  split at hx
  · simp only [Bool.and_eq_true] at hx
    rw [eqV_ok hx.1, eqBs_ok hx.2]
  · cases hx
end Go.Fx
