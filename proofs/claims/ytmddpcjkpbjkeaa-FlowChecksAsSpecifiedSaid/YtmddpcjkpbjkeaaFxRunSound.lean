import Derived.Test.YtmddpcjkpbjkeaaFxRun
set_option linter.unusedVariables false
set_option linter.unusedSimpArgs false
set_option linter.unusedSectionVars false
namespace Go.Fx
open Go.RowKit

def Tr.toEnv : Tr → Env
  | .lf => []
  | .nd v l r => (0, v) :: (l.toEnv.map (fun p => (2 * p.1 + 1, p.2)) ++ r.toEnv.map (fun p => (2 * p.1 + 2, p.2)))

theorem get_app_r : ∀ {a b : Env} {i : Nat}, (∀ p ∈ a, p.1 ≠ i) → get (a ++ b) i = get b i
  | [], _, _, _ => rfl
  | (j, x) :: r, b, i, h => by
    have hj : j ≠ i := h (j, x) (by simp)
    show (if i = j then x else get (r ++ b) i) = _
    rw [if_neg (Ne.symm hj)]
    exact get_app_r fun p hp => h p (by simp [hp])
theorem get_none : ∀ {a : Env} {i : Nat}, (∀ p ∈ a, p.1 ≠ i) → get a i = .any
  | [], _, _ => rfl
  | (j, x) :: r, i, h => by
    have hj : j ≠ i := h (j, x) (by simp)
    show (if i = j then x else get r i) = _
    rw [if_neg (Ne.symm hj)]
    exact get_none fun p hp => h p (by simp [hp])
theorem get_app_l : ∀ {a b : Env} {i : Nat}, (∀ p ∈ b, p.1 ≠ i) → get (a ++ b) i = get a i
  | [], b, i, h => get_none h
  | (j, x) :: r, b, i, h => by
    show (if i = j then x else get (r ++ b) i) = (if i = j then x else get r i)
    rw [get_app_l h]
theorem get_mapf {f : Nat → Nat} (hf : ∀ i j, f i = f j → i = j) : ∀ (a : Env) (i : Nat), get (a.map fun p => (f p.1, p.2)) (f i) = get a i
  | [], _ => rfl
  | (j, x) :: r, i => by
    show (if f i = f j then x else get (r.map fun p => (f p.1, p.2)) (f i)) = (if i = j then x else get r i)
    rw [get_mapf hf r i]
    by_cases h : i = j
    · subst h; simp
    · rw [if_neg h, if_neg fun e => h (hf _ _ e)]
theorem toEnv_get : ∀ (E : Tr) (i : Nat), get E.toEnv i = E.get i
  | .lf, _ => rfl
  | .nd v l r, 0 => rfl
  | .nd v l r, j + 1 => by
    show (if j + 1 = 0 then v else get (l.toEnv.map (fun p => (2 * p.1 + 1, p.2)) ++ r.toEnv.map (fun p => (2 * p.1 + 2, p.2))) (j + 1)) = _
    rw [if_neg (by omega)]
    simp only [Tr.get]
    split
    · rename_i hj
      rw [get_app_l (by rintro p hp; obtain ⟨q, _, rfl⟩ := List.mem_map.1 hp; simp; omega), show j + 1 = 2 * (j / 2) + 1 by omega, get_mapf (f := fun i => 2 * i + 1) (by intros; simp at *; omega)]
      exact toEnv_get l _
    · rename_i hj
      rw [get_app_r (by rintro p hp; obtain ⟨q, _, rfl⟩ := List.mem_map.1 hp; simp; omega), show j + 1 = 2 * (j / 2) + 2 by omega, get_mapf (f := fun i => 2 * i + 2) (by intros; simp at *; omega)]
      exact toEnv_get r _

mutual
theorem wfVB_ok {h : List Blk} : ∀ x : V, wfVB h x = true → wfV h x
  | .sl k _ _, hx => live_of (by simpa [wfVB] using hx)
  | .ptr k _ _, hx => live_of (by simpa [wfVB] using hx)
  | .mp k, hx => live_of (by simpa [wfVB] using hx)
  | .itr _, hx => by simp [wfVB] at hx
  | .agg cs, hx => wfLB_ok cs (by simpa [wfVB] using hx)
  | .tup cs, hx => wfLB_ok cs (by simpa [wfVB] using hx)
  | .clo _ cs, hx => wfLB_ok cs (by simpa [wfVB] using hx)
  | .any, _ | .v _, _ | .ro _ _, _ | .bro _ _, _ | .full _ _, _ | .rp _ _ _ _, _ => by simp [wfV]
theorem wfLB_ok {h : List Blk} : ∀ xs : List V, wfLB h xs = true → wfL h xs
  | [], _ => trivial
  | x :: r, hx => by
    simp only [wfLB, Bool.and_eq_true] at hx
    exact ⟨wfVB_ok x hx.1, wfLB_ok r hx.2⟩
end
theorem wfBB_ok {h : List Blk} : ∀ l : List Blk, wfBB h l = true → wfB h l
  | [], _ => trivial
  | .var cs :: r, hx => by simp only [wfBB, Bool.and_eq_true] at hx; exact ⟨wfLB_ok _ hx.1, wfBB_ok r hx.2⟩
  | .dead :: r, hx => wfBB_ok r (by simpa [wfBB] using hx)
  | .arr _ _ :: r, hx => wfBB_ok r (by simpa [wfBB] using hx)
  | .arv _ els :: r, hx => by simp only [wfBB, Bool.and_eq_true] at hx; exact ⟨wfLB_ok _ hx.1, wfBB_ok r hx.2⟩
  | .map es _ :: r, hx => by simp only [wfBB, Bool.and_eq_true] at hx; exact ⟨wfLB_ok _ hx.1, wfBB_ok r hx.2⟩
  | .it m _ _ _ :: r, hx => by simp only [wfBB, Bool.and_eq_true] at hx; exact ⟨wfVB_ok _ hx.1, wfBB_ok r hx.2⟩
theorem Tr.wf_ok {h : List Blk} : ∀ (E : Tr), E.wf h = true → ∀ i, wfV h (E.get i)
  | .lf, _, _ => trivial
  | .nd v l r, hx, i => by
    simp only [Tr.wf, Bool.and_eq_true] at hx
    cases i with
    | zero => exact wfVB_ok v hx.1
    | succ j =>
      simp only [Tr.get]
      split
      · exact Tr.wf_ok l hx.2.1 _
      · exact Tr.wf_ok r hx.2.2 _
theorem leTB_ok : ∀ (E E' : Tr), leTB E E' = true → ∀ i, E'.get i = .any ∨ E'.get i = E.get i
  | _, .lf, _, i => .inl rfl
  | .nd v l r, .nd v' l' r', h, i => by
    simp only [leTB, Bool.and_eq_true] at h
    cases i with
    | zero =>
      show v' = .any ∨ v' = v
      have h1 := h.1.1
      split at h1
      · exact .inl rfl
      · exact .inr (eqV_ok h1).symm
    | succ j =>
      simp only [Tr.get]
      split
      · exact leTB_ok l l' h.1.2 _
      · exact leTB_ok r r' h.2 _
  | .lf, .nd v' l' r', h, i => by
    simp only [leTB, Bool.and_eq_true] at h
    cases i with
    | zero =>
      show v' = .any ∨ v' = .any
      have h1 := h.1.1
      split at h1
      · exact .inl rfl
      · cases h1
    | succ j =>
      simp only [Tr.get]
      split
      · exact leTB_ok .lf l' h.1.2 _
      · exact leTB_ok .lf r' h.2 _
theorem leVsB_ok : ∀ {xs ys : List V}, leVsB xs ys = true → leVs xs ys
  | [], [], _ => trivial
  | x :: xs, y :: ys, h => by
    simp only [leVsB, Bool.and_eq_true] at h
    refine ⟨?_, leVsB_ok h.2⟩
    have h1 := h.1
    unfold leV
    split at h1
    · trivial
    · have := eqV_ok h1
      subst this
      split <;> trivial
  | [], _ :: _, h => by simp [leVsB] at h
  | _ :: _, [], h => by simp [leVsB] at h
theorem leBB_ok {b c : Blk} (h : leBB b c = true) : leB b c := by
  unfold leBB at h
  unfold leB
  split at h
  · trivial
  · split at h
    · exact leVsB_ok h
    · cases h
  · split
    · trivial
    · rename_i hne; exact (hne _ rfl).elim
    · exact eqB_ok h
theorem leHB_ok : ∀ {h p : List Blk}, leHB h p = true → leH h p
  | _, [], _ => by unfold leH; trivial
  | b :: h, c :: p, hx => by
    simp only [leHB, Bool.and_eq_true] at hx
    exact ⟨leBB_ok hx.1, leHB_ok hx.2⟩
  | [], _ :: _, hx => by simp [leHB] at hx

section
variable {P : Program} {ρ0 : Nat → Loc} {X : Nat → Prop} {w0 : World} {fx : List Nat} {N : Nat}

def GoodT (ρ0 : Nat → Loc) (X : Nat → Prop) (w0 : World) (fx : List Nat) (N : Nat) (p : Pt) (a : Act) (w : World) : Prop :=
  ∃ e b, (∀ i, get e i = p.1.get i) ∧ Good ρ0 X w0 fx N ⟨e, p.2, b⟩ a w

theorem GoodT.le {p q : Pt} {a : Act} {w : World} (hE : ∀ i, q.1.get i = .any ∨ q.1.get i = p.1.get i) (l2 : leH p.2 q.2) (l3 : keepP fx q.2) (l4 : ∀ i, wfV q.2 (q.1.get i)) (l5 : wfB q.2 q.2) (h : GoodT ρ0 X w0 fx N p a w) : GoodT ρ0 X w0 fx N q a w := by
  obtain ⟨e, b, he, ρ, ⟨⟨hf, h1⟩, hk⟩, ⟨hr, hre⟩, h5⟩ := h
  refine ⟨q.1.toEnv, 0, toEnv_get _, dropLoc ρ q.2, ⟨⟨hf.trans drop_fr, fun k hk' => by rw [live_loc (keepP_get l3 k hk')]; exact h1 k hk'⟩, l3⟩, ⟨dropRep hr l2 l5, fun i => ?_⟩, h5⟩
  rw [toEnv_get]
  rcases hE i with hg | hg
  · rw [hg]; trivial
  · exact drop_rep _ _ (l4 i) (by rw [hg, ← he]; exact hre i)

theorem joinD_ok {outs ps : List Pt} (h : joinD fx outs = some ps) {q : Pt} (hq : q ∈ outs) {a : Act} {w : World} (hg : GoodT ρ0 X w0 fx N q a w) : ∃ p ∈ ps, GoodT ρ0 X w0 fx N p a w := by
  unfold joinD at h
  split at h
  · simp at hq
  · simp only [Option.some.injEq] at h
    subst h
    exact ⟨q, hq, hg⟩
  · simp only at h
    split at h
    · rename_i hc
      simp only [Option.some.injEq] at h
      subst h
      simp only [Bool.and_eq_true, List.all_eq_true] at hc
      obtain ⟨h1, h2, h3, h4⟩ := hc
      obtain ⟨h5, h6⟩ := h1 q hq
      exact ⟨_, List.mem_singleton_self _, hg.le (leTB_ok _ _ h5) (leHB_ok h6) (keep_of h2) (Tr.wf_ok _ h3) (wfBB_ok _ h4)⟩
    · cases h

theorem goL_ok {α β : Type} {f : α → Option (List β)} : ∀ {xs : List α} {ys : List β}, goL f xs = some ys → ∀ x ∈ xs, ∃ zs, f x = some zs ∧ ∀ z ∈ zs, z ∈ ys
  | [], _, _, x, hx => by simp at hx
  | [y], ys, h, x, hx => by
    simp only [List.mem_singleton] at hx
    subst hx
    exact ⟨ys, h, fun _ h => h⟩
  | y :: y2 :: r, ys, h, x, hx => by
    simp only [goL] at h
    split at h
    · rename_i a b h1 h2
      simp only [Option.some.injEq] at h
      subst h
      rcases List.mem_cons.1 hx with rfl | hx
      · exact ⟨a, h1, fun z hz => List.mem_append_left _ hz⟩
      · obtain ⟨zs, h3, h4⟩ := goL_ok h2 x hx
        exact ⟨zs, h3, fun z hz => List.mem_append_right _ (h4 z hz)⟩
    · cases h
theorem bindL_ok {α β : Type} {l : Option (List α)} {f : α → Option (List β)} {ys : List β} (h : bindL l f = some ys) : ∃ xs, l = some xs ∧ ∀ x ∈ xs, ∃ zs, f x = some zs ∧ ∀ z ∈ zs, z ∈ ys := by
  unfold bindL at h
  split at h
  · cases h
  · exact ⟨_, rfl, goL_ok h⟩

section
variable {C : Ctr} {call : CallD} {mvf : FuncId → Bool} (hcall : ∀ f as h0 mv r h', call f as h0 mv = some (r, h') → C f as h0 mv (fun r1 h1 => r1 = r ∧ h1 = h'))
include hcall

theorem putT_get {E : Tr} {e : Env} (he : ∀ i, get e i = E.get i) (d : Option Nat) (x : V) (h : List Blk) (b : Nat) : ∀ i, get ((⟨e, h, b⟩ : St).put d x).e i = (putT E d x).get i := by
  intro i
  cases d with
  | none => exact he i
  | some d =>
    simp only [putT, forceV_eq]
    rw [Tr.get_put _ _ _ _ _ (Nat.lt_succ_self d)]
    show (if i = d then x else get e i) = _
    rw [he]

theorem runD_ok {bn : List Nat} {o : LOper} {b : Nat} {p : Pt} {outs : List Pt} (h : runD call mvf fx bn o b p = some outs) {e : Env} (he : ∀ i, get e i = p.1.get i) {K : St → Prop}
    (hK : ∀ q ∈ outs, ∀ e', (∀ i, get e' i = q.1.get i) → K ⟨e', q.2, b⟩) : aOp ⟨C, fx, bn⟩ o.op ⟨e, p.2, b⟩ fun x s' => K (s'.put o.dst x) := by
  unfold runD at h
  split at h
  · cases h
  · rename_i rs hrs
    simp only [Option.some.injEq] at h
    subst h
    refine opD_ok hcall he hrs fun r hr e' he' => ?_
    have := hK (putT r.E o.dst r.x, r.h) (by rw [List.mem_map]; exact ⟨r, hr, rfl⟩) ((⟨e', r.h, b⟩ : St).put o.dst r.x).e (putT_get hcall he' _ _ _ _)
    cases hd : o.dst with
    | none => rw [hd] at this; exact this
    | some d => rw [hd] at this; exact this

theorem operD_ok {bn : List Nat} {o : LOper} {b : Nat} {p : Pt} {outs : List Pt} (h : operD call mvf fx bn o b p = some outs) {e : Env} (he : ∀ i, get e i = p.1.get i) {K : St → Prop}
    (hK : ∀ q ∈ outs, ∀ e', (∀ i, get e' i = q.1.get i) → K ⟨e', q.2, b⟩) : aOper ⟨C, fx, bn⟩ o ⟨e, p.2, b⟩ K := by
  unfold operD at h
  unfold aOper
  split at h
  · rename_i hg
    rw [hg]
    exact runD_ok hcall h he hK
  · rename_i g want hg
    rw [hg]
    have hge := he g
    show guardP (get e g) want _ _ _
    split at h
    · rename_i t ht
      rw [hge, ht]
      have hput : ∀ v : Bool, v = t → ∀ i, get ((g, V.b v) :: e) i = p.1.get i := by
        intro v hv i
        subst hv
        show (if i = g then V.b v else get e i) = _
        by_cases hi : i = g
        · rw [if_pos hi, hi, ht]
        · rw [if_neg hi, he]
      have hskip : ∀ v : Bool, v = t → ∀ {outs : List Pt}, some [(putT p.1 o.dst (.v (.tuple #[])), p.2)] = some outs → (∀ q ∈ outs, ∀ e', (∀ i, get e' i = q.1.get i) → K ⟨e', q.2, b⟩) →
          K (((⟨e, p.2, b⟩ : St).put (some g) (.b v)).put o.dst (.v (.tuple #[]))) := by
        intro v hv outs ho hK
        simp only [Option.some.injEq] at ho
        subst ho
        have := hK _ (List.mem_singleton_self _) ((⟨(g, V.b v) :: e, p.2, b⟩ : St).put o.dst (.v (.tuple #[]))).e (putT_get hcall (hput v hv) _ _ _ _)
        cases hd : o.dst with
        | none => rw [hd] at this; exact this
        | some d => rw [hd] at this; exact this
      split at h
      · rename_i htw
        subst htw
        have := runD_ok hcall h (hput t rfl) hK
        cases t with
        | true => exact ⟨fun _ => this, fun h => by cases h⟩
        | false => exact ⟨fun h => (by cases h), fun _ => this⟩
      · rename_i htw
        have hn : (!want) = t := by cases t <;> cases want <;> simp_all
        have := hskip (!want) hn h hK
        cases t with
        | true => cases want with
          | true => exact absurd rfl htw
          | false => exact ⟨fun _ => this, fun h => by cases h⟩
        | false => cases want with
          | true => exact ⟨fun h => (by cases h), fun _ => this⟩
          | false => exact absurd rfl htw
    · rename_i u ht
      rw [hge, ht]
      simp only [Option.some.injEq] at h
      subst h
      have := hK _ (List.mem_singleton_self _) ((⟨e, p.2, b⟩ : St).put o.dst (.v (.tuple #[]))).e (putT_get hcall he _ _ _ _)
      show K ((⟨e, p.2, b⟩ : St).put o.dst (.v (.tuple #[])))
      cases hd : o.dst with
      | none => rw [hd] at this; exact this
      | some d => rw [hd] at this; exact this
    · cases h

theorem opsD_ok {b : Nat} {K : St → Prop} : ∀ {ls : List LOper} {p : Pt} {outs : List Pt}, opsD call mvf fx b ls p = some outs → ∀ {e : Env}, (∀ i, get e i = p.1.get i) →
    (∀ q ∈ outs, ∀ e', (∀ i, get e' i = q.1.get i) → K ⟨e', q.2, b⟩) → aOps ⟨C, fx, []⟩ ls ⟨e, p.2, b⟩ K
  | [], p, outs, h, e, he, hK => by
    simp only [opsD, Option.some.injEq] at h
    subst h
    exact hK _ (List.mem_singleton_self _) e he
  | o :: r, p, outs, h, e, he, hK => by
    simp only [opsD] at h
    obtain ⟨xs, h1, h2⟩ := bindL_ok h
    refine operD_ok hcall h1 he fun q hq e' he' => ?_
    obtain ⟨zs, h3, h4⟩ := h2 q hq
    exact opsD_ok h3 he' fun z hz => hK z (h4 z hz)

theorem planD_ok {b : Nat} {K : St → Prop} : ∀ {l : LPlan} {bn : List Nat} {p : Pt} {outs : List Pt}, planD call mvf fx b l bn p = some outs → ∀ {e : Env}, (∀ i, get e i = p.1.get i) →
    (∀ q ∈ outs, ∀ e', (∀ i, get e' i = q.1.get i) → K ⟨e', q.2, b⟩) → awP ⟨C, fx, []⟩ l bn K ⟨e, p.2, b⟩
  | .done, bn, p, outs, h, e, he, hK => by
    simp only [planD, Option.some.injEq] at h
    subst h
    exact hK _ (List.mem_singleton_self _) e he
  | .take i D o q, bn, p, outs, h, e, he, hK => by
    simp only [planD] at h
    obtain ⟨xs, h1, h2⟩ := bindL_ok h
    refine operD_ok hcall h1 he fun q' hq e' he' => ?_
    obtain ⟨zs, h3, h4⟩ := h2 q' hq
    have hrd : rdB o.op e bn = rdT o.op p.1 bn := by
      unfold rdB rdT
      cases o.op with
      | load n a => simp only [ev_ok he]; cases evT p.1 a <;> rfl
      | _ => rfl
    show awP _ q (rdB o.op e bn) K _
    rw [hrd]
    exact planD_ok h3 he' fun z hz => hK z (h4 z hz)
  | .alt i o r q q', bn, p, outs, h, e, he, hK => by
    simp only [planD] at h
    split at h
    · rename_i x y h1 h2
      simp only [Option.some.injEq] at h
      subst h
      obtain ⟨xs, h3, h4⟩ := bindL_ok h1
      refine ⟨operD_ok hcall h3 he fun q' hq e' he' => ?_, planD_ok h2 he fun z hz => hK z (List.mem_append_right _ hz)⟩
      obtain ⟨zs, h5, h6⟩ := h4 q' hq
      exact planD_ok h5 he' fun z hz => hK z (List.mem_append_left _ (h6 z hz))
    · cases h
  | .none, bn, p, outs, h, e, he, hK => trivial
end

/-- How a piece of text is left. -/
def Out.ex : Out → Exit
  | .normal _ => .normal
  | .exit j _ => .exit j
  | .ret _ => .ret
def Out.pt : Out → Pt
  | .normal p => p
  | .exit _ p => p
  | .ret p => p

theorem GoodT.reserve {p : Pt} {a : Act} {w : World} (n : Nat) (h : GoodT ρ0 X w0 fx N p a w) : ∃ e, (∀ i, get e i = p.1.get i) ∧ Good ρ0 X w0 fx N ⟨e, roomD n p.2, p.2.length⟩ a w := by
  obtain ⟨e, b, he, hg⟩ := h
  refine ⟨e, he, ?_⟩
  have := hg.reserve n p.2.length
  cases n with
  | zero => simpa [roomD] using this
  | succ n => exact this

theorem others_mem {o : Out} : ∀ {l : List Out}, o ∈ l → (∀ p, o ≠ .normal p) → o ∈ others l
  | [], h, _ => by simp at h
  | x :: r, h, hn => by
    rcases List.mem_cons.1 h with rfl | h'
    · cases o with
      | normal p => exact (hn p rfl).elim
      | _ => simp [others]
    · clear h
      have ih := others_mem h' hn
      cases x with
      | normal p => exact ih
      | _ => simp only [others]; exact List.mem_cons_of_mem _ ih
theorem norms_mem {p : Pt} : ∀ {l : List Out}, Out.normal p ∈ l → p ∈ norms l
  | [], h => by simp at h
  | x :: r, h => by
    rcases List.mem_cons.1 h with rfl | h'
    · simp [norms]
    · clear h
      have ih := norms_mem h'
      cases x with
      | normal p => simp only [norms]; exact List.mem_cons_of_mem _ ih
      | _ => exact ih

theorem Tr.get_ren (g : Nat → Option Nat) : ∀ (t : Tr) (i : Nat), (t.ren g).get i = renK g (t.get i)
  | .lf, _ => by simp [Tr.ren, Tr.get, renK]
  | .nd v l r, i => by
    cases i with
    | zero => rfl
    | succ j =>
      simp only [Tr.ren, Tr.get]
      split
      · exact Tr.get_ren g l _
      · exact Tr.get_ren g r _

mutual
theorem renK_rep {w : World} {ρ1 ρ2 : Nat → Loc} {g : Nat → Option Nat} (hS : ∀ b, Sta ρ1 X w b → Sta ρ2 X w b) (hL : ∀ b, Len ρ1 w b → Len ρ2 w b) (hg : ∀ k j, g k = some j → (ρ1 k).real = true → ρ2 j = ρ1 k) :
    ∀ (x : V) (val : Value), RepV ρ1 X w x val → RepV ρ2 X w (renK g x) val
  | .any, _, _ => trivial
  | .v _, _, hx => hx
  | .ro sz els, val, hx => RepD_mono (fun b hb => ⟨hS b hb, rfl⟩) (.ro sz els) val hx
  | .bro sz els, val, hx => by
    obtain ⟨a, len, cap, h1, h2, h3, h4, h5⟩ := hx
    refine ⟨a, len, cap, h1, h2, h3, h4, h5.imp id ?_⟩
    rintro ⟨b, off, h6, h7, h8⟩
    exact ⟨b, off, h6, hL b h7, RepEls_mono (fun b hb => ⟨hS b hb, rfl⟩) sz b rfl off els h8⟩
  | .full sz els, val, hx => by
    obtain ⟨a, len, h1, h2, h4, h5⟩ := hx
    refine ⟨a, len, h1, h2, h4, h5.imp id ?_⟩
    rintro ⟨b, off, h6, h7, h8⟩
    exact ⟨b, off, h6, hL b h7, RepEls_mono (fun b hb => ⟨hS b hb, rfl⟩) sz b rfl off els h8⟩
  | .rp sz els i f, val, hx => by
    obtain ⟨b, off, h6, h7, h8⟩ := hx
    exact ⟨b, off, h6, hL b h7, RepEls_mono (fun b hb => ⟨hS b hb, rfl⟩) sz b rfl off els h8⟩
  | .itr _, _, _ => trivial
  | .sl k i n, val, hx => by
    simp only [renK]
    split
    · rename_i j hj
      obtain ⟨cap, h1, h2, h3⟩ := hx
      refine ⟨cap, h1, h2, h3.imp id ?_⟩
      rintro ⟨h4, h5⟩
      rw [hg k j hj h4]
      exact ⟨h4, h5⟩
    · trivial
  | .ptr k i f, val, hx => by
    simp only [renK]
    split
    · rename_i j hj
      obtain ⟨h4, h5⟩ := hx
      simp only [RepV]
      rw [hg k j hj h4]
      exact ⟨h4, h5⟩
    · trivial
  | .mp k, val, hx => by
    simp only [renK]
    split
    · rename_i j hj
      obtain ⟨h4, h5⟩ := hx
      simp only [RepV]
      rw [hg k j hj h4]
      exact ⟨h4, h5⟩
    · trivial
  | .agg cs, val, hx => by
    obtain ⟨arr, h1, h2⟩ := hx
    exact ⟨arr, h1, rensK_rep hS hL hg cs _ h2⟩
  | .tup cs, val, hx => by
    obtain ⟨arr, h1, h2⟩ := hx
    exact ⟨arr, h1, rensK_rep hS hL hg cs _ h2⟩
  | .clo f cs, val, hx => by
    obtain ⟨arr, h1, h2⟩ := hx
    exact ⟨arr, h1, rensK_rep hS hL hg cs _ h2⟩
theorem rensK_rep {w : World} {ρ1 ρ2 : Nat → Loc} {g : Nat → Option Nat} (hS : ∀ b, Sta ρ1 X w b → Sta ρ2 X w b) (hL : ∀ b, Len ρ1 w b → Len ρ2 w b) (hg : ∀ k j, g k = some j → (ρ1 k).real = true → ρ2 j = ρ1 k) :
    ∀ (xs : List V) (vs : List Value), RepL ρ1 X w xs vs → RepL ρ2 X w (rensK g xs) vs
  | [], [], _ => trivial
  | x :: r, u :: us, hx => ⟨renK_rep hS hL hg x u hx.1, rensK_rep hS hL hg r us hx.2⟩
  | [], _ :: _, hx => hx.elim
  | _ :: _, [], hx => hx.elim
end
theorem rensK_map (g : Nat → Option Nat) : ∀ xs : List V, rensK g xs = xs.map (renK g)
  | [] => rfl
  | x :: r => by simp [rensK, rensK_map g r]

theorem renBK_rep {w : World} {ρ1 ρ2 : Nat → Loc} {g : Nat → Option Nat} (hS : ∀ b, Sta ρ1 X w b → Sta ρ2 X w b) (hL : ∀ b, Len ρ1 w b → Len ρ2 w b) (hg : ∀ k j, g k = some j → (ρ1 k).real = true → ρ2 j = ρ1 k)
    {k j : Nat} (hkj : ρ2 j = ρ1 k) {B : Blk} (hB : RepB ρ1 X w k B) : RepB ρ2 X w j (renBK g B) := by
  cases B with
  | dead => simp only [renBK, RepB] at hB ⊢; rw [hkj]; exact hB
  | arr sz els =>
    simp only [renBK, RepB] at hB ⊢
    rw [hkj]
    refine ⟨hB.1, hB.2.imp id ?_⟩
    rintro ⟨h1, c, T, h2, h3, h4, h5⟩
    exact ⟨h1, c, T, h2, h3, h4, RepEls_mono (fun b hb => ⟨hS b hb, rfl⟩) sz _ rfl _ _ h5⟩
  | var cs =>
    simp only [renBK, RepB] at hB ⊢
    rw [hkj]
    obtain ⟨h1, c, T, h2, h3⟩ := hB
    exact ⟨h1, c, T, h2, rensK_rep hS hL hg _ _ h3⟩
  | arv sz els =>
    simp only [renBK, RepB] at hB ⊢
    rw [hkj]
    obtain ⟨h0, h1, c, T, h2, h3, h4, h5⟩ := hB
    refine ⟨h0, h1, c, T, h2, h3, by simpa using h4, fun i e he => ?_⟩
    simp only [List.getElem?_map, Option.map_eq_some_iff] at he
    obtain ⟨e0, he0, rfl⟩ := he
    refine ⟨by rw [rensK_map, List.length_map]; exact (h5 i e0 he0).1, fun f x hx => ?_⟩
    simp only [rensK_map, List.getElem?_map, Option.map_eq_some_iff] at hx
    obtain ⟨x0, hx0, rfl⟩ := hx
    obtain ⟨u, h6, h7⟩ := (h5 i e0 he0).2 f x0 hx0
    exact ⟨u, h6, renK_rep hS hL hg _ _ h7⟩
  | map es cl =>
    simp only [renBK, RepB] at hB ⊢
    rw [hkj]
    obtain ⟨h1, arr, h2, h3, h4⟩ := hB
    refine ⟨h1, arr, h2, by rw [h3]; simp, ?_⟩
    rw [show (List.map (fun e : Value × V × Nat => (e.1, renK g e.2.1, e.2.2)) es).map (·.2.1) = rensK g (es.map (·.2.1)) by rw [rensK_map]; simp]
    exact rensK_rep hS hL hg _ _ h4
  | it m s sn l =>
    simp only [renBK, RepB] at hB ⊢
    rw [hkj]
    obtain ⟨h1, x, h2, h3⟩ := hB
    exact ⟨h1, x, h2, renK_rep hS hL hg _ _ h3⟩

/-- .. the others are forgotten. -/
theorem gc_rep {ρ : Nat → Loc} {w : World} {h : List Blk} (hr : Rep ρ X w h) {ι : List Nat} (hn : ι.Nodup) (hlt : ∀ k ∈ ι, k < h.length) :
    Rep (calleeLoc ρ ι) X w (ι.map fun k => renBK (pos ι) (blk h k)) := by
  refine ⟨?_, ?_, ?_, fun b ho => hr.disj b (callee_own ho), ?_, hr.xlt⟩
  · intro i j hij hi hj
    obtain ⟨a, ha, ea⟩ := callee_real hi
    obtain ⟨c, hc, ec⟩ := callee_real hj
    rw [ea] at hi ⊢
    rw [ec] at hj ⊢
    refine hr.inj a c (fun e => hij ?_) hi hj
    subst e
    have h1 := pos_of_get hn ha
    have h2 := pos_of_get hn hc
    rw [h1] at h2
    simpa using h2
  · intro k hk
    have : ι[k]? = none := by simpa using hk
    simp [calleeLoc, this]
  · intro j B hB
    simp only [List.getElem?_map, Option.map_eq_some_iff] at hB
    obtain ⟨k, hk, rfl⟩ := hB
    have hkl := hlt k (List.mem_of_getElem? hk)
    have hb : h[k]? = some (blk h k) := by simp [blk, List.getD_eq_getElem?_getD, List.getElem?_eq_getElem hkl]
    exact renBK_rep (fun b hb => ⟨hb.1, fun ho => hb.2.1 (callee_own ho), hb.2.2⟩) (fun b hb => callee_len hb) (fun k' j' hp _ => callee_at (pos_some hp)) (callee_at hk) (hr.blk k _ hb)
  · intro j hj
    unfold calleeLoc at hj ⊢
    split at hj
    · exact hr.lt _ hj
    · cases hj

theorem gc_fr {ρ : Nat → Loc} {w : World} {ι : List Nat} : Fr ρ w (calleeLoc ρ ι) w := ⟨rfl, rfl, rfl, Nat.le_refl _, fun _ _ ho => ⟨rfl, fun h => ho (callee_own h)⟩⟩
theorem gc_val {ρ : Nat → Loc} {w : World} {ι : List Nat} {x : V} {val : Value} (h : RepV ρ X w x val) : RepV (calleeLoc ρ ι) X w (renK (pos ι) x) val :=
  renK_rep (fun b hb => ⟨hb.1, fun ho => hb.2.1 (callee_own ho), hb.2.2⟩) (fun b hb => callee_len hb) (fun k' j' hp _ => callee_at (pos_some hp)) x val h

theorem keepN_get {n : Nat} {h : List Blk} {names : List Nat} {k : Nat} (hk : k < n) : (keepN n h names)[k]? = some k := by
  unfold keepN
  rw [List.getElem?_append_left (by simpa using hk)]
  simp [hk]

theorem numB_ok {L : List Nat} {h : List Blk} {n : Nat} (hb : numB L h n = true) : L.Nodup ∧ (∀ k ∈ L, k < h.length) ∧ n ≤ h.length := by
  unfold numB at hb
  simp only [Bool.and_eq_true, List.all_eq_true, Nat.blt_eq, Nat.ble_eq] at hb
  exact ⟨nodup_of hb.1.1, hb.1.2, hb.2⟩

theorem gcD_ok {n0 : Nat} (hfn : ∀ k ∈ fx, k < n0) {p q : Pt} (h : gcD fx n0 p = some q) {a : Act} {w : World} (hg : GoodT ρ0 X w0 fx N p a w) : GoodT ρ0 X w0 fx N q a w := by
  unfold gcD at h
  split at h
  · simp only [Option.some.injEq] at h
    subst h
    exact hg
  generalize hL : keepN n0 p.2 p.1.namesT = L at h
  unfold gcK at h
  simp only at h
  split at h
  · rename_i hc
    simp only [Bool.and_eq_true] at hc
    simp only [Option.some.injEq] at h
    subst h
    obtain ⟨hn, hlt, _⟩ := numB_ok hc.1
    obtain ⟨e, b, he, ρ, ⟨⟨hf, h1⟩, hk⟩, ⟨hr, hre⟩, h5⟩ := hg
    refine ⟨(p.1.ren (pos L)).toEnv, 0, toEnv_get _, calleeLoc ρ L, ⟨⟨hf.trans gc_fr, fun k hk' => ?_⟩, keep_of hc.2⟩, ⟨gc_rep hr hn hlt, fun i => ?_⟩, h5⟩
    · rw [callee_at (by rw [← hL]; exact keepN_get (hfn k hk'))]
      exact h1 k hk'
    · rw [toEnv_get, Tr.get_ren, ← he]
      exact gc_val (hre i)
  · cases h

/-- THE RUN IS SOUND. -/
theorem cw_sound (hP : P.follows .mixedOrders = true) {n0 : Nat} (hfn : ∀ k ∈ fx, k < n0) {call : CallD} {mvf : FuncId → Bool} (hcall : ∀ f as h0 mv r h', call f as h0 mv = some (r, h') → Callable P f ∧ Fn P f as h0 mv (fun r1 h1 => r1 = r ∧ h1 = h')) :
    ∀ (c : Code) (l0 l : LCode), rlC P N c l0 = some l → ∀ (Q : Exit → Act → World → Prop) (p : Pt) (outs : List Out), cw call mvf fx n0 l p = some outs →
      (∀ o ∈ outs, ∀ a w, GoodT ρ0 X w0 fx N o.pt a w → Q o.ex a w) → ∀ a w, GoodT ρ0 X w0 fx N p a w → c.wp P Q a w := by
  have hcx : Cx.ok ⟨fun f as h0 mv R => Callable P f ∧ Fn P f as h0 mv R, fx, []⟩ P := fun f as h0 mv R h => h
  have hcl : ∀ f as h0 mv r h', call f as h0 mv = some (r, h') → (fun f as h0 mv R => Callable P f ∧ Fn P f as h0 mv R) f as h0 mv (fun r1 h1 => r1 = r ∧ h1 = h') := hcall
  intro c
  induction c with
  | skip =>
    intro l0 l hm Q p outs hd hQ a w hg
    simp only [rlC, Option.some.injEq] at hm
    subst hm
    simp only [cw, Option.some.injEq] at hd
    subst hd
    exact wp_skip (hQ (.normal p) (by simp) a w hg)
  | label i =>
    intro l0 l hm Q p outs hd hQ a w hg
    simp only [rlC, Option.some.injEq] at hm
    subst hm
    simp only [cw, Option.some.injEq] at hd
    subst hd
    exact wp_label (hQ (.normal p) (by simp) a w hg)
  | scope c ih =>
    intro l0 l hm Q p outs hd hQ a w hg
    simp only [rlC] at hm
    refine wp_scope_straight (ih l0 l hm (Exit.noGoto Q) p outs hd (fun o ho a w h => ?_) a w hg)
    have := hQ o ho a w h
    cases o <;> exact this
  | ret =>
    intro l0 l hm Q p outs hd hQ a w hg
    simp only [rlC, Option.some.injEq] at hm
    subst hm
    simp only [cw, Option.some.injEq] at hd
    subst hd
    exact wp_ret (hQ (.ret p) (by simp) a w hg)
  | exit i =>
    intro l0 l hm Q p outs hd hQ a w hg
    simp only [rlC, Option.some.injEq] at hm
    subst hm
    simp only [cw, Option.some.injEq] at hd
    subst hd
    exact wp_exit (hQ (.exit i p) (by simp) a w hg)
  | region id ops draw =>
    intro l0 l hm Q p outs hd hQ a w hg
    have hN : ∀ {ps : List Pt}, outs = ps.map .normal → ∀ (s : St) a w, (∃ q ∈ ps, (∀ i, get s.e i = q.1.get i) ∧ s.h = q.2) → Good ρ0 X w0 fx N s a w → Q .normal a w := by
      rintro ps rfl s a w ⟨q, hq, h1, h2⟩ hg
      exact hQ (.normal q) (by rw [List.mem_map]; exact ⟨q, hq, rfl⟩) a w ⟨s.e, s.b, h1, by show Good ρ0 X w0 fx N ⟨s.e, q.2, s.b⟩ a w; rw [← h2]; exact hg⟩
    simp only [rlC] at hm
    split at hm
    · split at hm
      · rename_i r hr
        simp only [Option.some.injEq] at hm
        subst hm
        simp only [cw, Option.map_eq_some_iff] at hd
        obtain ⟨ps, h1, h2⟩ := hd
        obtain ⟨e, he, hgr⟩ := hg.reserve _
        exact wp_region_list (aOps_sound hcx rfl (hN h2.symm) _ _ _ _ a w hr hgr (opsD_ok hcl h1 he fun q hq e' he' => ⟨q, hq, he', rfl⟩))
      · cases hm
    · split at hm
      · rename_i r hr
        split at hm
        · rename_i hc
          simp only [Bool.and_eq_true] at hc
          simp only [Option.some.injEq] at hm
          subst hm
          simp only [cw, Option.map_eq_some_iff] at hd
          obtain ⟨ps, h1, h2⟩ := hd
          obtain ⟨e, he, hgr⟩ := hg.reserve _
          exact qui_sound (cx := ⟨fun f as h0 mv R => Callable P f ∧ Fn P f as h0 mv R, fx, []⟩) hP (hN h2.symm) hr hc.1 hc.2 hgr (opsD_ok hcl h1 he fun q hq e' he' => ⟨q, hq, he', rfl⟩)
        · cases hm
      · cases hm
    · split at hm
      · rename_i r hr
        split at hm
        · rename_i hc
          simp only [Bool.and_eq_true] at hc
          simp only [Option.some.injEq] at hm
          subst hm
          simp only [cw, Option.map_eq_some_iff] at hd
          obtain ⟨ps, h1, h2⟩ := hd
          obtain ⟨e, he, hgr⟩ := hg.reserve _
          exact tail_sound hP hcx rfl (hN h2.symm) hr hc.1 hc.2 hgr (opsD_ok hcl h1 he fun q hq e' he' => ⟨q, hq, he', rfl⟩)
        · cases hm
      · cases hm
    · split at hm
      · rename_i r hr
        simp only [Option.some.injEq] at hm
        subst hm
        simp only [cw] at hd
        split at hd
        · cases hd
        · rename_i ps h1
          simp only [Option.map_eq_some_iff] at hd
          obtain ⟨js, h2, h3⟩ := hd
          obtain ⟨e, he, hgr⟩ := hg.reserve _
          refine tree_sound hP hcx rfl (K := fun s => ∃ q ∈ ps, (∀ i, get s.e i = q.1.get i) ∧ s.h = q.2) ?_ hr hgr (planD_ok hcl h1 he fun q hq e' he' => ⟨q, hq, he', rfl⟩)
          rintro s a w ⟨q, hq, h4, h5⟩ hg
          obtain ⟨j, hj, hgj⟩ := joinD_ok h2 hq (⟨s.e, s.b, h4, by rw [← h5]; exact hg⟩ : GoodT ρ0 X w0 fx N q a w)
          subst h3
          exact hQ (.normal j) (by rw [List.mem_map]; exact ⟨j, hj, rfl⟩) a w hgj
      · cases hm
    · simp only [Option.some.injEq] at hm
      subst hm
      simp [cw] at hd
    · cases hm
  | seq x y iha ihb =>
    intro l0 l hm Q p outs hd hQ a w hg
    have key : ∀ {x' y' lx ly : LCode} {p : Pt}, rlC P N x lx = some x' → rlC P N y ly = some y' → andD (cw call mvf fx n0 x' p) (cw call mvf fx n0 y') = some outs → GoodT ρ0 X w0 fx N p a w → (Code.seq x y).wp P Q a w := by
      intro x' y' lx ly p h1 h2 hd hg
      unfold andD at hd
      obtain ⟨os, h3, h4⟩ := bindL_ok hd
      refine wp_seq (iha _ _ h1 _ p os h3 (fun o ho a w h => ?_) a w hg)
      obtain ⟨zs, h5, h6⟩ := h4 o ho
      cases o with
      | normal q => exact ihb _ _ h2 Q q zs h5 (fun o ho => hQ o (h6 o ho)) a w h
      | exit j q =>
        simp only [Option.some.injEq] at h5
        subst h5
        exact hQ _ (h6 _ (by simp)) a w h
      | ret q =>
        simp only [Option.some.injEq] at h5
        subst h5
        exact hQ _ (h6 _ (by simp)) a w h
    simp only [rlC] at hm
    split at hm
    · split at hm
      · rename_i x' y' h1 h2
        simp only [Option.some.injEq] at hm
        subst hm
        exact key h1 h2 hd hg
      · cases hm
    · split at hm
      · rename_i x' y' h1 h2
        simp only [Option.some.injEq] at hm
        subst hm
        simp only [cw] at hd
        split at hd
        · rename_i q hf
          obtain ⟨e, b, he, hgd⟩ := hg
          obtain ⟨s', ⟨g1, g2⟩, hgd'⟩ := frzP_good (K := fun s => (∀ i, get s.e i = q.1.get i) ∧ s.h = q.2) _ _ (frzD_ok (b := b) _ p.1 p.2 e he hf fun e' he' => ⟨he', rfl⟩) hgd
          exact key h1 h2 hd ⟨s'.e, s'.b, g1, by rw [← g2]; exact hgd'⟩
        · cases hd
      · cases hm
    · simp only [Option.some.injEq] at hm
      subst hm
      simp [cw] at hd
    · cases hm
  | cond c x y iha ihb =>
    intro l0 l hm Q p outs hd hQ a w hg
    simp only [rlC] at hm
    split at hm
    · split at hm
      · rename_i x' y' h1 h2
        simp only [Option.some.injEq] at hm
        subst hm
        simp only [cw] at hd
        have hev : ∀ t, evT p.1 c = .v (.bool t) → a.eval c = .bool t := by
          intro t ht
          obtain ⟨e, b, he, ρ, _, ⟨_, hre⟩, _⟩ := hg
          have := ev_rep hre c
          rw [ev_ok he, ht] at this
          exact this
        split at hd
        · rename_i ht
          refine wp_cond (hev _ ht) ?_
          exact iha _ _ h1 Q p outs hd hQ a w hg
        · rename_i ht
          refine wp_cond (hev _ ht) ?_
          exact ihb _ _ h2 Q p outs hd hQ a w hg
        · cases hd
      · cases hm
    · cases hm
  | block i x iha =>
    intro l0 l hm Q p outs hd hQ a w hg
    simp only [rlC] at hm
    split at hm
    · split at hm
      · rename_i x' h1
        simp only [Option.some.injEq] at hm
        subst hm
        simp only [cw, blockD] at hd
        split at hd
        · cases hd
        · rename_i os h2
          split at hd
          · cases hd
          · rename_i ps h3
            simp only [Option.some.injEq] at hd
            subst hd
            have hnorm : ∀ q a w, Out.normal q ∈ os.map (leave i) → GoodT ρ0 X w0 fx N q a w → Q .normal a w := by
              intro q a w hq hgq
              obtain ⟨j, hj, hgj⟩ := joinD_ok h3 (norms_mem hq) hgq
              exact hQ (.normal j) (by simp only [List.mem_append, List.mem_map]; exact .inl ⟨j, hj, rfl⟩) a w hgj
            refine wp_block (iha _ _ h1 _ p os h2 (fun o ho a w h => ?_) a w hg)
            cases o with
            | normal q => exact hnorm q a w (by rw [List.mem_map]; exact ⟨_, ho, rfl⟩) h
            | exit j q =>
              show if j = i then _ else _
              split
              · rename_i hj
                exact hnorm q a w (by rw [List.mem_map]; exact ⟨_, ho, by simp [leave, hj]⟩) h
              · rename_i hj
                exact hQ (.exit j q) (List.mem_append_right _ (others_mem (by rw [List.mem_map]; exact ⟨_, ho, by simp [leave, hj]⟩) (by simp))) a w h
            | ret q => exact hQ (.ret q) (List.mem_append_right _ (others_mem (by rw [List.mem_map]; exact ⟨_, ho, rfl⟩) (by simp))) a w h
      · cases hm
    · cases hm
  | loop x iha =>
    intro l0 l hm Q p outs hd hQ a w hg
    simp only [rlC] at hm
    split at hm
    · split at hm
      · rename_i x' h1
        simp only [Option.some.injEq] at hm
        subst hm
        simp only [cw] at hd
        refine wp_loop_ghost (fun n a w => ∃ q zs, loopD fx n0 (cw call mvf fx n0 x') n q = some zs ∧ (∀ z ∈ zs, z ∈ outs) ∧ GoodT ρ0 X w0 fx N q a w) 3000 ⟨p, outs, hd, fun _ h => h, hg⟩ ?_
        rintro n a' w' ⟨q, zs, h2, h3, hgq⟩
        cases n with
        | zero => simp [loopD] at h2
        | succ n =>
          simp only [loopD, andD] at h2
          split at h2
          rotate_left
          · cases h2
          rename_i qg hqg
          have hgq' := gcD_ok hfn hqg hgq
          obtain ⟨os, h4, h5⟩ := bindL_ok h2
          refine iha _ _ h1 _ qg os h4 (fun o ho a w h => ?_) a' w' hgq'
          obtain ⟨ys, h6, h7⟩ := h5 o ho
          cases o with
          | normal q' => exact ⟨n, Nat.lt_succ_self n, q', ys, h6, fun z hz => h3 z (h7 z hz), h⟩
          | exit j q' =>
            simp only [Option.some.injEq] at h6
            subst h6
            exact hQ _ (h3 _ (h7 _ (by simp))) a w h
          | ret q' =>
            simp only [Option.some.injEq] at h6
            subst h6
            exact hQ _ (h3 _ (h7 _ (by simp))) a w h
      · cases hm
    · cases hm
  | _ => intro l0 l hm; simp [rlC] at hm

theorem resD_ok {p : Pt} {e : Env} (he : ∀ i, get e i = p.1.get i) {K : List V → Prop} : ∀ (ls : List LRes) (acc xs : List V), resD p ls = some xs → K (acc.reverse ++ xs) → resP p.2 e ls acc K
  | [], acc, xs, h, hK => by
    simp only [resD, Option.some.injEq] at h
    subst h
    simpa [resP] using hK
  | .tmp t :: r, acc, xs, h, hK => by
    simp only [resD] at h
    split at h
    · rename_i ys hy
      simp only [Option.some.injEq] at h
      subst h
      simp only [resP, he]
      exact resD_ok he r _ ys hy (by simpa using hK)
    · cases h
  | .cell a n :: r, acc, xs, h, hK => by
    simp only [resD] at h
    split at h
    · rename_i x ys hx hy
      simp only [Option.some.injEq] at h
      subst h
      simp only [resP, he]
      exact load_ok (K := fun x => resP p.2 e r (x :: acc) K) hx (resD_ok he r _ ys hy (by simpa using hK))
    · cases h

theorem argsT_get : ∀ (i : Nat) (xs : List V) (E : Tr) (j : Nat), (argsT i xs E).get j = if i ≤ j ∧ j < i + xs.length then (xs[j - i]?).getD .any else E.get j
  | i, [], E, j => by
    simp only [argsT, List.length_nil, Nat.add_zero]
    rw [if_neg (by omega)]
  | i, x :: r, E, j => by
    simp only [argsT]
    rw [argsT_get (i + 1) r]
    simp only [putT, forceV_eq, List.length_cons]
    rw [Tr.get_put _ _ _ _ _ (Nat.lt_succ_self i)]
    by_cases h : j = i
    · subst h
      rw [if_neg (by omega), if_pos rfl, if_pos (by omega)]
      simp
    · by_cases h2 : i + 1 ≤ j ∧ j < i + 1 + r.length
      · rw [if_pos h2, if_pos (by omega), show j - i = (j - (i + 1)) + 1 by omega]
        simp
      · rw [if_neg h2, if_neg h, if_neg (by omega)]

theorem args_get (xs : List V) (j : Nat) : get (args0 0 xs) j = (argsT 0 xs .lf).get j := by
  rw [args0_get, argsT_get]
  simp only [Nat.zero_le, if_true, Nat.sub_zero, Nat.zero_add, true_and]
  split
  · rfl
  · rename_i h
    have : xs[j]? = none := by simpa using h
    rw [this]
    rfl

/-- FROM A RUN TO A CONTRACT. -/
theorem body_ok (hP : P.follows .mixedOrders = true) {call : CallD} {mvf : FuncId → Bool} (hcall : ∀ f as h0 mv r h', call f as h0 mv = some (r, h') → Callable P f ∧ Fn P f as h0 mv (fun r1 h1 => r1 = r ∧ h1 = h'))
    {f : FuncId} {en : Ent} (hl : rlF P f en.code = some (en.code, en.rs, en.nt)) {args : List V} {h0 : List Blk} {mv : List Nat} {r : V} {h' : List Blk}
    (hd : bodyD call mvf en args h0 mv ((List.range h0.length).filter fun k => !(hasN mv k)) = some (r, h')) : Fn P f args h0 mv (fun r1 h1 => r1 = r ∧ h1 = h') := by
  generalize hfxd : ((List.range h0.length).filter fun k => !(hasN mv k)) = fx at hd
  unfold bodyD at hd
  split at hd
  · rename_i hc
    simp only [Bool.and_eq_true, decide_eq_true_eq] at hc
    split at hd
    · rename_i outs hcw
      unfold rlF at hl
      split at hl
      · rename_i fn hf
        split at hl
        · rename_i c rs' hb hres ht
          simp only [Bool.and_eq_true, Bool.not_eq_true', decide_eq_true_eq] at ht
          cases hm : rlC P fn.ntmps c en.code with
          | none => simp [hm] at hl
          | some l1 =>
            simp only [hm, Option.map_some, Option.some.injEq, Prod.mk.injEq] at hl
            obtain ⟨rfl, hrs, hnt⟩ := hl
            have hfx : keepP fx h0 := keep_of hc.2
            have hmv : ∀ k, k < h0.length → k ∉ mv → k ∈ fx := by
              intro k hk hkm
              rw [← hfxd, List.mem_filter]
              refine ⟨by simpa using hk, ?_⟩
              cases hh : hasN mv k with
              | true => exact absurd (hasN_iff.1 hh) hkm
              | false => rfl
            intro ρ X w vals hr ha
            have hvl := RepL_len ha
            refine calls_of_wp hf hb ?_
            have hg : GoodT ρ X w fx fn.ntmps (argsT 0 args .lf, h0) { tmps := vals.toArray ++ Array.replicate (fn.ntmps - vals.toArray.size) undef, defers := [] } w :=
              ⟨args0 0 args, 0, args_get args, ρ, ⟨⟨Fr.refl _ _, fun _ _ => rfl⟩, hfx⟩, ⟨hr, args0_rep ha _⟩, by simp; omega, rfl⟩
            have hend : ∀ p a w', finD fx h0.length en.rs p = some (r, h') → GoodT ρ X w fx fn.ntmps p a w' → a.defers = [] ∧ ∃ v, (results fn a.tmps).run P w' = .ok v w' ∧ ∃ val r1 h1 ρ', Ending.returned v = .returned val ∧ ((r1 = r ∧ h1 = h') ∧ h0.length ≤ h1.length) ∧ Fr ρ w ρ' w' ∧ Rep ρ' X w' h1 ∧ RepV ρ' X w' r1 val ∧
                ∀ k, k < h0.length → k ∉ mv → ρ' k = ρ k := by
              rintro p a w' hfin ⟨e, b, he, ρ', ⟨⟨hf1, hfx1⟩, hk1⟩, ⟨hr1, he1⟩, hN1, hd1⟩
              unfold finD at hfin
              split at hfin
              · cases hfin
              · rename_i xs hxs
                generalize hL : keepN h0.length p.2 (namesL xs) = L at hfin
                simp only at hfin
                split at hfin
                · rename_i hcc
                  simp only [Bool.and_eq_true] at hcc
                  simp only [Option.some.injEq, Prod.mk.injEq] at hfin
                  obtain ⟨rfl, rfl⟩ := hfin
                  obtain ⟨hn, hlt, hle⟩ := numB_ok hcc.1
                  obtain ⟨ys, vs, h5, h6, h7⟩ := resP_run hr1 he1 (K := fun ys => ys = xs) fn.results.toList rs' [] [] hres trivial (by rw [hrs]; exact resD_ok he _ [] xs hxs rfl)
                  simp only [List.reverse_nil, List.nil_append] at h5
                  subst h5
                  refine ⟨hd1, tupU vs, results_run ht.1 h7, _, _, _, calleeLoc ρ' L, rfl, ⟨⟨rfl, rfl⟩, ?_⟩, hf1.trans gc_fr, gc_rep hr1 hn hlt, gc_val (tup_rep h6), fun k hk hkm => ?_⟩
                  · rw [List.length_map, ← hL]
                    simp [keepN]
                  · rw [callee_at (by rw [← hL]; exact keepN_get hk)]
                    exact hfx1 k (hmv k hk hkm)
                · cases hfin
            have hone : ∀ o ∈ outs, (∃ p, o = .normal p ∨ o = .ret p) ∧ finD fx h0.length en.rs o.pt = some (r, h') := by
              intro o ho
              unfold endD at hd
              split at hd
              · simp only [List.mem_singleton] at ho; subst ho; exact ⟨⟨_, .inl rfl⟩, hd⟩
              · simp only [List.mem_singleton] at ho; subst ho; exact ⟨⟨_, .inr rfl⟩, hd⟩
              · cases hd
            refine cw_sound (P := P) (ρ0 := ρ) (X := X) (w0 := w) (fx := fx) (N := fn.ntmps) hP (n0 := h0.length) (fun k hk => by rw [← hfxd, List.mem_filter] at hk; simpa using hk.1) hcall c _ _ hm _ _ outs hcw (fun o ho a w' hgd => ?_) _ _ hg
            obtain ⟨⟨p, hp⟩, hfin⟩ := hone o ho
            rcases hp with rfl | rfl
            · exact hend p a w' hfin hgd
            · exact hend p a w' hfin hgd
        · cases hl
      · cases hl
    · cases hd
  · cases hd

theorem findM_ok {f : FuncId} {as : List V} {h0 : List Blk} {r : V} {h : List Blk} : ∀ {M : List Memo}, findM f as h0 M = some (r, h) → ∃ m ∈ M, m.f = f ∧ m.as = as ∧ m.h0 = h0 ∧ m.r = r ∧ m.h = h
  | [], hf => by simp [findM] at hf
  | m :: l, hf => by
    simp only [findM] at hf
    split at hf
    · rename_i hc
      simp only [Bool.and_eq_true, Nat.beq_eq] at hc
      simp only [Option.some.injEq, Prod.mk.injEq] at hf
      exact ⟨m, by simp, hc.1, eqL_ok hc.2.1, eqBs_ok hc.2.2, hf.1, hf.2⟩
    · obtain ⟨m', h1, h2⟩ := findM_ok hf
      exact ⟨m', by simp [h1], h2⟩

/-- The table is the program's. -/
def okL (P : Program) : Nat → List (Option Ent) → Prop
  | _, [] => True
  | i, none :: r => okL P (i + 1) r
  | i, some en :: r => rlF P i en.code = some (en.code, en.rs, en.nt) ∧ okL P (i + 1) r
theorem okL_get : ∀ {T : List (Option Ent)} {i : Nat}, okL P i T → ∀ (f : Nat) (en : Ent), T[f]? = some (some en) → rlF P (i + f) en.code = some (en.code, en.rs, en.nt)
  | none :: r, i, h, 0, en, he => by simp at he
  | some e :: r, i, h, 0, en, he => by
    simp only [List.getElem?_cons_zero, Option.some.injEq] at he
    subst he
    exact h.1
  | none :: r, i, h, f + 1, en, he => by
    have := okL_get (i := i + 1) h f en (by simpa using he)
    rwa [show i + (f + 1) = i + 1 + f by omega]
  | some e :: r, i, h, f + 1, en, he => by
    have := okL_get (i := i + 1) h.2 f en (by simpa using he)
    rwa [show i + (f + 1) = i + 1 + f by omega]
  | [], _, _, _, _, he => by simp at he

/-- A memo is true. -/
def Memo.ok (P : Program) (m : Memo) : Prop := Callable P m.f ∧ Fn P m.f m.as m.h0 [] (fun r h => r = m.r ∧ h = m.h)

theorem fnD_ok (hP : P.follows .mixedOrders = true) {T : List (Option Ent)} (hT : okL P 0 T) {M : List Memo} (hM : ∀ m ∈ M, m.ok P) : ∀ (d : Nat) (f : FuncId) (as : List V) (h0 : List Blk) (mv : List Nat) (r : V) (h' : List Blk),
    fnD T M d f as h0 mv = some (r, h') → Callable P f ∧ Fn P f as h0 mv (fun r1 h1 => r1 = r ∧ h1 = h')
  | 0, _, _, _, _, _, _, h => by simp [fnD] at h
  | d + 1, f, as, h0, mv, r, h', h => by
    simp only [fnD] at h
    split at h
    · rename_i x hx
      simp only [Option.some.injEq] at h
      subst h
      split at hx
      · rename_i hmv
        have hmv' : mv = [] := by simpa using hmv
        subst hmv'
        obtain ⟨m, h1, rfl, rfl, rfl, rfl, rfl⟩ := findM_ok hx
        exact hM m h1
      · cases hx
    · split at h
      · rename_i en hen
        have hl := okL_get hT f en hen
        rw [Nat.zero_add] at hl
        exact ⟨rlF_callable hl, body_ok hP (fun f as h0 mv r h' h => fnD_ok hP hT hM d f as h0 mv r h' h) hl h⟩
      · cases h
end
end Go.Fx
