import Derived.Test.YtcchjpjkhaomeaaFxRun
set_option linter.unusedVariables false
set_option linter.unusedSimpArgs false
set_option linter.unusedSectionVars false
open Option.some renaming injEq → yA
open Bool renaming and_eq_true → yB
open List renaming mem_map → yC, mem_singleton_self → yD, mem_cons → yF, all_eq_true → yG, mem_append_right → yI, mem_singleton → yK, getElem?_map → yL, mem_append_left → yN, mem_cons_of_mem → yO, getElem?_eq_some_iff → yP
open Option renaming map_eq_some_iff → yE
open Nat renaming lt_succ_self → yH, zero_add → yM
open Prod.mk renaming injEq → yJ
namespace Go.Fx
open Go.RowKit
theorem get_app_r : ∀ {a b : Env} {i : Nat}, (∀ p ∈ a, p.1 ≠ i) → get (a ++ b) i = get b i
 | [], _, _, _ => rfl
 | (j, x) :: r, b, i, h => by
  have hj : j ≠ i := h (j, x) (by simp)
  show (if i = j then x else get (r ++ b) i) = _
  rw [if_neg (Ne.symm hj)]
  exact get_app_r fun p hp => h p (by simp [hp])
theorem get_none : ∀ {a : Env} {i : Nat}, (∀ p ∈ a, p.1 ≠ i) → get a i = .any
 | [], _, _ => rfl
 | (j, x) :: r, i, h => by
  have hj : j ≠ i := h (j, x) (by simp)
  show (if i = j then x else get r i) = _
  rw [if_neg (Ne.symm hj)]
  exact get_none fun p hp => h p (by simp [hp])
theorem get_app_l : ∀ {a b : Env} {i : Nat}, (∀ p ∈ b, p.1 ≠ i) → get (a ++ b) i = get a i
 | [], b, i, h => get_none h
 | (j, x) :: r, b, i, h => by
  show (if i = j then x else get (r ++ b) i) = (if i = j then x else get r i)
  rw [get_app_l h]
theorem get_mapf {f : Nat → Nat} (hf : ∀ i j, f i = f j → i = j) : ∀ (a : Env) (i : Nat), get (a.map fun p => (f p.1, p.2)) (f i) = get a i
 | [], _ => rfl
 | (j, x) :: r, i => by
  show (if f i = f j then x else get (r.map fun p => (f p.1, p.2)) (f i)) = (if i = j then x else get r i)
  rw [get_mapf hf r i]
  by_cases h : i = j
  ·subst h; simp
  ·rw [if_neg h, if_neg fun e => h (hf _ _ e)]
theorem toEnv_get : ∀ (E : Tr) (i : Nat), get E.toEnv i = E.get i
 | .lf, _ => rfl
 | .nd v l r, 0 => rfl
 | .nd v l r, j + 1 => by
  show (if j + 1 = 0 then v else get (l.toEnv.map (fun p => (2 * p.1 + 1, p.2)) ++ r.toEnv.map (fun p => (2 * p.1 + 2, p.2))) (j + 1)) = _
  rw [if_neg (by omega)]
  simp only [Tr.get]
  split
  ·rename_i hj
   rw [get_app_l (by rintro p hp; obtain ⟨q, _, rfl⟩ := yC.1 hp; simp; omega), show j + 1 = 2 * (j / 2) + 1 by omega, get_mapf (f := fun i => 2 * i + 1) (by intros; simp at *; omega)]
   exact toEnv_get l _
  ·rename_i hj
   rw [get_app_r (by rintro p hp; obtain ⟨q, _, rfl⟩ := yC.1 hp; simp; omega), show j + 1 = 2 * (j / 2) + 2 by omega, get_mapf (f := fun i => 2 * i + 2) (by intros; simp at *; omega)]
   exact toEnv_get r _
mutual
theorem wfVB_ok {h : List Blk} : ∀ x : V, wfVB h x = true → wfV h x
 | .sl k _ _, hx => live_of (by simpa [wfVB] using hx)
 | .ptr k _ _, hx => live_of (by simpa [wfVB] using hx)
 | .mp k, hx => live_of (by simpa [wfVB] using hx)
 | .itr k, hx => live_of (by simpa [wfVB] using hx)
 | .agg cs, hx => wfLB_ok cs (by simpa [wfVB] using hx)
 | .tup cs, hx => wfLB_ok cs (by simpa [wfVB] using hx)
 | .clo _ cs, hx => wfLB_ok cs (by simpa [wfVB] using hx)
 | .any, _ | .v _, _ | .ro _ _, _ | .bro _ _, _ | .full _ _, _ | .rp _ _ _ _, _ => by simp [wfV]
theorem wfLB_ok {h : List Blk} : ∀ xs : List V, wfLB h xs = true → wfL h xs
 | [], _ => trivial
 | x :: r, hx => by
  simp only [wfLB, yB] at hx
  exact ⟨wfVB_ok x hx.1, wfLB_ok r hx.2⟩
end
theorem wfEB_ok {h : List Blk} : ∀ e : Env, wfEB h e = true → wfE h e
 | [], _ => trivial
 | (_, x) :: r, hx => by
  simp only [wfEB, yB] at hx
  exact ⟨wfVB_ok x hx.1, wfEB_ok r hx.2⟩
theorem wfBB_ok {h : List Blk} : ∀ l : List Blk, wfBB h l = true → wfB h l
 | [], _ => trivial
 | .var cs :: r, hx => by simp only [wfBB, yB] at hx; exact ⟨wfLB_ok _ hx.1, wfBB_ok r hx.2⟩
 | .dead :: r, hx => wfBB_ok r (by simpa [wfBB] using hx)
 | .arr _ _ :: r, hx => wfBB_ok r (by simpa [wfBB] using hx)
 | .arv _ els :: r, hx => by simp only [wfBB, yB] at hx; exact ⟨wfLB_ok _ hx.1, wfBB_ok r hx.2⟩
 | .map es _ :: r, hx => by simp only [wfBB, yB] at hx; exact ⟨wfLB_ok _ hx.1, wfBB_ok r hx.2⟩
 | .it m _ _ _ :: r, hx => by simp only [wfBB, yB] at hx; exact ⟨wfVB_ok _ hx.1, wfBB_ok r hx.2⟩
 | .rcd _ e :: r, hx => by simp only [wfBB, yB] at hx; exact ⟨wfEB_ok _ hx.1, wfBB_ok r hx.2⟩
theorem Tr.wf_ok {h : List Blk} : ∀ (E : Tr), E.wf h = true → ∀ i, wfV h (E.get i)
 | .lf, _, _ => trivial
 | .nd v l r, hx, i => by
  simp only [Tr.wf, yB] at hx
  cases i with
  | zero => exact wfVB_ok v hx.1
  | succ j =>
   simp only [Tr.get]
   split
   ·exact Tr.wf_ok l hx.2.1 _
   ·exact Tr.wf_ok r hx.2.2 _
theorem leTB_ok : ∀ (E E' : Tr), leTB E E' = true → ∀ i, E'.get i = .any ∨ E'.get i = E.get i
 | _, .lf, _, i => .inl rfl
 | .nd v l r, .nd v' l' r', h, i => by
  simp only [leTB, yB] at h
  cases i with
  | zero =>
   show v' = .any ∨ v' = v
   have h1 := h.1.1
   split at h1
   ·exact .inl rfl
   ·exact .inr (eqV_ok h1).symm
  | succ j =>
   simp only [Tr.get]
   split
   ·exact leTB_ok l l' h.1.2 _
   ·exact leTB_ok r r' h.2 _
 | .lf, .nd v' l' r', h, i => by
  simp only [leTB, yB] at h
  cases i with
  | zero =>
   show v' = .any ∨ v' = .any
   have h1 := h.1.1
   split at h1
   ·exact .inl rfl
   ·cases h1
  | succ j =>
   simp only [Tr.get]
   split
   ·exact leTB_ok .lf l' h.1.2 _
   ·exact leTB_ok .lf r' h.2 _
theorem leVsB_ok : ∀ {xs ys : List V}, leVsB xs ys = true → leVs xs ys
 | [], [], _ => trivial
 | x :: xs, y :: ys, h => by
  simp only [leVsB, yB] at h
  refine ⟨?_, leVsB_ok h.2⟩
  have h1 := h.1
  unfold leV
  split at h1
  ·trivial
  ·have := eqV_ok h1
   subst this
   split <;> trivial
 | [], _ :: _, h => by simp [leVsB] at h
 | _ :: _, [], h => by simp [leVsB] at h
theorem leBB_ok {b c : Blk} (h : leBB b c = true) : leB b c := by
 unfold leBB at h
 unfold leB
 split at h
 ·trivial
 ·split at h
  ·exact leVsB_ok h
  ·cases h
 ·split
  ·trivial
  ·rename_i hne; exact (hne _ rfl).elim
  ·have := eqB_ok h
   subst this
   exact ⟨rfl, .inl rfl⟩
  ·exact eqB_ok h
theorem leHB_ok : ∀ {h p : List Blk}, leHB h p = true → leH h p
 | _, [], _ => by unfold leH; trivial
 | b :: h, c :: p, hx => by
  simp only [leHB, yB] at hx
  exact ⟨leBB_ok hx.1, leHB_ok hx.2⟩
 | [], _ :: _, hx => by simp [leHB] at hx
section
variable {P : Program} {ρ0 : Nat → Loc} {X : Nat → Prop} {w0 : World} {fx : List Nat} {N : Nat}
def GoodT (ρ0 : Nat → Loc) (X : Nat → Prop) (w0 : World) (fx : List Nat) (N : Nat) (p : Pt) (a : Act) (w : World) : Prop :=
 ∃ e b, (∀ i, get e i = p.1.get i) ∧ Good ρ0 X w0 fx N ⟨e, p.2, b⟩ a w
theorem GoodT.le {p q : Pt} {a : Act} {w : World} (hE : ∀ i, q.1.get i = .any ∨ q.1.get i = p.1.get i) (l2 : leH p.2 q.2) (l3 : keepP fx q.2) (l4 : ∀ i, wfV q.2 (q.1.get i)) (l5 : wfB q.2 q.2) (h : GoodT ρ0 X w0 fx N p a w) : GoodT ρ0 X w0 fx N q a w := by
 obtain ⟨e, b, he, ρ, ⟨⟨hf, h1⟩, hk⟩, ⟨hr, hre⟩, h5, h6⟩ := h
 refine ⟨q.1.toEnv, 0, toEnv_get _, dropLoc ρ q.2, ⟨⟨hf.trans drop_fr, fun k hk' => by rw [live_loc (keepP_get l3 k hk')]; exact h1 k hk'⟩, l3⟩, ⟨dropRep hr l2 l5, fun i => ?_⟩, h5, h6.fr drop_fr⟩
 rw [toEnv_get]
 rcases hE i with hg | hg
 ·rw [hg]; trivial
 ·exact drop_rep _ _ (l4 i) (by rw [hg, ← he]; exact hre i)
theorem joinD_ok {outs ps : List Pt} (h : joinD fx outs = some ps) {q : Pt} (hq : q ∈ outs) {a : Act} {w : World} (hg : GoodT ρ0 X w0 fx N q a w) : ∃ p ∈ ps, GoodT ρ0 X w0 fx N p a w := by
 unfold joinD at h
 split at h
 ·simp at hq
 ·simp only [yA] at h
  subst h
  exact ⟨q, hq, hg⟩
 ·simp only at h
  split at h
  ·rename_i hc
   simp only [yA] at h
   subst h
   simp only [yB, yG] at hc
   obtain ⟨h1, h2, h3, h4⟩ := hc
   obtain ⟨h5, h6⟩ := h1 q hq
   exact ⟨_, yD _, hg.le (leTB_ok _ _ h5) (leHB_ok h6) (keep_of h2) (Tr.wf_ok _ h3) (wfBB_ok _ h4)⟩
  ·cases h
theorem goL_ok {α β : Type} {f : α → Option (List β)} : ∀ {xs : List α} {ys : List β}, goL f xs = some ys → ∀ x ∈ xs, ∃ zs, f x = some zs ∧ ∀ z ∈ zs, z ∈ ys
 | [], _, _, x, hx => by simp at hx
 | [y], ys, h, x, hx => by
  simp only [yK] at hx
  subst hx
  exact ⟨ys, h, fun _ h => h⟩
 | y :: y2 :: r, ys, h, x, hx => by
  simp only [goL] at h
  split at h
  ·rename_i a b h1 h2
   simp only [yA] at h
   subst h
   rcases yF.1 hx with rfl | hx
   ·exact ⟨a, h1, fun z hz => yN _ hz⟩
   ·obtain ⟨zs, h3, h4⟩ := goL_ok h2 x hx
    exact ⟨zs, h3, fun z hz => yI _ (h4 z hz)⟩
  ·cases h
theorem bindL_ok {α β : Type} {l : Option (List α)} {f : α → Option (List β)} {ys : List β} (h : bindL l f = some ys) : ∃ xs, l = some xs ∧ ∀ x ∈ xs, ∃ zs, f x = some zs ∧ ∀ z ∈ zs, z ∈ ys := by
 unfold bindL at h
 split at h
 ·cases h
 ·exact ⟨_, rfl, goL_ok h⟩
def AT (b : Nat) (q : Pt) (K : St → Prop) : Prop := ∀ e, (∀ i, get e i = q.1.get i) → K ⟨e, q.2, b⟩
def YdOk (y : Nat → YtD) (yy : Nat → Yt) : Prop := ∀ (k : Nat) (xs : List V) (s : St) (E : Tr) (rs : List (V × Pt)) (Z : V → St → Prop), (∀ i, get s.e i = E.get i) → y k xs (E, s.h) = some rs → (∀ r ∈ rs, AT s.b r.2 (Z r.1)) → yy k xs s Z
section
variable {C : Ctr} {it : Itr} {yy : Nat → Yt} {rk : Option Nat} {call : CallD} {mvf : FuncId → Option Nat} (hcall : ∀ f zas h0 mv r h', call f zas h0 mv = some (r, h') → C f zas h0 mv (fun r1 h1 => r1 = r ∧ h1 = h'))
include hcall
theorem putT_get {E : Tr} {e : Env} (he : ∀ i, get e i = E.get i) (d : Option Nat) (x : V) (h : List Blk) (b : Nat) : ∀ i, get ((⟨e, h, b⟩ : St).put d x).e i = (putT E d x).get i := by
 intro i
 cases d with
 | none => exact he i
 | some d =>
  simp only [putT, forceV_eq]
  rw [Tr.get_put _ _ _ _ _ (yH d)]
  show (if i = d then x else get e i) = _
  rw [he]
theorem runD_ok {bn : List Nat} {o : LOper} {b : Nat} {p : Pt} {outs : List Pt} (h : runD call mvf fx bn o b p = some outs) {e : Env} (he : ∀ i, get e i = p.1.get i) {K : St → Prop}
  (hK : ∀ q ∈ outs, ∀ e', (∀ i, get e' i = q.1.get i) → K ⟨e', q.2, b⟩) : aOp { C := C, fx := fx, bn := bn, it := it, y := yy, rk := rk } o.op ⟨e, p.2, b⟩ fun x s' => K (s'.put o.dst x) := by
 unfold runD at h
 split at h
 ·cases h
 ·rename_i rs hrs
  simp only [yA] at h
  subst h
  refine opD_ok hcall he hrs fun r hr e' he' => ?_
  have := hK (putT r.E o.dst r.x, r.h) (by rw [yC]; exact ⟨r, hr, rfl⟩) ((⟨e', r.h, b⟩ : St).put o.dst r.x).e (putT_get hcall he' _ _ _ _)
  cases hd : o.dst with
  | none => rw [hd] at this; exact this
  | some d => rw [hd] at this; exact this
theorem operD_ok {bn : List Nat} {o : LOper} {b : Nat} {p : Pt} {outs : List Pt} (h : operD call mvf fx bn o b p = some outs) {e : Env} (he : ∀ i, get e i = p.1.get i) {K : St → Prop}
  (hK : ∀ q ∈ outs, ∀ e', (∀ i, get e' i = q.1.get i) → K ⟨e', q.2, b⟩) : aOper { C := C, fx := fx, bn := bn, it := it, y := yy, rk := rk } o ⟨e, p.2, b⟩ K := by
 unfold operD at h
 unfold aOper
 split at h
 ·rename_i hg
  rw [hg]
  exact runD_ok hcall h he hK
 ·rename_i g want hg
  rw [hg]
  have hge := he g
  show guardP (get e g) want _ _ _
  split at h
  ·rename_i t ht
   rw [hge, ht]
   have hput : ∀ v : Bool, v = t → ∀ i, get ((g, V.b v) :: e) i = p.1.get i := by
    intro v hv i
    subst hv
    show (if i = g then V.b v else get e i) = _
    by_cases hi : i = g
    ·rw [if_pos hi, hi, ht]
    ·rw [if_neg hi, he]
   have hskip : ∀ v : Bool, v = t → ∀ {outs : List Pt}, some [(putT p.1 o.dst (.v (.tuple #[])), p.2)] = some outs → (∀ q ∈ outs, ∀ e', (∀ i, get e' i = q.1.get i) → K ⟨e', q.2, b⟩) →
     K (((⟨e, p.2, b⟩ : St).put (some g) (.b v)).put o.dst (.v (.tuple #[]))) := by
    intro v hv outs ho hK
    simp only [yA] at ho
    subst ho
    have := hK _ (yD _) ((⟨(g, V.b v) :: e, p.2, b⟩ : St).put o.dst (.v (.tuple #[]))).e (putT_get hcall (hput v hv) _ _ _ _)
    cases hd : o.dst with
    | none => rw [hd] at this; exact this
    | some d => rw [hd] at this; exact this
   split at h
   ·rename_i htw
    subst htw
    have := runD_ok (it := it) (yy := yy) (rk := rk) hcall h (hput t rfl) hK
    cases t with
    | true => exact ⟨fun _ => this, fun h => by cases h⟩
    | false => exact ⟨fun h => (by cases h), fun _ => this⟩
   ·rename_i htw
    have hn : (!want) = t := by cases t <;> cases want <;> simp_all
    have := hskip (!want) hn h hK
    cases t with
    | true => cases want with
     | true => exact absurd rfl htw
     | false => exact ⟨fun _ => this, fun h => by cases h⟩
    | false => cases want with
     | true => exact ⟨fun h => (by cases h), fun _ => this⟩
     | false => exact absurd rfl htw
  ·rename_i u ht
   rw [hge, ht]
   simp only [yA] at h
   subst h
   have := hK _ (yD _) ((⟨e, p.2, b⟩ : St).put o.dst (.v (.tuple #[]))).e (putT_get hcall he _ _ _ _)
   show K ((⟨e, p.2, b⟩ : St).put o.dst (.v (.tuple #[])))
   cases hd : o.dst with
   | none => rw [hd] at this; exact this
   | some d => rw [hd] at this; exact this
  ·cases h
theorem opsD_ok {b : Nat} {K : St → Prop} : ∀ {ls : List LOper} {p : Pt} {outs : List Pt}, opsD call mvf fx b ls p = some outs → ∀ {e : Env}, (∀ i, get e i = p.1.get i) →
  (∀ q ∈ outs, ∀ e', (∀ i, get e' i = q.1.get i) → K ⟨e', q.2, b⟩) → aOps { C := C, fx := fx, bn := [], it := it, y := yy, rk := rk } ls ⟨e, p.2, b⟩ K
 | [], p, outs, h, e, he, hK => by
  simp only [opsD, yA] at h
  subst h
  exact hK _ (yD _) e he
 | o :: r, p, outs, h, e, he, hK => by
  simp only [opsD] at h
  obtain ⟨xs, h1, h2⟩ := bindL_ok h
  refine operD_ok hcall h1 he fun q hq e' he' => ?_
  obtain ⟨zs, h3, h4⟩ := h2 q hq
  exact opsD_ok h3 he' fun z hz => hK z (h4 z hz)
theorem yldD_ok {y : Nat → YtD} (hy : YdOk y yy) {d : Option Nat} {f : Operand} {xs : List Operand} {p : Pt} {outs : List Pt} (h : yldD y d f xs p = some outs) {e : Env} (he : ∀ i, get e i = p.1.get i) {b : Nat} {K : St → Prop}
  (hK : ∀ q ∈ outs, ∀ e', (∀ i, get e' i = q.1.get i) → K ⟨e', q.2, b⟩) : yieldP { C := C, fx := fx, bn := [], it := it, y := yy, rk := rk } f xs ⟨e, p.2, b⟩ fun x s' => K (s'.put d x) := by
 unfold yldD at h
 unfold yieldP
 rw [ev_ok he]
 split at h
 ·rename_i k hk
  rw [hk]
  split at h
  ·rename_i rs hrs
   simp only [yA] at h
   subst h
   have hm : xs.map (ev e) = xs.map (evT p.1) := List.map_congr_left fun x _ => ev_ok he x
   show yy k (xs.map (ev e)) _ _
   rw [hm]
   refine hy k _ _ p.1 rs _ he hrs fun r hr e' he' => ?_
   have := hK (putT r.2.1 d r.1, r.2.2) (by rw [yC]; exact ⟨r, hr, rfl⟩) ((⟨e', r.2.2, b⟩ : St).put d r.1).e (putT_get hcall he' _ _ _ _)
   cases d with
   | none => exact this
   | some d => exact this
  ·cases h
 ·cases h
theorem operYD_ok {y : Nat → YtD} (hy : YdOk y yy) {o : LOper} {b : Nat} {p : Pt} {outs : List Pt} (h : operYD call mvf fx y o b p = some outs) {e : Env} (he : ∀ i, get e i = p.1.get i) {K : St → Prop}
  (hK : ∀ q ∈ outs, ∀ e', (∀ i, get e' i = q.1.get i) → K ⟨e', q.2, b⟩) : aOperY { C := C, fx := fx, bn := [], it := it, y := yy, rk := rk } o ⟨e, p.2, b⟩ K := by
 unfold operYD at h
 unfold aOperY
 split at h
 ·rename_i f xs ho
  rw [ho]
  show gP o.g o.dst (yieldP _ f xs) ⟨e, p.2, b⟩ K
  unfold gP
  split at h
  ·rename_i hg
   rw [hg]
   exact yldD_ok hcall hy h he hK
  ·rename_i g want hg
   rw [hg]
   have hge := he g
   show guardP (get e g) want _ _ _
   split at h
   ·rename_i t ht
    rw [hge, ht]
    have hput : ∀ v : Bool, v = t → ∀ i, get ((g, V.b v) :: e) i = p.1.get i := by
     intro v hv i
     subst hv
     show (if i = g then V.b v else get e i) = _
     by_cases hi : i = g
     ·rw [if_pos hi, hi, ht]
     ·rw [if_neg hi, he]
    have hskip : ∀ v : Bool, v = t → ∀ {outs : List Pt}, some [(putT p.1 o.dst (.v (.tuple #[])), p.2)] = some outs → (∀ q ∈ outs, ∀ e', (∀ i, get e' i = q.1.get i) → K ⟨e', q.2, b⟩) →
      K (((⟨e, p.2, b⟩ : St).put (some g) (.b v)).put o.dst (.v (.tuple #[]))) := by
     intro v hv outs ho hK
     simp only [yA] at ho
     subst ho
     have := hK _ (yD _) ((⟨(g, V.b v) :: e, p.2, b⟩ : St).put o.dst (.v (.tuple #[]))).e (putT_get hcall (hput v hv) _ _ _ _)
     cases hd : o.dst with
     | none => rw [hd] at this; exact this
     | some d => rw [hd] at this; exact this
    split at h
    ·rename_i htw
     subst htw
     have := yldD_ok (C := C) (it := it) (rk := rk) (fx := fx) hcall hy h (hput t rfl) hK
     cases t with
     | true => exact ⟨fun _ => this, fun h => by cases h⟩
     | false => exact ⟨fun h => (by cases h), fun _ => this⟩
    ·rename_i htw
     have hn : (!want) = t := by cases t <;> cases want <;> simp_all
     have := hskip (!want) hn h hK
     cases t with
     | true => cases want with
      | true => exact absurd rfl htw
      | false => exact ⟨fun _ => this, fun h => by cases h⟩
     | false => cases want with
      | true => exact ⟨fun h => (by cases h), fun _ => this⟩
      | false => exact absurd rfl htw
   ·rename_i u ht
    rw [hge, ht]
    simp only [yA] at h
    subst h
    have := hK _ (yD _) ((⟨e, p.2, b⟩ : St).put o.dst (.v (.tuple #[]))).e (putT_get hcall he _ _ _ _)
    show K ((⟨e, p.2, b⟩ : St).put o.dst (.v (.tuple #[])))
    cases hd : o.dst with
    | none => rw [hd] at this; exact this
    | some d => rw [hd] at this; exact this
   ·cases h
 ·rename_i hne
  split
  ·rename_i f xs ho; exact absurd ho (hne f xs)
  ·exact operD_ok hcall h he hK
theorem opsYD_ok {y : Nat → YtD} (hy : YdOk y yy) {b : Nat} {K : St → Prop} : ∀ {ls : List LOper} {p : Pt} {outs : List Pt}, opsYD call mvf fx y b ls p = some outs → ∀ {e : Env}, (∀ i, get e i = p.1.get i) →
  (∀ q ∈ outs, ∀ e', (∀ i, get e' i = q.1.get i) → K ⟨e', q.2, b⟩) → aOpsY { C := C, fx := fx, bn := [], it := it, y := yy, rk := rk } ls ⟨e, p.2, b⟩ K
 | [], p, outs, h, e, he, hK => by
  simp only [opsYD, yA] at h
  subst h
  exact hK _ (yD _) e he
 | o :: r, p, outs, h, e, he, hK => by
  simp only [opsYD] at h
  obtain ⟨xs, h1, h2⟩ := bindL_ok h
  refine operYD_ok hcall hy h1 he fun q hq e' he' => ?_
  obtain ⟨zs, h3, h4⟩ := h2 q hq
  exact opsYD_ok hy h3 he' fun z hz => hK z (h4 z hz)
theorem planD_ok {b : Nat} {K : St → Prop} : ∀ {l : LPlan} {bn : List Nat} {p : Pt} {outs : List Pt}, planD call mvf fx b l bn p = some outs → ∀ {e : Env}, (∀ i, get e i = p.1.get i) →
  (∀ q ∈ outs, ∀ e', (∀ i, get e' i = q.1.get i) → K ⟨e', q.2, b⟩) → awP { C := C, fx := fx, bn := [], it := it, y := yy, rk := rk } l bn K ⟨e, p.2, b⟩
 | .done, bn, p, outs, h, e, he, hK => by
  simp only [planD, yA] at h
  subst h
  exact hK _ (yD _) e he
 | .take i D o q, bn, p, outs, h, e, he, hK => by
  simp only [planD] at h
  obtain ⟨xs, h1, h2⟩ := bindL_ok h
  refine operD_ok hcall h1 he fun q' hq e' he' => ?_
  obtain ⟨zs, h3, h4⟩ := h2 q' hq
  have hrd : rdB o.op e bn = rdT o.op p.1 bn := by
   unfold rdB rdT
   cases o.op with
   | load n a => simp only [ev_ok he]; cases evT p.1 a <;> rfl
   | _ => rfl
  show awP _ q (rdB o.op e bn) K _
  rw [hrd]
  exact planD_ok h3 he' fun z hz => hK z (h4 z hz)
 | .alt i o r q q', bn, p, outs, h, e, he, hK => by
  simp only [planD] at h
  split at h
  ·rename_i x y h1 h2
   simp only [yA] at h
   subst h
   obtain ⟨xs, h3, h4⟩ := bindL_ok h1
   refine ⟨operD_ok hcall h3 he fun q' hq e' he' => ?_, planD_ok h2 he fun z hz => hK z (yI _ hz)⟩
   obtain ⟨zs, h5, h6⟩ := h4 q' hq
   exact planD_ok h5 he' fun z hz => hK z (yN _ (h6 z hz))
  ·cases h
 | .none, bn, p, outs, h, e, he, hK => trivial
end
def Out.ex : Out → Exit
 | .normal _ => .normal
 | .exit j _ => .exit j
 | .ret _ => .ret
def Out.pt : Out → Pt
 | .normal p => p
 | .exit _ p => p
 | .ret p => p
theorem GoodT.reserve {p : Pt} {a : Act} {w : World} (n : Nat) (h : GoodT ρ0 X w0 fx N p a w) : ∃ e, (∀ i, get e i = p.1.get i) ∧ Good ρ0 X w0 fx N ⟨e, roomD n p.2, p.2.length⟩ a w := by
 obtain ⟨e, b, he, hg⟩ := h
 refine ⟨e, he, ?_⟩
 have := hg.reserve n p.2.length
 cases n with
 | zero => simpa [roomD] using this
 | succ n => exact this
theorem others_mem {o : Out} : ∀ {l : List Out}, o ∈ l → (∀ p, o ≠ .normal p) → o ∈ others l
 | [], h, _ => by simp at h
 | x :: r, h, hn => by
  rcases yF.1 h with rfl | h'
  ·cases o with
   | normal p => exact (hn p rfl).elim
   | _ => simp [others]
  ·clear h
   have ih := others_mem h' hn
   cases x with
   | normal p => exact ih
   | _ => simp only [others]; exact yO _ ih
theorem norms_mem {p : Pt} : ∀ {l : List Out}, Out.normal p ∈ l → p ∈ norms l
 | [], h => by simp at h
 | x :: r, h => by
  rcases yF.1 h with rfl | h'
  ·simp [norms]
  ·clear h
   have ih := norms_mem h'
   cases x with
   | normal p => simp only [norms]; exact yO _ ih
   | _ => exact ih
theorem Tr.get_ren (g : Nat → Option Nat) : ∀ (t : Tr) (i : Nat), (t.ren g).get i = renK g (t.get i)
 | .lf, _ => by simp [Tr.ren, Tr.get, renK]
 | .nd v l r, i => by
  cases i with
  | zero => rfl
  | succ j =>
   simp only [Tr.ren, Tr.get]
   split
   ·exact Tr.get_ren g l _
   ·exact Tr.get_ren g r _
mutual
theorem renK_rep {w : World} {ρ1 ρ2 : Nat → Loc} {g : Nat → Option Nat} (hS : ∀ b, Sta ρ1 X w b → Sta ρ2 X w b) (hL : ∀ b, Len ρ1 w b → Len ρ2 w b) (hg : ∀ k j, g k = some j → (ρ1 k).real = true → ρ2 j = ρ1 k) :
  ∀ (x : V) (val : Value), RepV ρ1 X w x val → RepV ρ2 X w (renK g x) val
 | .any, _, _ => trivial
 | .v _, _, hx => hx
 | .ro sz els, val, hx => RepD_mono (fun b hb => ⟨hS b hb, rfl⟩) (.ro sz els) val hx
 | .bro sz els, val, hx => by
  obtain ⟨a, len, cap, h1, h2, h3, h4, h5⟩ := hx
  refine ⟨a, len, cap, h1, h2, h3, h4, h5.imp id ?_⟩
  rintro ⟨b, off, h6, h7, h8⟩
  exact ⟨b, off, h6, hL b h7, RepEls_mono (fun b hb => ⟨hS b hb, rfl⟩) sz b rfl off els h8⟩
 | .full sz els, val, hx => by
  obtain ⟨a, len, h1, h2, h4, h5⟩ := hx
  refine ⟨a, len, h1, h2, h4, h5.imp id ?_⟩
  rintro ⟨b, off, h6, h7, h8⟩
  exact ⟨b, off, h6, hL b h7, RepEls_mono (fun b hb => ⟨hS b hb, rfl⟩) sz b rfl off els h8⟩
 | .rp sz els i f, val, hx => by
  obtain ⟨b, off, h6, h7, h8⟩ := hx
  exact ⟨b, off, h6, hL b h7, RepEls_mono (fun b hb => ⟨hS b hb, rfl⟩) sz b rfl off els h8⟩
 | .itr k, val, hx => by
  simp only [renK]
  split
  ·rename_i j hj
   obtain ⟨h4, h5⟩ := hx
   simp only [RepV]
   rw [hg k j hj h4]
   exact ⟨h4, h5⟩
  ·trivial
 | .sl k i n, val, hx => by
  simp only [renK]
  split
  ·rename_i j hj
   obtain ⟨cap, h1, h2, h3⟩ := hx
   refine ⟨cap, h1, h2, h3.imp id ?_⟩
   rintro ⟨h4, h5⟩
   rw [hg k j hj h4]
   exact ⟨h4, h5⟩
  ·trivial
 | .ptr k i f, val, hx => by
  simp only [renK]
  split
  ·rename_i j hj
   obtain ⟨h4, h5⟩ := hx
   simp only [RepV]
   rw [hg k j hj h4]
   exact ⟨h4, h5⟩
  ·trivial
 | .mp k, val, hx => by
  simp only [renK]
  split
  ·rename_i j hj
   obtain ⟨h4, h5⟩ := hx
   simp only [RepV]
   rw [hg k j hj h4]
   exact ⟨h4, h5⟩
  ·trivial
 | .agg cs, val, hx => by
  obtain ⟨arr, h1, h2⟩ := hx
  exact ⟨arr, h1, rensK_rep hS hL hg cs _ h2⟩
 | .tup cs, val, hx => by
  obtain ⟨arr, h1, h2⟩ := hx
  exact ⟨arr, h1, rensK_rep hS hL hg cs _ h2⟩
 | .clo f cs, val, hx => by
  obtain ⟨arr, h1, h2⟩ := hx
  exact ⟨arr, h1, rensK_rep hS hL hg cs _ h2⟩
theorem rensK_rep {w : World} {ρ1 ρ2 : Nat → Loc} {g : Nat → Option Nat} (hS : ∀ b, Sta ρ1 X w b → Sta ρ2 X w b) (hL : ∀ b, Len ρ1 w b → Len ρ2 w b) (hg : ∀ k j, g k = some j → (ρ1 k).real = true → ρ2 j = ρ1 k) :
  ∀ (xs : List V) (vs : List Value), RepL ρ1 X w xs vs → RepL ρ2 X w (rensK g xs) vs
 | [], [], _ => trivial
 | x :: r, u :: us, hx => ⟨renK_rep hS hL hg x u hx.1, rensK_rep hS hL hg r us hx.2⟩
 | [], _ :: _, hx => hx.elim
 | _ :: _, [], hx => hx.elim
end
theorem rensK_map (g : Nat → Option Nat) : ∀ xs : List V, rensK g xs = xs.map (renK g)
 | [] => rfl
 | x :: r => by simp [rensK, rensK_map g r]
theorem get_renEK (g : Nat → Option Nat) : ∀ (e : Env) (i : Nat), get (renEK g e) i = renK g (get e i)
 | [], _ => by simp [renEK, get, renK]
 | (j, x) :: r, i => by
  simp only [renEK, get]
  split
  ·rfl
  ·exact get_renEK g r i
theorem renBK_rep {w : World} {ρ1 ρ2 : Nat → Loc} {g : Nat → Option Nat} (hS : ∀ b, Sta ρ1 X w b → Sta ρ2 X w b) (hL : ∀ b, Len ρ1 w b → Len ρ2 w b) (hg : ∀ k j, g k = some j → (ρ1 k).real = true → ρ2 j = ρ1 k)
  {k j : Nat} (hkj : ρ2 j = ρ1 k) {B : Blk} (hB : RepB ρ1 X w k B) : RepB ρ2 X w j (renBK g B) := by
 cases B with
 | dead => simp only [renBK, RepB] at hB ⊢; rw [hkj]; exact hB
 | arr sz els =>
  simp only [renBK, RepB] at hB ⊢
  rw [hkj]
  refine ⟨hB.1, hB.2.imp id ?_⟩
  rintro ⟨h1, c, T, h2, h3, h4, h5⟩
  exact ⟨h1, c, T, h2, h3, h4, RepEls_mono (fun b hb => ⟨hS b hb, rfl⟩) sz _ rfl _ _ h5⟩
 | var cs =>
  simp only [renBK, RepB] at hB ⊢
  rw [hkj]
  obtain ⟨h1, c, T, h2, h3⟩ := hB
  exact ⟨h1, c, T, h2, rensK_rep hS hL hg _ _ h3.1, h3.2⟩
 | arv sz els =>
  simp only [renBK, RepB] at hB ⊢
  rw [hkj]
  obtain ⟨h0, h1, c, T, h2, h3, h4, h5⟩ := hB
  refine ⟨h0, h1, c, T, h2, h3, by simpa using h4, fun i e he => ?_⟩
  simp only [yL, yE] at he
  obtain ⟨e0, he0, rfl⟩ := he
  refine ⟨by rw [rensK_map, List.length_map]; exact (h5 i e0 he0).1, fun f x hx => ?_⟩
  simp only [rensK_map, yL, yE] at hx
  obtain ⟨x0, hx0, rfl⟩ := hx
  obtain ⟨u, h6, h7⟩ := (h5 i e0 he0).2 f x0 hx0
  exact ⟨u, h6, renK_rep hS hL hg _ _ h7⟩
 | map es cl =>
  simp only [renBK, RepB] at hB ⊢
  rw [hkj]
  obtain ⟨h1, arr, h2, h3, h4⟩ := hB
  refine ⟨h1, arr, h2, by rw [h3]; simp, ?_⟩
  rw [show (List.map (fun e : Value × V × Nat => (e.1, renK g e.2.1, e.2.2)) es).map (·.2.1) = rensK g (es.map (·.2.1)) by rw [rensK_map]; simp]
  exact rensK_rep hS hL hg _ _ h4
 | it m s sn l =>
  simp only [renBK, RepB] at hB ⊢
  rw [hkj]
  obtain ⟨h1, x, h2, h3⟩ := hB
  exact ⟨h1, x, h2, renK_rep hS hL hg _ _ h3⟩
 | rcd t e =>
  simp only [renBK, RepB] at hB ⊢
  rw [hkj]
  exact ⟨hB.1, fun i => by rw [get_renEK]; exact renK_rep hS hL hg _ _ (hB.2 i)⟩
theorem gc_rep {ρ : Nat → Loc} {w : World} {h : List Blk} (hr : Rep ρ X w h) {ι : List Nat} (hn : ι.Nodup) (hlt : ∀ k ∈ ι, k < h.length) :
  Rep (calleeLoc ρ ι) X w (ι.map fun k => renBK (pos ι) (blk h k)) := by
 refine ⟨?_, ?_, ?_, fun b ho => hr.disj b (callee_own ho), ?_, hr.xlt⟩
 ·intro i j hij hi hj
  obtain ⟨a, ha, ea⟩ := callee_real hi
  obtain ⟨c, hc, ec⟩ := callee_real hj
  rw [ea] at hi ⊢
  rw [ec] at hj ⊢
  refine hr.inj a c (fun e => hij ?_) hi hj
  subst e
  have h1 := pos_of_get hn ha
  have h2 := pos_of_get hn hc
  rw [h1] at h2
  simpa using h2
 ·intro k hk
  have : ι[k]? = none := by simpa using hk
  simp [calleeLoc, this]
 ·intro j B hB
  simp only [yL, yE] at hB
  obtain ⟨k, hk, rfl⟩ := hB
  have hkl := hlt k (List.mem_of_getElem? hk)
  have hb : h[k]? = some (blk h k) := by simp [blk, List.getD_eq_getElem?_getD, List.getElem?_eq_getElem hkl]
  exact renBK_rep (fun b hb => ⟨hb.1, fun ho => hb.2.1 (callee_own ho), hb.2.2⟩) (fun b hb => callee_len hb) (fun k' j' hp _ => callee_at (pos_some hp)) (callee_at hk) (hr.blk k _ hb)
 ·intro j hj
  unfold calleeLoc at hj ⊢
  split at hj
  ·exact hr.lt _ hj
  ·cases hj
theorem gc_fr {ρ : Nat → Loc} {w : World} {ι : List Nat} : Fr ρ w (calleeLoc ρ ι) w := ⟨rfl, rfl, rfl, Nat.le_refl _, fun _ _ ho => ⟨rfl, fun h => ho (callee_own h)⟩⟩
theorem gc_val {ρ : Nat → Loc} {w : World} {ι : List Nat} {x : V} {val : Value} (h : RepV ρ X w x val) : RepV (calleeLoc ρ ι) X w (renK (pos ι) x) val :=
 renK_rep (fun b hb => ⟨hb.1, fun ho => hb.2.1 (callee_own ho), hb.2.2⟩) (fun b hb => callee_len hb) (fun k' j' hp _ => callee_at (pos_some hp)) x val h
theorem keepN_get {n : Nat} {h : List Blk} {names : List Nat} {k : Nat} (hk : k < n) : (keepN n h names)[k]? = some k := by
 unfold keepN
 rw [List.getElem?_append_left (by simpa using hk)]
 simp [hk]
theorem numB_ok {L : List Nat} {h : List Blk} {n : Nat} (hb : numB L h n = true) : L.Nodup ∧ (∀ k ∈ L, k < h.length) ∧ n ≤ h.length := by
 unfold numB at hb
 simp only [yB, yG, Nat.blt_eq, Nat.ble_eq] at hb
 exact ⟨nodup_of hb.1.1, hb.1.2, hb.2⟩
theorem gcD_ok {n0 : Nat} (hfn : ∀ k ∈ fx, k < n0) {p q : Pt} (h : gcD fx n0 p = some q) {a : Act} {w : World} (hg : GoodT ρ0 X w0 fx N p a w) : GoodT ρ0 X w0 fx N q a w := by
 unfold gcD at h
 split at h
 ·simp only [yA] at h
  subst h
  exact hg
 generalize hL : keepN n0 p.2 p.1.namesT = L at h
 unfold gcK at h
 simp only at h
 split at h
 ·rename_i hc
  simp only [yB] at hc
  simp only [yA] at h
  subst h
  obtain ⟨hn, hlt, _⟩ := numB_ok hc.1
  obtain ⟨e, b, he, ρ, ⟨⟨hf, h1⟩, hk⟩, ⟨hr, hre⟩, h5, h6⟩ := hg
  refine ⟨(p.1.ren (pos L)).toEnv, 0, toEnv_get _, calleeLoc ρ L, ⟨⟨hf.trans gc_fr, fun k hk' => ?_⟩, keep_of hc.2⟩, ⟨gc_rep hr hn hlt, fun i => ?_⟩, h5, h6.fr gc_fr⟩
  ·rw [callee_at (by rw [← hL]; exact keepN_get (hfn k hk'))]
   exact h1 k hk'
  ·rw [toEnv_get, Tr.get_ren, ← he]
   exact gc_val (hre i)
 ·cases h
theorem ofEnv_get : ∀ (e : Env) (i : Nat), (ofEnv e).get i = get e i
 | [], _ => rfl
 | (j, x) :: r, i => by
  simp only [ofEnv, forceNat_eq, putT, forceV_eq]
  rw [Tr.get_put _ _ _ _ _ (yH j), ofEnv_get r i]
  rfl
theorem setPsT_get : ∀ (ps : List Nat) (xs : List V) (e : Env) (E : Tr), (∀ i, get e i = E.get i) → ∀ i, get (setPs ps xs e) i = (setPsT ps xs E).get i
 | [], [], _, _, he, i => he i
 | [], _ :: _, _, _, he, i => he i
 | _ :: _, [], _, _, he, i => he i
 | p :: ps, x :: xs, e, E, he, i => by
  simp only [setPs, setPsT]
  refine setPsT_get ps xs _ _ (fun j => ?_) i
  simp only [putT, forceV_eq]
  rw [Tr.get_put _ _ _ _ _ (yH p), ← he j]
  rfl
def Out.K (Nn : St → Prop) (Xx : Nat → St → Prop) (Rr : St → Prop) : Out → Prop
 | .normal q => ∀ b, AT b q Nn
 | .exit j q => ∀ b, AT b q (Xx j)
 | .ret q => ∀ b, AT b q Rr
def CwA (call : CallD) (mvf : FuncId → Option Nat) (iter : ItD) (C : Ctr) (it : Itr) (l : LCode) : Cx → (St → Prop) → (Nat → St → Prop) → (St → Prop) → St → Prop := fun cx Nn Xx Rr s =>
 ∃ (n0 : Nat) (yd : Nat → YtD) (E : Tr) (outs : List Out), (cx.C = C ∧ cx.it = it ∧ cx.bn = []) ∧ (∀ k ∈ cx.fx, k < n0) ∧ YdOk yd cx.y ∧ (∀ i, get s.e i = E.get i) ∧ cw call mvf iter l cx.fx n0 yd cx.rk (E, s.h) = some outs ∧ ∀ o ∈ outs, o.K Nn Xx Rr
def ItOk (P : Program) (iter : ItD) : Prop := ∀ f zas fx k yd h hs, iter f zas fx k yd h = some hs → Callable P f ∧ ∀ (Y : Yt) (K : List Blk → Prop),
 (∀ xs E h b rs Z, yd xs (E, h) = some rs → (∀ r ∈ rs, AT b r.2 (Z r.1)) → Y xs ⟨E.toEnv, h, b⟩ Z) → (∀ h' ∈ hs, K h') → Iter P f zas fx k Y h K
section
variable {call : CallD} {mvf : FuncId → Option Nat} {iter : ItD}
def CW (P : Program) (X : Nat → Prop) (N : Nat) (call : CallD) (mvf : FuncId → Option Nat) (iter : ItD) (c : Code) : Prop :=
 ∀ (l0 l : LCode), rlC P N c l0 = some l → ∀ (r : Option Nat) (fx : List Nat) (yy : Nat → Yt) (rk : Option Nat) (ρ0 : Nat → Loc) (w0 : World), (r = none ∨ (codeRd c = true ∧ inRd l = true)) →
  ROk r ⟨fun f zas h0 mv R => Callable P f ∧ Fn P f zas h0 mv R, fx, [], fun f zas fx k Y h K => Callable P f ∧ Iter P f zas fx k Y h K, yy, rk⟩ ρ0 → (∀ k, YOk P ρ0 X w0 fx k (yy k)) →
  ∀ (n0 : Nat) (yd : Nat → YtD), (∀ k ∈ fx, k < n0) → YdOk yd yy → ∀ (Q : Exit → Act → World → Prop), ¬ LetsOut Q → ∀ (p : Pt) (outs : List Out), cw call mvf iter l fx n0 yd rk p = some outs →
   (∀ o ∈ outs, ∀ a w, GoodT ρ0 X w0 fx N o.pt a w → Q o.ex a w) → ∀ a w, GoodT ρ0 X w0 fx N p a w → c.wpIn (FR r) 0 P Q a w
theorem CW.snd {c : Code} (h : CW P X N call mvf iter c) {l0 l : LCode} (hm : rlC P N c l0 = some l) :
  SndA P X N c (codeRd c = true ∧ inRd l = true) (CwA call mvf iter (fun f zas h0 mv R => Callable P f ∧ Fn P f zas h0 mv R) (fun f zas fx k Y h K => Callable P f ∧ Iter P f zas fx k Y h K) l) := by
 intro r cx ρ0 w0 hcx hrd hro hy Q Nn Xx Rr hQo hN hX hR s a w ⟨n0, yd, E, outs, ⟨h1, h2, h3⟩, h4, h5, h6, h7, h8⟩ hg
 obtain ⟨C, fx, bn, it, y, rk⟩ := cx
 simp only at h1 h2 h3 h4 h5 h7 hy hg
 subst h1 h2 h3
 refine h l0 l hm r fx y rk ρ0 w0 hrd hro hy n0 yd h4 h5 Q hQo (E, s.h) outs h7 (fun o ho a w hgd => ?_) a w ⟨s.e, s.b, h6, hg⟩
 obtain ⟨e, b, he, hgd⟩ := hgd
 have := h8 o ho
 cases o with
 | normal q => exact hN _ _ _ (this b e he) hgd
 | exit j q => exact hX j _ _ _ (this b e he) hgd
 | ret q => exact hR _ _ _ (this b e he) hgd
theorem cw_rfn (hP : P.follows .mixedOrders = true) (hcall : ∀ f zas h0 mv r h', call f zas h0 mv = some (r, h') → Callable P f ∧ Fn P f zas h0 mv (fun r1 h1 => r1 = r ∧ h1 = h')) (hiter : ItOk P iter)
  {g : Operand} {ps : Array Tmp} {asg body : Code} (ha : CW P X N call mvf iter asg) (hb : CW P X N call mvf iter body) : CW P X N call mvf iter (.rangeFunc g ps asg body) := by
 intro l0 l hm r fx yy rk ρ0 w0 hrd hro hy n0 yd hfn hyd Q hQo p outs hd hQ a w hg
 cases l0 with
 | rfn g' ps' la0 lb0 =>
  simp only [rlC] at hm
  split at hm
  ·rename_i la lb hma hmb
   split at hm
   ·rename_i hc
    simp only [yB] at hc
    simp only [yA] at hm
    subst hm
    obtain ⟨⟨hps, hcd⟩, hin⟩ := hc
    have hps' : ∀ p ∈ ps.toList, p < N := fun p hp => by simpa using yG.1 hps p hp
    obtain ⟨e0, b0, he0, hg⟩ := hg
    have hg1 : Good ρ0 X w0 fx N ⟨p.1.toEnv, p.2, b0⟩ a w := by
     obtain ⟨ρ, g1, ⟨g2, g3⟩, g4⟩ := hg
     exact ⟨ρ, g1, ⟨g2, fun i => by rw [toEnv_get, ← he0]; exact g3 i⟩, g4⟩
    have hfx1 : ∀ n, p.2.length < n → ∀ j ∈ n :: p.2.length :: fx, j < n + 1 := by
     intro n hn j hj
     obtain ⟨ρ, ⟨_, hkp⟩, _⟩ := hg
     rcases yF.1 hj with rfl | hj
     ·omega
     ·rcases yF.1 hj with rfl | hj
      ·omega
      ·have := keepP_get hkp j hj
       unfold liveP at this
       rcases Nat.lt_or_ge j p.2.length with h | h
       ·omega
       ·rw [List.getElem?_eq_none h] at this
        exact this.elim
    have hS := rfn_okA (g := g) (ha.snd hma) (hb.snd hmb) ⟨(by simpa using hcd : _ ∧ _).1, (by simpa using hin : _ ∧ _).1⟩ ⟨(by simpa using hcd : _ ∧ _).2, (by simpa using hin : _ ∧ _).2⟩ hps'
    refine hS r ⟨_, fx, [], _, yy, rk⟩ ρ0 w0 ⟨fun f zas h0 mv R h => h, fun f zas fx k Y h K h => h⟩ (hrd.imp id fun _ => trivial) hro hy Q
     (fun s => ∃ q, Out.normal q ∈ outs ∧ (∀ i, get s.e i = q.1.get i) ∧ s.h = q.2) (fun j s => ∃ q, Out.exit j q ∈ outs ∧ (∀ i, get s.e i = q.1.get i) ∧ s.h = q.2) (fun s => ∃ q, Out.ret q ∈ outs ∧ (∀ i, get s.e i = q.1.get i) ∧ s.h = q.2) hQo ?_ ?_ ?_ _ a w ?_ hg1
    ·rintro ⟨e, h, b⟩ a w ⟨q, h1, h2, rfl⟩ hgd
     exact hQ _ h1 a w ⟨e, b, h2, hgd⟩
    ·rintro j ⟨e, h, b⟩ a w ⟨q, h1, h2, rfl⟩ hgd
     exact hQ _ h1 a w ⟨e, b, h2, hgd⟩
    ·rintro ⟨e, h, b⟩ a w ⟨q, h1, h2, rfl⟩ hgd
     exact hQ _ h1 a w ⟨e, b, h2, hgd⟩
    ·simp only [cw] at hd
     simp only [ev_ok (toEnv_get p.1)]
     split at hd
     ·rename_i gf caps hcl
      try rw [hcl]
      try simp only
      split at hd
      ·rename_i hir
       simp only [forceNat_eq] at hd
       obtain ⟨hs, h1, h2⟩ := bindL_ok hd
       obtain ⟨hcb, h3⟩ := hiter _ _ _ _ _ _ _ h1
       refine ⟨?_, hcb, h3 _ _ ?_ ?_⟩
       ·unfold inRdB at hir
        unfold inRdP
        split at hir
        ·trivial
        ·split at hir
         ·rename_i hk
          simp only [rcdK, hk]
         ·cases hir
       ·intro xs E h b rs Z hrs hZ
        simp only [rndD] at hrs
        split at hrs
        ·rename_i e hk
         split at hrs
         ·rename_i hlen
          obtain ⟨os, h4, h5⟩ := bindL_ok hrs
          obtain ⟨oa, h6, h7⟩ := bindL_ok h4
          simp only [rcdK, hk]
          refine ⟨trivial, hlen, h.length + 1, _, _, oa, ⟨rfl, rfl, rfl⟩, ?_, (fun _ _ _ _ _ _ _ h _ => by simp at h), setPsT_get _ _ _ _ (fun i => (ofEnv_get e i).symm), h6, fun o ho => ?_⟩
          ·exact hfx1 h.length (yP.1 hk).1
          ·obtain ⟨zs, h8, h9⟩ := h7 o ho
           cases o with
           | normal q =>
            simp only [begRdD] at h8
            split at h8
            ·rename_i e' hk'
             intro b' ea hea
             simp only [begRd, rcdK, hk']
             refine ⟨trivial, h.length + 1, _, _, zs, ⟨rfl, rfl, rfl⟩, ?_, (fun _ _ _ _ _ _ _ h _ => by simp at h), hea, h8, fun o2 ho2 => ?_⟩
             ·exact hfx1 h.length (yP.1 hk).1
             ·obtain ⟨zs2, h10, h11⟩ := h5 o2 (h9 o2 ho2)
              have key : ∀ (bb : Bool) (t : RS) (q2 : Pt), endRdD p.2.length h.length bb t q2 = some zs2 → ∀ b2, AT b2 q2 (endRd p.2.length h.length b Z bb t) := by
               intro bb t q2 hq2 b2 e2 he2
               simp only [endRdD] at hq2
               split at hq2
               ·rename_i er hkr
                split at hq2
                ·rename_i eg hkg
                 simp only [yA] at hq2
                 subst hq2
                 simp only [endRd, rcdK, hkr, hkg]
                 exact ⟨trivial, trivial, hZ _ (h11 _ (yD _)) _ fun i => (ofEnv_get eg i).symm⟩
                ·cases hq2
               ·cases hq2
              cases o2 with
              | normal q2 => exact fun b2 => key _ _ _ h10 b2
              | exit j q2 => exact fun b2 => key _ _ _ h10 b2
              | ret q2 => exact fun b2 => key _ _ _ h10 b2
            ·cases h8
           | exit j q => simp [begRdD] at h8
           | ret q => simp [begRdD] at h8
         ·cases hrs
        ·cases hrs
       ·intro h' hh'
        obtain ⟨zs, h4, h5⟩ := h2 h' hh'
        simp only [endLpD] at h4
        split at h4
        ·rename_i t e hk
         split at h4
         ·rename_i hw
          simp only [yB] at hw
          simp only [endLp, rcdK, hk]
          refine ⟨⟨wfEB_ok _ hw.1, wfBB_ok _ hw.2⟩, ?_⟩
          split at h4
          ·simp only [yA] at h4
           subst h4
           exact ⟨_, h5 _ (yD _), fun i => (ofEnv_get e i).symm, rfl⟩
          ·simp only [yA] at h4
           subst h4
           exact ⟨_, h5 _ (yD _), fun i => (ofEnv_get e i).symm, rfl⟩
          ·simp only [yA] at h4
           subst h4
           exact ⟨_, h5 _ (yD _), fun i => (ofEnv_get e i).symm, rfl⟩
          ·cases h4
         ·cases h4
        ·cases h4
      ·cases hd
     ·cases hd
   ·cases hm
  ·cases hm
 | _ => simp [rlC] at hm
theorem cw_sound (hP : P.follows .mixedOrders = true) (hcall : ∀ f zas h0 mv r h', call f zas h0 mv = some (r, h') → Callable P f ∧ Fn P f zas h0 mv (fun r1 h1 => r1 = r ∧ h1 = h')) (hiter : ItOk P iter) : ∀ c : Code, CW P X N call mvf iter c := by
 have hcl : ∀ f zas h0 mv r h', call f zas h0 mv = some (r, h') → (fun f zas h0 mv R => Callable P f ∧ Fn P f zas h0 mv R) f zas h0 mv (fun r1 h1 => r1 = r ∧ h1 = h') := hcall
 have hcx : ∀ (fx : List Nat) (yy : Nat → Yt) (rk : Option Nat), Cx.ok ⟨fun f zas h0 mv R => Callable P f ∧ Fn P f zas h0 mv R, fx, [], fun f zas fx k Y h K => Callable P f ∧ Iter P f zas fx k Y h K, yy, rk⟩ P := fun _ _ _ => ⟨fun f zas h0 mv R h => h, fun f zas fx k Y h K h => h⟩
 intro c
 induction c with
 | skip =>
  intro l0 l hm r fx yy rk ρ0 w0 hrd hro hy n0 yd hfn hyd Q hQo p outs hd hQ a w hg
  simp only [rlC, yA] at hm
  subst hm
  simp only [cw, yA] at hd
  subst hd
  exact wpIn_skip (hQ (.normal p) (by simp) a w hg)
 | label i =>
  intro l0 l hm r fx yy rk ρ0 w0 hrd hro hy n0 yd hfn hyd Q hQo p outs hd hQ a w hg
  simp only [rlC, yA] at hm
  subst hm
  simp only [cw, yA] at hd
  subst hd
  exact wpIn_label (hQ (.normal p) (by simp) a w hg)
 | scope c ih =>
  intro l0 l hm r fx yy rk ρ0 w0 hrd hro hy n0 yd hfn hyd Q hQo p outs hd hQ a w hg
  simp only [rlC] at hm
  rcases hrd with rfl | hrd
  ·refine (wpIn_wide (n := 0)).2 (wp_scope_straight ((wpIn_wide (n := 0)).1 (ih l0 l hm none fx yy rk ρ0 w0 (.inl rfl) hro hy n0 yd hfn hyd (Exit.noGoto Q) (fun ⟨a, w, hq⟩ => hQo ⟨a, w, hq⟩) p outs hd (fun o ho a w h => ?_) a w hg)))
   have := hQ o ho a w h
   cases o <;> exact this
  ·exact absurd hrd.1 (by simp [codeRd])
 | ret =>
  intro l0 l hm r fx yy rk ρ0 w0 hrd hro hy n0 yd hfn hyd Q hQo p outs hd hQ a w hg
  simp only [rlC, yA] at hm
  subst hm
  simp only [cw, yA] at hd
  subst hd
  exact wpIn_ret (hQ (.ret p) (by simp) a w hg)
 | exit i =>
  intro l0 l hm r fx yy rk ρ0 w0 hrd hro hy n0 yd hfn hyd Q hQo p outs hd hQ a w hg
  simp only [rlC, yA] at hm
  subst hm
  simp only [cw, yA] at hd
  subst hd
  exact wpIn_exit (hQ (.exit i p) (by simp) a w hg)
 | region id ops draw =>
  intro l0 l hm r fx yy rk ρ0 w0 hrd hro hy n0 yd hfn hyd Q hQo p outs hd hQ a w hg
  have hdf : r = none ∨ ops.toList.all notDefer = true := hrd.imp (fun h => h) fun h => h.1
  have hN : ∀ {ps : List Pt}, outs = ps.map .normal → ∀ (s : St) a w, (∃ q ∈ ps, (∀ i, get s.e i = q.1.get i) ∧ s.h = q.2) → Good ρ0 X w0 fx N s a w → Q .normal a w := by
   rintro ps rfl s a w ⟨q, hq, h1, h2⟩ hg
   exact hQ (.normal q) (by rw [yC]; exact ⟨q, hq, rfl⟩) a w ⟨s.e, s.b, h1, by show Good ρ0 X w0 fx N ⟨s.e, q.2, s.b⟩ a w; rw [← h2]; exact hg⟩
  simp only [rlC] at hm
  split at hm
  ·split at hm
   ·rename_i x hr
    simp only [yA] at hm
    subst hm
    simp only [cw, yE] at hd
    obtain ⟨ps, h1, h2⟩ := hd
    obtain ⟨e, he, hgr⟩ := hg.reserve _
    exact wpIn_region_list (listIn hQo _ (hdf.imp (fun h => h) fun h => yG.1 h) _ _ (aOps_sound (hcx fx yy rk) rfl (hN h2.symm) _ _ _ _ a w hr hgr (opsD_ok hcl h1 he fun q hq e' he' => ⟨q, hq, he', rfl⟩)))
   ·cases hm
  ·split at hm
   ·rename_i x hr
    split at hm
    ·rename_i hc
     simp only [yB] at hc
     simp only [yA] at hm
     subst hm
     rcases hrd with rfl | hrd
     ·simp only [cw, yE] at hd
      obtain ⟨ps, h1, h2⟩ := hd
      obtain ⟨e, he, hgr⟩ := hg.reserve _
      exact (wpIn_wide (n := 0)).2 (qui_sound (cx := ⟨fun f zas h0 mv R => Callable P f ∧ Fn P f zas h0 mv R, fx, [], fun f zas fx k Y h K => Callable P f ∧ Iter P f zas fx k Y h K, yy, rk⟩) hP (hN h2.symm) hr hc.1 hc.2 hgr (opsD_ok hcl h1 he fun q hq e' he' => ⟨q, hq, he', rfl⟩))
     ·exact absurd hrd.2 (by simp [inRd])
    ·cases hm
   ·cases hm
  ·split at hm
   ·rename_i x hr
    split at hm
    ·rename_i hc
     simp only [yB] at hc
     simp only [yA] at hm
     subst hm
     rcases hrd with rfl | hrd
     ·simp only [cw, yE] at hd
      obtain ⟨ps, h1, h2⟩ := hd
      obtain ⟨e, he, hgr⟩ := hg.reserve _
      exact (wpIn_wide (n := 0)).2 (tail_sound hP (hcx fx yy rk) rfl (hN h2.symm) hr hc.1 hc.2 hgr (opsD_ok hcl h1 he fun q hq e' he' => ⟨q, hq, he', rfl⟩))
     ·exact absurd hrd.2 (by simp [inRd])
    ·cases hm
   ·cases hm
  ·split at hm
   ·rename_i x hr
    simp only [yA] at hm
    subst hm
    simp only [cw] at hd
    split at hd
    ·cases hd
    ·rename_i ps h1
     simp only [yE] at hd
     obtain ⟨js, h2, h3⟩ := hd
     obtain ⟨e, he, hgr⟩ := hg.reserve _
     refine tree_in hP (hcx fx yy rk) hQo (K := fun s => ∃ q ∈ ps, (∀ i, get s.e i = q.1.get i) ∧ s.h = q.2) ?_ hdf hr hgr (planD_ok hcl h1 he fun q hq e' he' => ⟨q, hq, he', rfl⟩)
     rintro s a w ⟨q, hq, h4, h5⟩ hg
     obtain ⟨j, hj, hgj⟩ := joinD_ok h2 hq (⟨s.e, s.b, h4, by rw [← h5]; exact hg⟩ : GoodT ρ0 X w0 fx N q a w)
     subst h3
     exact hQ (.normal j) (by rw [yC]; exact ⟨j, hj, rfl⟩) a w hgj
   ·cases hm
  ·split at hm
   ·rename_i x hr
    split at hm
    ·rename_i hc
     simp only [yA] at hm
     subst hm
     rcases hrd with rfl | hrd
     ·simp only [cw, yE] at hd
      obtain ⟨ps, h1, h2⟩ := hd
      obtain ⟨e, he, hgr⟩ := hg.reserve _
      have hops := opsYD_ok (C := fun f zas h0 mv R => Callable P f ∧ Fn P f zas h0 mv R) (it := fun f zas fx k Y h K => Callable P f ∧ Iter P f zas fx k Y h K) (rk := rk) (K := fun s => ∃ q ∈ ps, (∀ i, get s.e i = q.1.get i) ∧ s.h = q.2) hcl hyd h1 he fun q hq e' he' => ⟨q, hq, he', rfl⟩
      cases draw with
      | false => exact wpIn_region_list (aOpsY_sound (hcx fx yy rk) hy (hN h2.symm) _ _ _ _ a w hr hgr hops)
      | true =>
       simp only [Bool.not_true, Bool.false_or, yB] at hc
       exact yreg_in hP (hcx fx yy rk) hy hQo (hN h2.symm) hr hc.1 hc.2 hgr hops
     ·exact absurd hrd.2 (by simp [inRd])
    ·cases hm
   ·cases hm
  ·split at hm
   ·rename_i p' x hpl hr
    split at hm
    ·rename_i hlt
     simp only [yA] at hm
     subst hm
     rcases hrd with rfl | hrd
     ·simp only [cw] at hd
      split at hd
      ·cases hd
      ·rename_i ps h1
       simp only [yE] at hd
       obtain ⟨js, h2, h3⟩ := hd
       obtain ⟨e, he, hgr⟩ := hg.reserve _
       obtain ⟨xs, h4, h5⟩ := bindL_ok h1
       refine ytree_in hP (hcx fx yy none) hy hQo (K := fun s => ∃ q ∈ ps, (∀ i, get s.e i = q.1.get i) ∧ s.h = q.2) ?_ hpl hr hlt hgr (planD_ok hcl h4 he fun q hq e' he' => ?_)
       ·rintro s a w ⟨q, hq, h6, h7⟩ hg
        obtain ⟨j, hj, hgj⟩ := joinD_ok h2 hq (⟨s.e, s.b, h6, by rw [← h7]; exact hg⟩ : GoodT ρ0 X w0 fx N q a w)
        subst h3
        exact hQ (.normal j) (by rw [yC]; exact ⟨j, hj, rfl⟩) a w hgj
       ·obtain ⟨zs, h6, h7⟩ := h5 q hq
        exact opsYD_ok (C := fun f zas h0 mv R => Callable P f ∧ Fn P f zas h0 mv R) (it := fun f zas fx k Y h K => Callable P f ∧ Iter P f zas fx k Y h K) hcl hyd h6 he' fun z hz e2 he2 => ⟨z, h7 z hz, he2, rfl⟩
     ·exact absurd hrd.2 (by simp [inRd])
    ·cases hm
   ·cases hm
  ·simp only [yA] at hm
   subst hm
   simp [cw] at hd
  ·cases hm
 | seq x y iha ihb =>
  intro l0 l hm r fx yy rk ρ0 w0 hrd hro hy n0 yd hfn hyd Q hQo p outs hd hQ a w hg
  have key : ∀ {x' y' lx ly : LCode} {p : Pt}, rlC P N x lx = some x' → rlC P N y ly = some y' → (r = none ∨ (codeRd x = true ∧ inRd x' = true)) → (r = none ∨ (codeRd y = true ∧ inRd y' = true)) →
    andD (cw call mvf iter x' fx n0 yd rk p) (cw call mvf iter y' fx n0 yd rk) = some outs → GoodT ρ0 X w0 fx N p a w → (Code.seq x y).wpIn (FR r) 0 P Q a w := by
   intro x' y' lx ly p h1 h2 hra hrb hd hg
   unfold andD at hd
   obtain ⟨os, h3, h4⟩ := bindL_ok hd
   refine wpIn_seq (iha _ _ h1 r fx yy rk ρ0 w0 hra hro hy n0 yd hfn hyd _ (LetsOut_then hQo) p os h3 (fun o ho a w h => ?_) a w hg)
   obtain ⟨zs, h5, h6⟩ := h4 o ho
   cases o with
   | normal q => exact ihb _ _ h2 r fx yy rk ρ0 w0 hrb hro hy n0 yd hfn hyd Q hQo q zs h5 (fun o ho => hQ o (h6 o ho)) a w h
   | exit j q =>
    simp only [yA] at h5
    subst h5
    exact hQ _ (h6 _ (by simp)) a w h
   | ret q =>
    simp only [yA] at h5
    subst h5
    exact hQ _ (h6 _ (by simp)) a w h
  simp only [rlC] at hm
  split at hm
  ·split at hm
   ·rename_i x' y' h1 h2
    simp only [yA] at hm
    subst hm
    exact key h1 h2 (hrd.imp (fun h => h) fun h => by simp only [codeRd, inRd, yB] at h; exact ⟨h.1.1, h.2.1⟩) (hrd.imp (fun h => h) fun h => by simp only [codeRd, inRd, yB] at h; exact ⟨h.1.2, h.2.2⟩) hd hg
   ·cases hm
  ·split at hm
   ·rename_i x' y' h1 h2
    simp only [yA] at hm
    subst hm
    simp only [cw] at hd
    split at hd
    ·rename_i q hf
     obtain ⟨e, b, he, hgd⟩ := hg
     obtain ⟨s', ⟨g1, g2⟩, hgd'⟩ := frzP_good (K := fun s => (∀ i, get s.e i = q.1.get i) ∧ s.h = q.2) _ _ (frzD_ok (b := b) _ p.1 p.2 e he hf fun e' he' => ⟨he', rfl⟩) hgd
     exact key h1 h2 (hrd.imp (fun h => h) fun h => by simp only [codeRd, inRd, yB] at h; exact ⟨h.1.1, h.2.1⟩) (hrd.imp (fun h => h) fun h => by simp only [codeRd, inRd, yB] at h; exact ⟨h.1.2, h.2.2⟩) hd ⟨s'.e, s'.b, g1, by rw [← g2]; exact hgd'⟩
    ·cases hd
   ·cases hm
  ·simp only [yA] at hm
   subst hm
   simp [cw] at hd
  ·cases hm
 | cond c x y iha ihb =>
  intro l0 l hm r fx yy rk ρ0 w0 hrd hro hy n0 yd hfn hyd Q hQo p outs hd hQ a w hg
  simp only [rlC] at hm
  split at hm
  ·split at hm
   ·rename_i x' y' h1 h2
    simp only [yA] at hm
    subst hm
    have hra : r = none ∨ (codeRd x = true ∧ inRd x' = true) := hrd.imp (fun h => h) fun h => by simp only [codeRd, inRd, yB] at h; exact ⟨h.1.1, h.2.1⟩
    have hrb : r = none ∨ (codeRd y = true ∧ inRd y' = true) := hrd.imp (fun h => h) fun h => by simp only [codeRd, inRd, yB] at h; exact ⟨h.1.2, h.2.2⟩
    simp only [cw] at hd
    have hev : ∀ t, evT p.1 c = .v (.bool t) → a.eval c = .bool t := by
     intro t ht
     obtain ⟨e, b, he, ρ, _, ⟨_, hre⟩, _⟩ := hg
     have := ev_rep hre c
     rw [ev_ok he, ht] at this
     exact this
    split at hd
    ·rename_i ht
     refine wpIn_cond (hev _ ht) ?_
     exact iha _ _ h1 r fx yy rk ρ0 w0 hra hro hy n0 yd hfn hyd Q hQo p outs hd hQ a w hg
    ·rename_i ht
     refine wpIn_cond (hev _ ht) ?_
     exact ihb _ _ h2 r fx yy rk ρ0 w0 hrb hro hy n0 yd hfn hyd Q hQo p outs hd hQ a w hg
    ·cases hd
   ·cases hm
  ·cases hm
 | block i x iha =>
  intro l0 l hm r fx yy rk ρ0 w0 hrd hro hy n0 yd hfn hyd Q hQo p outs hd hQ a w hg
  simp only [rlC] at hm
  split at hm
  ·split at hm
   ·rename_i x' h1
    simp only [yA] at hm
    subst hm
    simp only [cw, blockD] at hd
    split at hd
    ·cases hd
    ·rename_i os h2
     split at hd
     ·cases hd
     ·rename_i ps h3
      simp only [yA] at hd
      subst hd
      have hnorm : ∀ q a w, Out.normal q ∈ os.map (leave i) → GoodT ρ0 X w0 fx N q a w → Q .normal a w := by
       intro q a w hq hgq
       obtain ⟨j, hj, hgj⟩ := joinD_ok h3 (norms_mem hq) hgq
       exact hQ (.normal j) (by simp only [List.mem_append, yC]; exact .inl ⟨j, hj, rfl⟩) a w hgj
      refine wpIn_block (iha _ _ h1 r fx yy rk ρ0 w0 hrd hro hy n0 yd hfn hyd (Exit.inBlock i Q) (fun ⟨a, w, hq⟩ => hQo ⟨a, w, hq⟩) p os h2 (fun o ho a w h => ?_) a w hg)
      cases o with
      | normal q => exact hnorm q a w (by rw [yC]; exact ⟨_, ho, rfl⟩) h
      | exit j q =>
       show if j = i then _ else _
       split
       ·rename_i hj
        exact hnorm q a w (by rw [yC]; exact ⟨_, ho, by simp [leave, hj]⟩) h
       ·rename_i hj
        exact hQ (.exit j q) (yI _ (others_mem (by rw [yC]; exact ⟨_, ho, by simp [leave, hj]⟩) (by simp))) a w h
      | ret q => exact hQ (.ret q) (yI _ (others_mem (by rw [yC]; exact ⟨_, ho, rfl⟩) (by simp))) a w h
   ·cases hm
  ·cases hm
 | loop x iha =>
  intro l0 l hm r fx yy rk ρ0 w0 hrd hro hy n0 yd hfn hyd Q hQo p outs hd hQ a w hg
  simp only [rlC] at hm
  split at hm
  ·split at hm
   ·rename_i x' h1
    simp only [yA] at hm
    subst hm
    simp only [cw] at hd
    refine wpIn_loop_ghost (fun n a w => ∃ q zs, loopD fx n0 (cw call mvf iter x' fx n0 yd rk) n q = some zs ∧ (∀ z ∈ zs, z ∈ outs) ∧ GoodT ρ0 X w0 fx N q a w) 3000 ⟨p, outs, hd, fun _ h => h, hg⟩ ?_
    rintro n a' w' ⟨q, zs, h2, h3, hgq⟩
    cases n with
    | zero => simp [loopD] at h2
    | succ n =>
     simp only [loopD, andD] at h2
     split at h2
     rotate_left
     ·cases h2
     rename_i qg hqg
     have hgq' := gcD_ok hfn hqg hgq
     obtain ⟨os, h4, h5⟩ := bindL_ok h2
     refine iha _ _ h1 r fx yy rk ρ0 w0 hrd hro hy n0 yd hfn hyd _ (LetsOut_then hQo) qg os h4 (fun o ho a w h => ?_) a' w' hgq'
     obtain ⟨ys, h6, h7⟩ := h5 o ho
     cases o with
     | normal q' => exact ⟨n, yH n, q', ys, h6, fun z hz => h3 z (h7 z hz), h⟩
     | exit j q' =>
      simp only [yA] at h6
      subst h6
      exact hQ _ (h3 _ (h7 _ (by simp))) a w h
     | ret q' =>
      simp only [yA] at h6
      subst h6
      exact hQ _ (h3 _ (h7 _ (by simp))) a w h
   ·cases hm
  ·cases hm
 | rangeFunc g ps asg body iha ihb => exact cw_rfn hP hcall hiter iha ihb
 | _ => intro l0 l hm; simp [rlC] at hm
end
theorem resD_ok {p : Pt} {e : Env} (he : ∀ i, get e i = p.1.get i) {K : List V → Prop} : ∀ (ls : List LRes) (acc xs : List V), resD p ls = some xs → K (acc.reverse ++ xs) → resP p.2 e ls acc K
 | [], acc, xs, h, hK => by
  simp only [resD, yA] at h
  subst h
  simpa [resP] using hK
 | .tmp t :: r, acc, xs, h, hK => by
  simp only [resD] at h
  split at h
  ·rename_i ys hy
   simp only [yA] at h
   subst h
   simp only [resP, he]
   exact resD_ok he r _ ys hy (by simpa using hK)
  ·cases h
 | .cell a n :: r, acc, xs, h, hK => by
  simp only [resD] at h
  split at h
  ·rename_i x ys hx hy
   simp only [yA] at h
   subst h
   simp only [resP, he]
   exact load_ok (K := fun x => resP p.2 e r (x :: acc) K) hx (resD_ok he r _ ys hy (by simpa using hK))
  ·cases h
theorem argsT_get : ∀ (i : Nat) (xs : List V) (E : Tr) (j : Nat), (argsT i xs E).get j = if i ≤ j ∧ j < i + xs.length then (xs[j - i]?).getD .any else E.get j
 | i, [], E, j => by
  simp only [argsT, List.length_nil, Nat.add_zero]
  rw [if_neg (by omega)]
 | i, x :: r, E, j => by
  simp only [argsT]
  rw [argsT_get (i + 1) r]
  simp only [putT, forceV_eq, List.length_cons]
  rw [Tr.get_put _ _ _ _ _ (yH i)]
  by_cases h : j = i
  ·subst h
   rw [if_neg (by omega), if_pos rfl, if_pos (by omega)]
   simp
  ·by_cases h2 : i + 1 ≤ j ∧ j < i + 1 + r.length
   ·rw [if_pos h2, if_pos (by omega), show j - i = (j - (i + 1)) + 1 by omega]
    simp
   ·rw [if_neg h2, if_neg h, if_neg (by omega)]
theorem args_get (xs : List V) (j : Nat) : get (args0 0 xs) j = (argsT 0 xs .lf).get j := by
 rw [args0_get, argsT_get]
 simp only [Nat.zero_le, if_true, Nat.sub_zero, yM, true_and]
 split
 ·rfl
 ·rename_i h
  have : xs[j]? = none := by simpa using h
  rw [this]
  rfl
theorem body_ok (hP : P.follows .mixedOrders = true) {call : CallD} {mvf : FuncId → Option Nat} {iter : ItD} (hcall : ∀ f zas h0 mv r h', call f zas h0 mv = some (r, h') → Callable P f ∧ Fn P f zas h0 mv (fun r1 h1 => r1 = r ∧ h1 = h')) (hiter : ItOk P iter)
  {f : FuncId} {en : Ent} (hl : rlF P f en.code = some (en.code, en.rs, en.nt)) {args : List V} {h0 : List Blk} {mv : List Nat} {r : V} {h' : List Blk}
  (hd : bodyD call mvf iter en args h0 mv ((List.range h0.length).filter fun k => !(hasN mv k)) = some (r, h')) : Fn P f args h0 mv (fun r1 h1 => r1 = r ∧ h1 = h') := by
 generalize hfxd : ((List.range h0.length).filter fun k => !(hasN mv k)) = fx at hd
 unfold bodyD at hd
 split at hd
 ·rename_i hc
  simp only [yB, decide_eq_true_eq] at hc
  split at hd
  ·rename_i outs hcw
   unfold rlF at hl
   split at hl
   ·rename_i fn hf
    split at hl
    ·rename_i c rs' hb hres ht
     simp only [yB, Bool.not_eq_true', decide_eq_true_eq] at ht
     cases hm : rlC P fn.ntmps c en.code with
     | none => simp [hm] at hl
     | some l1 =>
      simp only [hm, Option.map_some, yA, yJ] at hl
      obtain ⟨rfl, hrs, hnt⟩ := hl
      have hfx : keepP fx h0 := keep_of hc.2
      have hmv : ∀ k, k < h0.length → k ∉ mv → k ∈ fx := by
       intro k hk hkm
       rw [← hfxd, List.mem_filter]
       refine ⟨by simpa using hk, ?_⟩
       cases hh : hasN mv k with
       | true => exact absurd (hasN_iff.1 hh) hkm
       | false => rfl
      intro ρ X w vals hr ha
      have hvl := RepL_len ha
      refine (callsIn_wide (n := 0)).1 (callsIn_of_wp_marks hf hb trivial ?_)
      have hg : GoodT ρ X w fx fn.ntmps (argsT 0 args .lf, h0) { tmps := vals.toArray ++ Array.replicate (fn.ntmps - vals.toArray.size) undef, defers := [] } w :=
       ⟨args0 0 args, 0, args_get args, ρ, ⟨⟨Fr.refl _ _, fun _ _ => rfl⟩, hfx⟩, ⟨hr, args0_rep ha _⟩, by simp; omega, Marks.nil⟩
      have hend : ∀ p, finD fx h0.length en.rs p = some (r, h') → ∀ s, (∀ i, get s.e i = p.1.get i) → s.h = p.2 → ∀ a w', Good ρ X w fx fn.ntmps s a w' → ∃ v, (results fn a.tmps).run P w' = .ok v w' ∧ ∃ val r1 h1 ρ', Ending.returned v = .returned val ∧ ((r1 = r ∧ h1 = h') ∧ h0.length ≤ h1.length) ∧ Fr ρ w ρ' w' ∧ Rep ρ' X w' h1 ∧ RepV ρ' X w' r1 val ∧
        ∀ k, k < h0.length → k ∉ mv → ρ' k = ρ k := by
       rintro p hfin ⟨e, h, b⟩ he rfl a w' ⟨ρ', ⟨⟨hf1, hfx1⟩, hk1⟩, ⟨hr1, he1⟩, hN1, hd1⟩
       unfold finD at hfin
       split at hfin
       ·cases hfin
       ·rename_i xs hxs
        generalize hL : keepN h0.length p.2 (namesL xs) = L at hfin
        simp only at hfin
        split at hfin
        ·rename_i hcc
         simp only [yB] at hcc
         simp only [yA, yJ] at hfin
         obtain ⟨rfl, rfl⟩ := hfin
         obtain ⟨hn, hlt, hle⟩ := numB_ok hcc.1
         obtain ⟨ys, vs, h5, h6, h7⟩ := resP_run hr1 he1 (K := fun ys => ys = xs) fn.results.toList rs' [] [] hres trivial (by rw [hrs]; exact resD_ok he _ [] xs hxs rfl)
         simp only [List.reverse_nil, List.nil_append] at h5
         subst h5
         refine ⟨tupU vs, results_run ht.1 h7, _, _, _, calleeLoc ρ' L, rfl, ⟨⟨rfl, rfl⟩, ?_⟩, hf1.trans gc_fr, gc_rep hr1 hn hlt, gc_val (tup_rep h6), fun k hk hkm => ?_⟩
         ·rw [List.length_map, ← hL]
          simp [keepN]
         ·rw [callee_at (by rw [← hL]; exact keepN_get hk)]
          exact hfx1 k (hmv k hk hkm)
        ·cases hfin
      have hone : ∀ o ∈ outs, (∃ p, o = .normal p ∨ o = .ret p) ∧ finD fx h0.length en.rs o.pt = some (r, h') := by
       intro o ho
       unfold endD at hd
       split at hd
       ·simp only [yK] at ho; subst ho; exact ⟨⟨_, .inl rfl⟩, hd⟩
       ·simp only [yK] at ho; subst ho; exact ⟨⟨_, .inr rfl⟩, hd⟩
       ·cases hd
      refine cw_sound (P := P) (X := X) (N := fn.ntmps) hP hcall hiter c _ _ hm none fx (fun _ _ _ _ => False) none ρ w (.inl rfl) trivial (fun _ => YOk_none) h0.length _ (fun k hk => by rw [← hfxd, List.mem_filter] at hk; simpa using hk.1)
       (fun _ _ _ _ _ _ _ h _ => by simp at h) _ ?_ _ outs hcw (fun o ho a w' hgd => ?_) _ _ hg
      ·rintro ⟨a, w', val, _, _, _, hq, _⟩
       cases hq
      ·obtain ⟨⟨p, hp⟩, hfin⟩ := hone o ho
       obtain ⟨e, b, he, hgd⟩ := hgd
       rcases hp with rfl | rfl
       ·exact leaves_of (hend p hfin ⟨e, p.2, b⟩ he rfl) a.defers a w' rfl hgd
       ·exact leaves_of (hend p hfin ⟨e, p.2, b⟩ he rfl) a.defers a w' rfl hgd
    ·cases hl
   ·cases hl
  ·cases hd
 ·cases hd
theorem heapsD_ok : ∀ {outs : List Out} {hs : List (List Blk)}, heapsD outs = some hs → ∀ o ∈ outs, (∃ p, (o = .normal p ∨ o = .ret p) ∧ p.2 ∈ hs)
 | [], _, _, o, ho => by simp at ho
 | x :: r, hs, h, o, ho => by
  simp only [heapsD] at h
  split at h
  ·rename_i p l hl
   simp only [yA] at h
   subst h
   rcases yF.1 ho with rfl | ho
   ·exact ⟨p, .inl rfl, by simp⟩
   ·obtain ⟨q, h1, h2⟩ := heapsD_ok hl o ho
    exact ⟨q, h1, by simp [h2]⟩
  ·rename_i p l hl
   simp only [yA] at h
   subst h
   rcases yF.1 ho with rfl | ho
   ·exact ⟨p, .inr rfl, by simp⟩
   ·obtain ⟨q, h1, h2⟩ := heapsD_ok hl o ho
    exact ⟨q, h1, by simp [h2]⟩
  ·cases h
theorem ibody_ok (hP : P.follows .mixedOrders = true) {call : CallD} {mvf : FuncId → Option Nat} {iter : ItD} (hcall : ∀ f zas h0 mv r h', call f zas h0 mv = some (r, h') → Callable P f ∧ Fn P f zas h0 mv (fun r1 h1 => r1 = r ∧ h1 = h')) (hiter : ItOk P iter)
  {f : FuncId} {en : Ent} (hl : rlF P f en.code = some (en.code, en.rs, en.nt)) {args : List V} {fx : List Nat} {k : Nat} {yd : YtD} {h : List Blk} {hs : List (List Blk)}
  (hd : ibodyD call mvf iter en args fx k yd h = some hs) {Y : Yt} {K : List Blk → Prop}
  (hY : ∀ xs E h b rs Z, yd xs (E, h) = some rs → (∀ r ∈ rs, AT b r.2 (Z r.1)) → Y xs ⟨E.toEnv, h, b⟩ Z) (hK : ∀ h' ∈ hs, K h') : Iter P f args fx k Y h K := by
 unfold ibodyD at hd
 split at hd
 ·rename_i hc
  simp only [yB, decide_eq_true_eq, List.isEmpty_iff, yG, Nat.blt_eq] at hc
  split at hd
  ·rename_i outs hcw
   unfold rlF at hl
   split at hl
   ·rename_i fn hf
    split at hl
    ·rename_i c rs' hb hres ht
     simp only [yB, Bool.not_eq_true', decide_eq_true_eq] at ht
     cases hm : rlC P fn.ntmps c en.code with
     | none => simp [hm] at hl
     | some l1 =>
      simp only [hm, Option.map_some, yA, yJ] at hl
      obtain ⟨rfl, hrs, hnt⟩ := hl
      have hnil : fn.results.toList = [] := by
       cases hl : fn.results.toList with
       | nil => rfl
       | cons r rs =>
        rw [hrs, hc.1.2] at hres
        rw [hl] at hres
        simp only [rlRes] at hres
        split at hres <;> simp at hres
      intro ρ X w vals hr ha hfx hYk
      have hvl := RepL_len ha
      refine (callsIn_wide (n := 0)).1 (callsIn_of_wp_marks hf hb trivial ?_)
      have hg : GoodT ρ X w fx fn.ntmps (argsT 0 args .lf, h) { tmps := vals.toArray ++ Array.replicate (fn.ntmps - vals.toArray.size) undef, defers := [] } w :=
       ⟨args0 0 args, 0, args_get args, ρ, ⟨⟨Fr.refl _ _, fun _ _ => rfl⟩, hfx⟩, ⟨hr, args0_rep ha _⟩, by simp; omega, Marks.nil⟩
      have hend : ∀ s, K s.h → ∀ a w', Good ρ X w fx fn.ntmps s a w' → ∃ v, (results fn a.tmps).run P w' = .ok v w' ∧ ∃ val h' ρ', Ending.returned v = .returned val ∧ K h' ∧ (Fr ρ w ρ' w' ∧ Rep ρ' X w' h') ∧ (∀ j ∈ fx, ρ' j = ρ j) ∧ keepP fx h' := by
       intro s hK a w' hgood
       obtain ⟨ρ', ⟨⟨hf1, hfx1⟩, hk1⟩, ⟨hr1, he1⟩, hN1, hd1⟩ := hgood
       exact ⟨tupU [], results_run (us := []) (by rw [hnil]; simp) (by rw [hnil]; trivial), _, s.h, ρ', rfl, hK, ⟨hf1, hr1⟩, hfx1, hk1⟩
      refine cw_sound (P := P) (X := X) (N := fn.ntmps) hP hcall hiter c _ _ hm none fx (fun k' xs s Z => k' = k ∧ ∃ E : Tr, (∀ i, get s.e i = E.get i) ∧ Y xs ⟨E.toEnv, s.h, s.b⟩ Z) none ρ w (.inl rfl) trivial (fun k' => ?_) h.length _ hc.2.2 ?_ _ ?_ _ outs hcw (fun o ho a w' hgd => ?_) _ _ hg
      ·intro ρ1 w1 s tmps xs vs Z h1 h2 h3 h5 h6 h7
       obtain ⟨rfl, E, hE, h7⟩ := h7
       exact hYk ρ1 w1 ⟨E.toEnv, s.h, s.b⟩ tmps xs vs Z h1 h2 h3 (fun i => by rw [toEnv_get, ← hE]; exact h5 i) h6 h7
      ·intro k' xs s E rs Z hs hrs hZ
       simp only at hrs
       split at hrs
       ·rename_i hk
        rw [Nat.beq_eq] at hk
        exact ⟨hk, E, hs, hY xs E s.h s.b rs Z hrs hZ⟩
       ·cases hrs
      ·rintro ⟨a, w', val, _, _, hq, _⟩
       cases hq
      ·obtain ⟨p, hp, hin⟩ := heapsD_ok hd o ho
       obtain ⟨e, b, he, hgd⟩ := hgd
       rcases hp with rfl | rfl
       ·exact leaves_of (hend ⟨e, p.2, b⟩ (hK _ hin)) a.defers a w' rfl hgd
       ·exact leaves_of (hend ⟨e, p.2, b⟩ (hK _ hin)) a.defers a w' rfl hgd
    ·cases hl
   ·cases hl
  ·cases hd
 ·cases hd
theorem findM_ok {f : FuncId} {zas : List V} {h0 : List Blk} {r : V} {h : List Blk} : ∀ {M : List Memo}, findM f zas h0 M = some (r, h) → ∃ m ∈ M, m.f = f ∧ m.zas = zas ∧ m.h0 = h0 ∧ m.r = r ∧ m.h = h
 | [], hf => by simp [findM] at hf
 | m :: l, hf => by
  simp only [findM] at hf
  split at hf
  ·rename_i hc
   simp only [yB, Nat.beq_eq] at hc
   simp only [yA, yJ] at hf
   exact ⟨m, by simp, hc.1, eqL_ok hc.2.1, eqBs_ok hc.2.2, hf.1, hf.2⟩
  ·obtain ⟨m', h1, h2⟩ := findM_ok hf
   exact ⟨m', by simp [h1], h2⟩
def okL (P : Program) : Nat → List (Option Ent) → Prop
 | _, [] => True
 | i, none :: r => okL P (i + 1) r
 | i, some en :: r => rlF P i en.code = some (en.code, en.rs, en.nt) ∧ okL P (i + 1) r
theorem okL_get : ∀ {T : List (Option Ent)} {i : Nat}, okL P i T → ∀ (f : Nat) (en : Ent), T[f]? = some (some en) → rlF P (i + f) en.code = some (en.code, en.rs, en.nt)
 | none :: r, i, h, 0, en, he => by simp at he
 | some e :: r, i, h, 0, en, he => by
  simp only [List.getElem?_cons_zero, yA] at he
  subst he
  exact h.1
 | none :: r, i, h, f + 1, en, he => by
  have := okL_get (i := i + 1) h f en (by simpa using he)
  rwa [show i + (f + 1) = i + 1 + f by omega]
 | some e :: r, i, h, f + 1, en, he => by
  have := okL_get (i := i + 1) h.2 f en (by simpa using he)
  rwa [show i + (f + 1) = i + 1 + f by omega]
 | [], _, _, _, _, he => by simp at he
def Memo.ok (P : Program) (m : Memo) : Prop := Callable P m.f ∧ Fn P m.f m.zas m.h0 [] (fun r h => r = m.r ∧ h = m.h)
theorem fiD_ok (hP : P.follows .mixedOrders = true) {T : List (Option Ent)} (hT : okL P 0 T) {M : List Memo} (hM : ∀ m ∈ M, m.ok P) : ∀ d : Nat,
  (∀ (f : FuncId) (zas : List V) (h0 : List Blk) (mv : List Nat) (r : V) (h' : List Blk), (fiD T M d).1 f zas h0 mv = some (r, h') → Callable P f ∧ Fn P f zas h0 mv (fun r1 h1 => r1 = r ∧ h1 = h')) ∧ ItOk P (fiD T M d).2
 | 0 => ⟨fun _ _ _ _ _ _ h => by simp [fiD] at h, fun _ _ _ _ _ _ _ h => by simp [fiD] at h⟩
 | d + 1 => by
  obtain ⟨ih1, ih2⟩ := fiD_ok hP hT hM d
  refine ⟨fun f zas h0 mv r h' h => ?_, fun f zas fx k yd h hs hd => ?_⟩
  ·simp only [fiD] at h
   split at h
   ·rename_i x hx
    simp only [yA] at h
    subst h
    split at hx
    ·rename_i hmv
     have hmv' : mv = [] := by simpa using hmv
     subst hmv'
     obtain ⟨m, h1, rfl, rfl, rfl, rfl, rfl⟩ := findM_ok hx
     exact hM m h1
    ·cases hx
   ·split at h
    ·rename_i en hen
     have hl := okL_get hT f en hen
     rw [yM] at hl
     exact ⟨rlF_callable hl, body_ok hP ih1 ih2 hl h⟩
    ·cases h
  ·simp only [fiD] at hd
   split at hd
   ·rename_i en hen
    have hl := okL_get hT f en hen
    rw [yM] at hl
    exact ⟨rlF_callable hl, fun Y K hY hK => ibody_ok hP ih1 ih2 hl hd hY hK⟩
   ·cases hd
theorem fnD_ok (hP : P.follows .mixedOrders = true) {T : List (Option Ent)} (hT : okL P 0 T) {M : List Memo} (hM : ∀ m ∈ M, m.ok P) (d : Nat) (f : FuncId) (zas : List V) (h0 : List Blk) (mv : List Nat) (r : V) (h' : List Blk)
  (h : fnD T M d f zas h0 mv = some (r, h')) : Callable P f ∧ Fn P f zas h0 mv (fun r1 h1 => r1 = r ∧ h1 = h') := (fiD_ok hP hT hM d).1 f zas h0 mv r h' h
end
end Go.Fx
