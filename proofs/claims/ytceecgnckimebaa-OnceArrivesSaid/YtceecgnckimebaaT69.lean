import Derived.Test.YtceecgnckimebaaT20
set_option linter.unusedVariables false
set_option linter.unusedSimpArgs false
set_option linter.unusedSectionVars false
open Bool renaming true_and → yA, false_eq_true → vS, eq_iff_iff → vW, and_eq_true → uK, or_eq_false_iff → uR
open List renaming take_succ_cons → yB, drop_succ_cons → yC, take → yE, take_of_length_le → yF, getElem_mem → yG, mem_cons → yH, map_cons → yI, map_append → yJ, sum_cons → yK, mem_filter → yL, getElem_of_mem → yM, map → yO, filter_cons_of_neg → yP, mem_append → yS, length_set → yT, foldl_cons → yU, getElem_cons_succ → yV, getElem?_eq_getElem → yW, mem_singleton → yX, replicate_succ → yY, length_append → vA, foldl_nil → vB, getElem_set → vC, range → vD, filter_eq_nil_iff → vE, length_take → vF, find?_cons_of_neg → vG, length_cons → vH, getElem_cons_zero → vI, getElem_set_self → vK, getElem_set_ne → vL, mem_append_right → vM, filter_eq_self → vN, any_eq_true → vO, filter_cons_of_pos → vQ, take_add_one → vR, mem_cons_self → vU, pairwise_iff_getElem → vV, length_eq_zero_iff → vX, find?_cons_of_pos → vY, filter_cons → vZ, map_nil → uA, foldl_append → uB, mem_append_left → uD, mem_cons_of_mem → uE, filter_append → uF, length_drop → uG, length_map → uI, mem_of_mem_take → uJ, set_getElem_self → uL, range_succ → uM, getD_eq_getElem?_getD → uN, length_filter_le → uO, length_singleton → uP, map_congr_left → uQ
open Int renaming le_refl → yD, natCast_zero → yQ, toNat → vP, toNat_natCast → vT, lt_trichotomy → uH
open Nat renaming lt_or_ge → yN, le_refl → yZ, le_trans → vJ, add_zero → uC
namespace Go.Fx.P
open Go Go.Fx Go.Proofs Go.Fx.R
set_option maxRecDepth 20000
def cmpI (a b : Int) : Int := if a < b then -1 else if b < a then 1 else 0
theorem ok61 (n : Int) : Ok 61 [.i n] (Is (.b false)) := by
 refine ok_of lw61 (by simp) ?_
 unfold c61
 simp -implicitDefEqProofs only [rX,↓rY,ofConst,↓reduceIte,Nat.reduceEqDiff,reduceCtorEq,resP,tupV,wfV,cxN,args0]
 simp
theorem ok53 (a b : Int) : Ok 53 [.i a, .i b] (Is (.i (cmpI a b))) := by
 refine ok_of lw53 (by simp) ?_
 unfold c53 cmpI
 simp -implicitDefEqProofs only [rX,ofConst,↓reduceIte,reduceCtorEq,cxN,args0]
 refine call_is (ok61 a) ⟨⟨trivial, trivial⟩, rfl, trivial⟩ rfl trivial ?_
 simp -implicitDefEqProofs only [rX,↓reduceIte,Nat.reduceEqDiff,reduceCtorEq]
 refine call_is (ok61 b) ⟨⟨trivial, trivial⟩, rfl, trivial⟩ rfl trivial ?_
 simp -implicitDefEqProofs only [rX,↓rY,ofConst,↓reduceIte,Nat.reduceEqDiff,reduceCtorEq,resP,tupV,wfV]
 simp only [br, decide_eq_true_eq, decide_eq_false_iff_not]
 refine ⟨fun h1 => ?_, fun h1 => ⟨fun h2 => ?_, fun h2 => ?_⟩⟩
 ·rw [if_pos h1]
 ·rw [if_neg h1, if_pos h2]
 ·rw [if_neg h1, if_neg h2]
theorem ok52 (m : Sp) (b : Int) : Ok 52 [.agg (enS m), .i b] (Is (.i (cmpI m.1 b))) := by
 refine ok_of lw52 (by simp) ?_
 unfold c52
 simp -implicitDefEqProofs only [rX,↓rY,ofConst,cells?,↓reduceIte,Nat.reduceEqDiff,reduceCtorEq,freshP,cxN,enS_0,args0]
 refine call_is (ok53 m.1 b) ⟨⟨trivial, trivial, trivial⟩, rfl, rfl, trivial⟩ rfl trivial ?_
 simp -implicitDefEqProofs only [rX,↓reduceIte,resP,tupV,wfV]
def Mks (l : List Sp) : Prop := l.Pairwise fun s t => s.1 < t.1
def posM (l : List Sp) (who : Int) : Nat := (l.filter fun m => decide (m.1 < who)).length
def isM (l : List Sp) (who : Int) : Bool := l.any fun m => m.1 == who
theorem posM_eq : ∀ {l : List Sp} {who : Int} {k : Nat}, Mks l → k ≤ l.length → (∀ j (h : j < l.length), j < k → l[j].1 < who) → (∀ j (h : j < l.length), k ≤ j → who ≤ l[j].1) → posM l who = k := by
 intro l who k _ hk h1 h2
 unfold posM
 conv => lhs; rw [← List.take_append_drop k l]
 rw [uF, vN.2, vE.2, List.append_nil, vF]
 ·omega
 ·intro m hm
  obtain ⟨j, hj, rfl⟩ := yM hm
  rw [uG] at hj
  have := h2 (k + j) (by omega) (by omega)
  simp only [List.getElem_drop, decide_eq_true_eq]
  omega
 ·intro m hm
  obtain ⟨j, hj, rfl⟩ := yM hm
  rw [vF] at hj
  have := h1 j (by omega) (by omega)
  simpa [List.getElem_take] using this
theorem isM_eq {l : List Sp} {who : Int} {k : Nat} (hm : Mks l) (h1 : ∀ j (h : j < l.length), j < k → l[j].1 < who) (h2 : ∀ j (h : j < l.length), k ≤ j → who ≤ l[j].1) : isM l who = if h : k < l.length then l[k].1 == who else false := by
 have hp := vV.1 hm
 rw [vW]
 unfold isM
 rw [vO]
 constructor
 ·rintro ⟨m, hmem, he⟩
  obtain ⟨j, hj, rfl⟩ := yM hmem
  have he' : l[j].1 = who := by simpa using he
  rcases Nat.lt_trichotomy j k with c | c | c
  ·have := h1 j hj c; omega
  ·subst c; rw [dif_pos hj]; simpa using he'
  ·have := h2 k (by omega) (yZ _)
   have := hp k j (by omega) hj c
   omega
 ·intro h
  split at h
  ·rename_i hk
   exact ⟨_, yG hk, h⟩
  ·cases h
theorem sh_r {k : IntKind} {a c : Int} {K : V → Prop} : shiftInt .shr k a c K = (0 ≤ c ∧ K (.v (.int k (a.fdiv (2 ^ (min c.toNat k.bits)))))) := rfl
theorem ok51 (l : List Sp) (who : Int) (hm : Mks l) (hl : l.length ≤ 1000000) : Ok 51 [.bro 2 (l.map enS), .i who, .clo 52 []] (Is (.tup [.i (posM l who), .b (isM l who)])) := by
 refine ok_of lw51 (by simp) ?_
 unfold c51
 simp -implicitDefEqProofs only [rX,↓rY,ofConst,↓reduceIte,Nat.reduceEqDiff,Nat.reduceAdd,reduceCtorEq,cxN,args0]
 intro hmx
 have hp := vV.1 hm
 refine loopP_intro (fun g : Nat × Nat => ⟨[(10, .i g.2), (9, .i g.1), (8, .i l.length), (2, .clo 52 []), (1, .i who), (0, .bro 2 (l.map enS))], [], 0⟩) (fun g => (g.1 ≤ g.2 ∧ g.2 ≤ l.length) ∧ (∀ j (h : j < l.length), j < g.1 → l[j].1 < who) ∧ (∀ j (h : j < l.length), g.2 ≤ j → who ≤ l[j].1)) (fun g => g.2 - g.1) (0, l.length) ⟨⟨by simp, by simp⟩, fun j h h2 => absurd h2 (Nat.not_lt_zero _), fun j h h2 => absurd h (by simp only at h2; omega)⟩ ?_ ?_
 ·simp -implicitDefEqProofs only [rX,↓reduceIte,Nat.reduceEqDiff,reduceCtorEq,leE,leH,keepP,wfE,wfB,wfV,wfL,yQ]
 rintro ⟨i, j⟩ ⟨⟨hij, hj⟩, h1, h2⟩
 simp only at hij hj h1 h2
 unfold c51l0
 rcases yN i j with c | c
 ·have hd : decide ((i : Int) < (j : Int)) = true := decide_eq_true (by omega)
  have hw : IntKind.wrap .u64 ((i : Int) + (j : Int)) = ((i + j : Nat) : Int) := by rw [wrap_in .u64 _ (by simp only [lo, Fx.hi]; omega)]; omega
  have hdv : ((i + j : Nat) : Int).fdiv (2 ^ (min (vP 1) IntKind.u64.bits)) = (((i + j) / 2 : Nat) : Int) := by
   rw [show min (vP 1) IntKind.u64.bits = 1 from rfl]
   rw [Int.fdiv_eq_ediv_of_nonneg _ (by decide)]
   omega
  have hw2 : IntKind.wrap .i64 (((i + j) / 2 : Nat) : Int) = (((i + j) / 2 : Nat) : Int) := wrap_in .i64 _ (by simp only [lo, Fx.hi]; omega)
  have hk : (i + j) / 2 < l.length := by omega
  simp -implicitDefEqProofs only [rX,↓rY,ofConst,↓reduceIte,Nat.reduceEqDiff,reduceCtorEq,enS_len,enS_take,hd,hw,hdv,hw2,↓sh_r]
  refine ⟨by simp only [lo, hi]; omega, by omega, ⟨by omega, by omega⟩, hk, ?_⟩
  refine call_is (ok52 l[(i + j) / 2] who) ⟨⟨⟨trivial, trivial, trivial⟩, trivial, trivial⟩, ⟨rfl, rfl, trivial⟩, rfl, trivial⟩ rfl trivial ?_
  cases h3 : decide (l[(i + j) / 2].1 < who) with
  | true =>
   have h3' : l[(i + j) / 2].1 < who := by simpa using h3
   have h4 : decide (cmpI l[(i + j) / 2].1 who < 0) = true := by unfold cmpI; rw [if_pos h3']; rfl
   simp -implicitDefEqProofs only [rX,↓rY,ofConst,↓reduceIte,Nat.reduceEqDiff,reduceCtorEq,leE,leH,keepP,wfE,wfB,wfV,wfL,h4]
   refine ⟨by simp only [lo, hi]; omega, ((i + j) / 2 + 1, j), ⟨⟨⟨by simp only; omega, hj⟩, fun k hk2 hlt => ?_, h2⟩, by simp only; omega⟩, by simp⟩
   simp only at hlt
   by_cases e : k = (i + j) / 2
   ·subst e; exact h3'
   ·have := hp k ((i + j) / 2) hk2 hk (by omega); omega
  | false =>
   have h3' : ¬ l[(i + j) / 2].1 < who := by simpa using h3
   have h4 : decide (cmpI l[(i + j) / 2].1 who < 0) = false := by unfold cmpI; rw [if_neg h3']; split <;> rfl
   simp -implicitDefEqProofs only [rX,↓rY,ofConst,↓reduceIte,Nat.reduceEqDiff,reduceCtorEq,leE,leH,keepP,wfE,wfB,wfV,wfL,h4]
   refine ⟨(i, (i + j) / 2), ⟨⟨⟨by simp only; omega, by simp only; omega⟩, h1, fun k hk2 hlt => ?_⟩, by simp only; omega⟩, by simp⟩
   simp only at hlt
   by_cases e : k = (i + j) / 2
   ·subst e; omega
   ·have := hp ((i + j) / 2) k hk hk2 (by omega); omega
 ·have hd : decide ((i : Int) < (j : Int)) = false := decide_eq_false (by omega)
  have he : i = j := by omega
  subst he
  have hpos := posM_eq hm hj h1 h2
  have his := isM_eq hm h1 h2
  rcases yN i l.length with c2 | c2
  ·have hd2 : decide ((i : Int) < (l.length : Int)) = true := decide_eq_true (by omega)
   simp -implicitDefEqProofs only [rX,↓rY,↓reduceIte,Nat.reduceEqDiff,reduceCtorEq,enS_len,enS_take,hd,hd2]
   refine ⟨⟨by omega, by omega⟩, c2, ?_⟩
   refine call_is (ok52 l[i] who) ⟨⟨⟨trivial, trivial, trivial⟩, trivial, trivial⟩, ⟨rfl, rfl, trivial⟩, rfl, trivial⟩ rfl trivial ?_
   have h4 : (cmpI l[i].1 who == 0) = isM l who := by
    rw [his, dif_pos c2]
    have := h2 i c2 (yZ _)
    unfold cmpI
    rw [if_neg (by omega)]
    rw [vW]
    split
    ·simp; omega
    ·simp; omega
   simp -implicitDefEqProofs only [rX,↓rY,ofConst,↓reduceIte,Nat.reduceEqDiff,resP,tupV,wfV,wfL,h4,hpos]
  ·have hd2 : decide ((i : Int) < (l.length : Int)) = false := decide_eq_false (by omega)
   rw [dif_neg (by omega)] at his
   simp -implicitDefEqProofs only [rX,↓rY,ofConst,↓reduceIte,Nat.reduceEqDiff,resP,tupV,wfV,wfL,hd,hd2,hpos,his]
theorem ok40 (l : List Sp) (who : Int) (hm : Mks l) (hl : l.length ≤ 1000000) : Ok 40 [.bro 2 (l.map enS), .i who] (Is (.tup [.i (posM l who), .b (isM l who)])) := by
 refine ok_of lw40 (by simp) ?_
 unfold c40
 simp -implicitDefEqProofs only [rX,ofConst,↓reduceIte,Nat.reduceEqDiff,reduceCtorEq,cxN,args0]
 refine call_is (ok51 l who hm hl) ⟨⟨trivial, trivial, trivial, trivial⟩, ⟨rfl, rfl⟩, rfl, ⟨rfl, trivial⟩, trivial⟩ rfl trivial ?_
 simp -implicitDefEqProofs only [rX,↓rY,↓reduceIte,Nat.reduceEqDiff,resP,tupV,wfV,wfL]
end Go.Fx.P
namespace Go.Fx.P
open Go Go.Fx Go.Proofs Go.Fx.R
set_option maxRecDepth 20000
def markOf (l : List Sp) (who : Int) : Int := match l.find? fun m => m.1 == who with
 | some m => m.2
 | none => 0
theorem mks_cons {m : Sp} {l : List Sp} : Mks (m :: l) ↔ (∀ t ∈ l, m.1 < t.1) ∧ Mks l := List.pairwise_cons
theorem markOf_no {l : List Sp} {who : Int} (h : isM l who = false) : markOf l who = 0 := by
 unfold markOf
 have : l.find? (fun m => m.1 == who) = none := by
  rw [List.find?_eq_none]
  intro m hm
  unfold isM at h
  rw [List.any_eq_false] at h
  exact h m hm
 rw [this]
theorem posM_at : ∀ {l : List Sp} {who : Int}, Mks l → isM l who = true → ∃ h : posM l who < l.length, l[posM l who].1 = who ∧ markOf l who = l[posM l who].2
 | [], who, _, h => by simp [isM] at h
 | m :: l, who, hm, h => by
  obtain ⟨h1, h2⟩ := mks_cons.1 hm
  rcases uH m.1 who with c | c | c
  ·have hi : isM l who = true := by
    unfold isM at h ⊢
    rw [List.any_cons] at h
    have : (m.1 == who) = false := by rw [beq_eq_false_iff_ne]; omega
    rw [this, Bool.false_or] at h
    exact h
   obtain ⟨q1, q2, q3⟩ := posM_at h2 hi
   have hp : posM (m :: l) who = posM l who + 1 := by
    unfold posM
    rw [vQ (by simpa using c)]
    rfl
   have hf : markOf (m :: l) who = markOf l who := by
    unfold markOf
    rw [vG (by simp; omega)]
   refine ⟨by rw [hp, vH]; omega, ?_, ?_⟩
   ·simp only [hp, yV]; exact q2
   ·simp only [hp, yV]; rw [hf]; exact q3
  ·have hp : posM (m :: l) who = 0 := by
    unfold posM
    rw [vX, vE]
    intro t ht
    rcases yH.1 ht with rfl | ht
    ·simp; omega
    ·have := h1 t ht; simp; omega
   have hf : markOf (m :: l) who = m.2 := by
    unfold markOf
    rw [vY (by simp [c])]
   refine ⟨by rw [hp]; simp, ?_, ?_⟩
   ·simp only [hp, vI]; exact c
   ·simp only [hp, vI]; exact hf
  ·unfold isM at h
   rw [vO] at h
   obtain ⟨t, ht, he⟩ := h
   have he' : t.1 = who := by simpa using he
   rcases yH.1 ht with rfl | ht
   ·omega
   ·have := h1 t ht; omega
theorem ok23 (l : List Sp) (who : Int) (hm : Mks l) (hl : l.length ≤ 1000000) : Ok 23 [spans l, .i who] (Is (.i (markOf l who))) := by
 refine ok_of lw23 (by simp) ?_
 unfold c23
 simp -implicitDefEqProofs only [rX,ofConst,↓reduceIte,Nat.reduceEqDiff,reduceCtorEq,cxN,args0]
 refine call_is (ok40 l who hm hl) ⟨⟨trivial, trivial, trivial⟩, ⟨rfl, rfl⟩, rfl, trivial⟩ rfl trivial ?_
 cases h : isM l who with
 | true =>
  obtain ⟨h1, h2, h3⟩ := posM_at hm h
  simp -implicitDefEqProofs only [rX,↓rY,↓reduceIte,Nat.reduceEqDiff,reduceCtorEq,resP,tupV,wfV,enS_1]
  exact ⟨⟨by omega, by omega⟩, h1, h3.symm⟩
 | false =>
  simp -implicitDefEqProofs only [rX,↓rY,ofConst,↓reduceIte,Nat.reduceEqDiff,resP,tupV,wfV]
  rw [markOf_no h]
def badM (l : List Sp) (me : Int) (k : Nat) (h : k < l.length) : Bool := ((!partyB l[k].1 || l[k].1 == me) || !countsB l[k].2) || (decide (0 < k) && decide (l[k].1 ≤ (l[k - 1]'(by omega)).1))
def MkOk (l : List Sp) (me : Int) : Prop := ∀ k (h : k < l.length), badM l me k h = false
instance {l : List Sp} {me : Int} : Decidable (MkOk l me) := inferInstanceAs (Decidable (∀ k (h : k < l.length), badM l me k h = false))
def mkB (l : List Sp) (me : Int) : Bool := decide (MkOk l me)
theorem MkOk.at {l : List Sp} {me : Int} (h : MkOk l me) {k : Nat} (hk : k < l.length) : ((0 ≤ l[k].1 ∧ l[k].1 < 128) ∧ l[k].1 ≠ me ∧ 1 ≤ l[k].2 ∧ l[k].2 ≤ 1099511627776) ∧ (0 < k → (l[k - 1]'(by omega)).1 < l[k].1) := by
 have := h k hk
 unfold badM partyB countsB at this
 simp at this
 omega
theorem MkOk.mks {l : List Sp} {me : Int} (h : MkOk l me) : Mks l := by
 unfold Mks
 rw [vV]
 intro i j hi hj hij
 have key : ∀ d, ∀ (hd : i + 1 + d < l.length), l[i].1 < l[i + 1 + d].1 := by
  intro d
  induction d with
  | zero =>
   intro hd
   have := (h.at (show i + 1 < l.length by omega)).2 (by omega)
   simpa using this
  | succ d ih =>
   intro hd
   have h1 := ih (by omega)
   have h2 := (h.at (show i + 1 + (d + 1) < l.length by omega)).2 (by omega)
   simp only [show i + 1 + (d + 1) - 1 = i + 1 + d by omega] at h2
   omega
 have := key (j - i - 1) (by omega)
 simpa [show i + 1 + (j - i - 1) = j by omega] using this
end Go.Fx.P
namespace Go.Fx.R
def takeS : List Sp → Int → List Sp
 | [], _ => []
 | s :: l, n => if n ≤ 0 then [] else (s.1, s.1 + min (s.2 - s.1) n) :: takeS l (n - min (s.2 - s.1) n)
theorem takeS_zero {l : List Sp} {n : Int} (h : n ≤ 0) : takeS l n = [] := by
 cases l with
 | nil => rfl
 | cons s l => exact if_pos h
def pfS : List Sp → Int → List Sp
 | [], _ => []
 | s :: l, n => (s.1, s.1 + min n (s.2 - s.1)) :: pfS l (n - min n (s.2 - s.1))
def prS : List Sp → Int → List Sp
 | [], _ => []
 | s :: l, n => (s.1 + min n (s.2 - s.1), s.2) :: prS l (n - min n (s.2 - s.1))
theorem pfS_in {x : Int} : ∀ {l : List Sp} {n : Int}, Sep l → 0 ≤ n → (inS (pfS l n) x ↔ inS (takeS l n) x)
 | [], n, _, _ => by simp [pfS, takeS]
 | s :: l, n, h, hn => by
  obtain ⟨h1, h2, h3⟩ := sep_cons.1 h
  have ih := pfS_in (x := x) (l := l) (n := n - min n (s.2 - s.1)) h3 (by omega)
  unfold pfS takeS
  by_cases c : n ≤ 0
  ·have h0 : n = 0 := by omega
   subst h0
   rw [if_pos (by omega), inS_cons, ih, takeS_zero (by omega), inS_nil]
   constructor
   ·rintro (h | h)
    ·simp only at h; omega
    ·exact h
   ·exact fun h => h.elim
  ·rw [if_neg c, inS_cons, inS_cons, ih, Int.min_comm]
theorem takeS_sub : ∀ {l : List Sp} {n : Int} {t : Sp}, t ∈ takeS l n → ∃ s ∈ l, s.1 = t.1 ∧ t.2 ≤ s.2
 | [], _, t, h => by simp [takeS] at h
 | s :: l, n, t, h => by
  unfold takeS at h
  split at h
  ·simp at h
  ·rcases yH.1 h with rfl | h
   ·exact ⟨s, by simp, rfl, by simp only; omega⟩
   ·obtain ⟨u, hu, h1⟩ := takeS_sub h
    exact ⟨u, by simp [hu], h1⟩
theorem sep_takeS : ∀ {l : List Sp} {n : Int}, Sep l → Sep (takeS l n)
 | [], _, _ => sep_nil
 | s :: l, n, h => by
  obtain ⟨h1, h2, h3⟩ := sep_cons.1 h
  unfold takeS
  split
  ·exact sep_nil
  ·refine sep_cons.2 ⟨by simp only; omega, fun t ht => ?_, sep_takeS h3⟩
   obtain ⟨u, hu, h4, _⟩ := takeS_sub ht
   have := h2 u hu
   simp only
   omega
theorem takeS_in {x : Int} : ∀ {l : List Sp} {n : Int}, inS (takeS l n) x → inS l x
 | l, n, ⟨t, ht, h1, h2⟩ => by
  obtain ⟨s, hs, h3, h4⟩ := takeS_sub ht
  exact ⟨s, hs, by omega, by omega⟩
theorem prS_in {x : Int} : ∀ {l : List Sp} {n : Int}, Sep l → 0 ≤ n → (inS (prS l n) x ↔ inS l x ∧ ¬ inS (takeS l n) x)
 | [], n, _, _ => by simp [prS, inS_nil]
 | s :: l, n, h, hn => by
  obtain ⟨h1, h2, h3⟩ := sep_cons.1 h
  have ih := prS_in (x := x) (l := l) (n := n - min n (s.2 - s.1)) h3 (by omega)
  have hgt : inS l x → s.2 < x := fun hx => inS_gt h2 hx
  have hgt2 : ∀ m, inS (takeS l m) x → s.2 < x := fun m hx => hgt (takeS_in hx)
  unfold prS takeS
  by_cases c : n ≤ 0
  ·have h0 : n = 0 := by omega
   subst h0
   rw [if_pos (by omega), inS_cons, ih, takeS_zero (by omega), inS_nil, inS_cons]
   have e : s.1 + min 0 (s.2 - s.1) = s.1 := by omega
   simp only [e, not_false_eq_true, and_true]
  ·rw [if_neg c, inS_cons, ih, inS_cons, inS_cons, Int.min_comm (s.2 - s.1) n]
   simp only
   constructor
   ·rintro (h | ⟨h4, h5⟩)
    ·refine ⟨.inl ⟨by omega, h.2⟩, ?_⟩
     rintro (h6 | h6)
     ·omega
     ·have := hgt2 _ h6; omega
    ·refine ⟨.inr h4, ?_⟩
     rintro (h6 | h6)
     ·have := hgt h4; omega
     ·exact h5 h6
   ·rintro ⟨h4 | h4, h5⟩
    ·left
     rw [not_or] at h5
     omega
    ·right
     rw [not_or] at h5
     exact ⟨h4, h5.2⟩
theorem of_pfS {l : List Sp} {n : Int} (h : Sep l) (hn : 0 ≤ n) : ofS (pfS l n) = takeS l n := Sep.ext sep_ofS (sep_takeS h) fun x => by rw [in_ofS, pfS_in h hn]
theorem of_prS {l : List Sp} {n : Int} (h : Sep l) (hn : 0 ≤ n) : ofS (prS l n) = minusS l (takeS l n) := Sep.ext sep_ofS (sep_minusS h) fun x => by rw [in_ofS, prS_in h hn, in_minusS]
end Go.Fx.R
namespace Go.Fx.P
open Go Go.Fx Go.Proofs Go.Fx.R
set_option maxRecDepth 20000
def lstN : List Sp → Int → Int
 | [], n => n
 | s :: l, n => lstN l (n - min n (s.2 - s.1))
theorem lst_app : ∀ {l m : List Sp} {n : Int}, lstN (l ++ m) n = lstN m (lstN l n) ∧ pfS (l ++ m) n = pfS l n ++ pfS m (lstN l n) ∧ prS (l ++ m) n = prS l n ++ prS m (lstN l n)
 | [], m, n => ⟨rfl, rfl, rfl⟩
 | s :: l, m, n => by
  obtain ⟨h1, h2, h3⟩ := lst_app (l := l) (m := m) (n := n - min n (s.2 - s.1))
  exact ⟨h1, by simp only [List.cons_append, pfS, lstN, h2], by simp only [List.cons_append, prS, lstN, h3]⟩
theorem lstN_b : ∀ {l : List Sp} {n : Int}, Sep l → 0 ≤ n → 0 ≤ lstN l n ∧ lstN l n ≤ n
 | [], n, _, h => ⟨h, yD _⟩
 | s :: l, n, hs, h => by
  obtain ⟨h1, h2, h3⟩ := sep_cons.1 hs
  have := lstN_b (l := l) (n := n - min n (s.2 - s.1)) h3 (by omega)
  simp only [lstN]
  omega
theorem lst_step {l : List Sp} {n : Int} {k : Nat} (h : k < l.length) : lstN (l.take (k + 1)) n = lstN (l.take k) n - min (lstN (l.take k) n) (l[k].2 - l[k].1) ∧
  pfS (l.take (k + 1)) n = pfS (l.take k) n ++ [(l[k].1, l[k].1 + min (lstN (l.take k) n) (l[k].2 - l[k].1))] ∧ prS (l.take (k + 1)) n = prS (l.take k) n ++ [(l[k].1 + min (lstN (l.take k) n) (l[k].2 - l[k].1), l[k].2)] := by
 rw [vR, yW h]
 exact lst_app (l := l.take k) (m := [l[k]]) (n := n)
theorem ofS_snoc {l : List Sp} {s : Sp} : ofS (l ++ [s]) = addS (ofS l) s := ofS_app
theorem pf_bd : ∀ {l : List Sp} {n : Int}, Bd l → Sep l → 0 ≤ n → Bd (pfS l n) ∧ Bd (prS l n)
 | [], n, _, _, _ => ⟨by simp [pfS, Bd], by simp [prS, Bd]⟩
 | s :: l, n, h, hs, hn => by
  obtain ⟨h1, h2, h3⟩ := sep_cons.1 hs
  have hsb := h s (by simp)
  obtain ⟨q1, q2⟩ := pf_bd (l := l) (n := n - min n (s.2 - s.1)) (fun t ht => h t (by simp [ht])) h3 (by omega)
  constructor
  ·intro t ht
   simp only [pfS] at ht
   rcases yH.1 ht with rfl | ht
   ·simp only; omega
   ·exact q1 t ht
  ·intro t ht
   simp only [prS] at ht
   rcases yH.1 ht with rfl | ht
   ·simp only; omega
   ·exact q2 t ht
theorem mid_snoc {l : List Sp} {s : Sp} (h : Bd l) (hs : (0 ≤ s.1 ∧ s.1 ≤ 1099511627776)) : Mid (l ++ [s]) := fun t ht => by
 rcases yS.1 ht with ht | ht
 ·have := h t ht; omega
 ·rw [yX] at ht; subst ht; omega
theorem ok25 (l : List Sp) (n : Int) (hl : Vd l) (hn : 0 ≤ n ∧ n ≤ 1099511627776) : Ok 25 [spans l, .i n] (Is (.tup [spans (takeS l n), spans (minusS l (takeS l n))])) := by
 rw [← of_prS hl.1 hn.1, ← of_pfS hl.1 hn.1]
 refine ok_of lw25 (by simp) ?_
 unfold c25
 simp -implicitDefEqProofs only [rX,↓rY,ofConst,↓reduceIte,reduceCtorEq,cxN,args0]
 intro hm
 refine loopP_ghost (.virt 2 2 (by decide) (.nilE 4 0 rfl (.nilE 5 1 rfl (.give (fun k => decide (k < 2)) (by simp) (.refl _))))) (fun k : Nat => ⟨[(11, .i k), (10, .i l.length), (9, .ro 2 (l.map enS)), (5, spans (ofS (prS (l.take k) n))), (4, spans (ofS (pfS (l.take k) n))), (1, .i (lstN (l.take k) n))], [], 0⟩) (fun k => k ≤ l.length) (fun k => l.length - k) 0 (by omega) ?_ ?_
 ·simp -implicitDefEqProofs only [rX,↓reduceIte,Nat.reduceEqDiff,reduceCtorEq,leE,leH,keepP,wfE,wfB,wfV,Nat.reduceLT,yQ,yY,St.give,gvE,gvV,gvH,gvB]
  exact ⟨rfl, rfl, rfl⟩
 rintro k hk
 have htk := hl.take k
 have hb := lstN_b htk.1 hn.1
 obtain ⟨q1, q2⟩ := pf_bd htk.2 htk.1 hn.1
 have v1 := Vd.of q1
 have v2 := Vd.of q2
 have w1 := v1.len
 have w2 := v2.len
 unfold c25l0
 rcases yN k l.length with hk' | hk'
 ·have hd : decide ((k : Int) < (l.length : Int)) = true := decide_eq_true (by omega)
  have hlb := hl.2 _ (yG hk')
  have hls := hl.1.1 _ (yG hk')
  obtain ⟨e1, e2, e3⟩ := lst_step (n := n) hk'
  simp -implicitDefEqProofs only [rX,↓rY,ofConst,cells?,splice,↓reduceIte,Nat.reduceEqDiff,Nat.reduceAdd,freshP,buildP,Nat.reduceLeDiff,enS_len,enS_take,enS_0,enS_1,enS_C,hd]
  refine ⟨⟨by omega, by omega⟩, hk', by simp only [lo, hi]; omega, by simp only [lo, hi]; omega, by simp only [lo, hi]; omega, ?_⟩
  refine call_is (ok41 (ofS (pfS (l.take k) n)) (l[k].1, l[k].1 + min (lstN (l.take k) n) (l[k].2 - l[k].1)) (by omega) v1.1 (mid_snoc v1.2 hlb.1)) ⟨⟨trivial, ⟨trivial, trivial, trivial⟩, trivial⟩, ⟨rfl, rfl⟩, ⟨rfl, rfl, trivial⟩, trivial⟩ rfl trivial ?_
  simp -implicitDefEqProofs only [rX,↓rY,cells?,splice,↓reduceIte,Nat.reduceEqDiff,Nat.reduceAdd,buildP,Nat.reduceLeDiff,enS_0,enS_1]
  refine ⟨by simp only [lo, hi]; omega, ?_⟩
  refine call_is (ok41 (ofS (prS (l.take k) n)) (l[k].1 + min (lstN (l.take k) n) (l[k].2 - l[k].1), l[k].2) (by omega) v2.1 (mid_snoc v2.2 (by simp only; omega))) ⟨⟨trivial, ⟨trivial, trivial, trivial⟩, trivial⟩, ⟨rfl, rfl⟩, ⟨rfl, rfl, trivial⟩, trivial⟩ rfl trivial ?_
  simp -implicitDefEqProofs only [rX,↓rY,ofConst,↓reduceIte,Nat.reduceEqDiff,leE,leH,keepP,wfE,wfB,wfV]
  refine ⟨by simp only [lo, hi, maxLen] at *; omega, k + 1, ⟨by omega, by omega⟩, ?_⟩
  rw [e1, e2, e3, ofS_snoc, ofS_snoc]
  simp
 ·have hd : decide ((k : Int) < (l.length : Int)) = false := decide_eq_false (by omega)
  rw [yF hk']
  simp -implicitDefEqProofs only [rX,↓rY,↓reduceIte,Nat.reduceEqDiff,resP,tupV,wfV,wfL,hd]
end Go.Fx.P
namespace Go.Fx.P
open Go Go.Fx Go.Proofs Go.Fx.R
set_option maxRecDepth 20000
structure Dig where
 a0 : Int
 a1 : Int
 a2 : Int
 a3 : Int
 a4 : Int
 a5 : Int
 a6 : Int
 a7 : Int
 a8 : Int
 a9 : Int
 a10 : Int
 a11 : Int
 a12 : Int
 a13 : Int
 a14 : Int
 a15 : Int
 deriving DecidableEq, Inhabited
abbrev u8 (x : Int) : V := .v (.int .u8 x)
abbrev Dig.enc (d : Dig) : List V := [u8 d.a0, u8 d.a1, u8 d.a2, u8 d.a3, u8 d.a4, u8 d.a5, u8 d.a6, u8 d.a7, u8 d.a8, u8 d.a9, u8 d.a10, u8 d.a11, u8 d.a12, u8 d.a13, u8 d.a14, u8 d.a15]
structure Gift where
 to : Int
 serial : Int
 uses : List Sp
 deriving DecidableEq, Inhabited
def Gift.enc (g : Gift) : List V := [.i g.to, .i g.serial, spans g.uses]
abbrev gifts (l : List Gift) : V := .ro 3 (l.map Gift.enc)
structure Purse where
 id : Dig
 me : Int
 left : List Sp
 spent : List Sp
 sent : List Sp
 heard : List Sp
 out : List Gift
 deriving DecidableEq, Inhabited
abbrev Purse.enc (p : Purse) : List V := [u8 p.id.a0, u8 p.id.a1, u8 p.id.a2, u8 p.id.a3, u8 p.id.a4, u8 p.id.a5, u8 p.id.a6, u8 p.id.a7, u8 p.id.a8, u8 p.id.a9, u8 p.id.a10, u8 p.id.a11, u8 p.id.a12, u8 p.id.a13, u8 p.id.a14, u8 p.id.a15, .i p.me, spans p.left, spans p.spent, spans p.sent, spans p.heard, gifts p.out]
theorem eq_dig {d e : Dig} {K : Bool → Prop} : (optK (aggC (V.agg d.enc)) fun xs => optK (aggC (V.agg e.enc)) fun ys => eqFs xs ys ((List.range' 0 16).map fun i => (i, TypeDesc.int IntKind.u8)) K) = K (d == e) := by
 have hr : (List.range' 0 16).map (fun i => (i, TypeDesc.int IntKind.u8)) = [(0, .int .u8), (1, .int .u8), (2, .int .u8), (3, .int .u8), (4, .int .u8), (5, .int .u8), (6, .int .u8), (7, .int .u8), (8, .int .u8), (9, .int .u8), (10, .int .u8), (11, .int .u8), (12, .int .u8), (13, .int .u8), (14, .int .u8), (15, .int .u8)] := rfl
 rw [hr]
 have e1 : (d.a0 == e.a0 && (d.a1 == e.a1 && (d.a2 == e.a2 && (d.a3 == e.a3 && (d.a4 == e.a4 && (d.a5 == e.a5 && (d.a6 == e.a6 && (d.a7 == e.a7 && (d.a8 == e.a8 && (d.a9 == e.a9 && (d.a10 == e.a10 && (d.a11 == e.a11 && (d.a12 == e.a12 && (d.a13 == e.a13 && (d.a14 == e.a14 && (d.a15 == e.a15 && true)))))))))))))))) = (d == e) := by
  cases d; cases e
  rw [vW]
  simp
 apply propext
 rw [← e1]
 constructor
 ·exact fun h => h.2.2.2.2.2.2.2.2.2.2.2.2.2.2.2.2
 ·exact fun h => ⟨⟨rfl, rfl⟩, ⟨rfl, rfl⟩, ⟨rfl, rfl⟩, ⟨rfl, rfl⟩, ⟨rfl, rfl⟩, ⟨rfl, rfl⟩, ⟨rfl, rfl⟩, ⟨rfl, rfl⟩, ⟨rfl, rfl⟩, ⟨rfl, rfl⟩, ⟨rfl, rfl⟩, ⟨rfl, rfl⟩, ⟨rfl, rfl⟩, ⟨rfl, rfl⟩, ⟨rfl, rfl⟩, ⟨rfl, rfl⟩, h⟩
end Go.Fx.P
namespace Go.Fx.P
open Go Go.Fx Go.Proofs Go.Fx.R
set_option maxRecDepth 20000
def zeroP : Purse := ⟨⟨0, 0, 0, 0, 0, 0, 0, 0, 0, 0, 0, 0, 0, 0, 0, 0⟩, 0, [], [], [], [], []⟩
def leftN (n : Int) : List Sp := if n ≤ 0 then [] else [(1, 1 + n)]
theorem leftN_of {n : Int} : ofS [(1, 1 + n)] = leftN n := by
 show addS [] (1, 1 + n) = _
 unfold addS leftN
 by_cases h : n ≤ 0
 ·rw [if_pos h, if_pos (by simp only; omega)]
 ·rw [if_neg h, if_neg (by simp only; omega)]; rfl
def newP (id : Dig) (me n : Int) : Purse × Int :=
 if (!partyB me || decide (n < 0)) = true then (zeroP, 1) else if 1073741824 < n then (zeroP, 2) else (⟨id, me, leftN n, [], [], [], []⟩, 0)
theorem ok10 (id : Dig) (me n : Int) (hn : n ≤ 9223372036854775807) : Ok 10 [.agg id.enc, .i me, .i n] (Is (.tup [.agg (newP id me n).1.enc, .i (newP id me n).2])) := by
 refine okN_gv ?_
 refine ok_of lw10 (by simp) ?_
 unfold c10
 simp -implicitDefEqProofs only [rX,↓rY,ofConst,cells?,↓reduceIte,Nat.reduceEqDiff,Nat.reduceAdd,reduceCtorEq,freshP,cxN,zc22,args0]
 refine call_is (ok20 me) ⟨⟨trivial, trivial⟩, rfl, trivial⟩ rfl trivial ?_
 have hp : ∀ (P : Purse) (e : Int), newP id me n = (P, e) → (newP id me n).1 = P ∧ (newP id me n).2 = e := fun P e h => by rw [h]; exact ⟨rfl, rfl⟩
 cases h1 : partyB me with
 | false =>
  obtain ⟨e1, e2⟩ := hp zeroP 1 (by simp [newP, h1])
  rw [e1, e2]
  simp -implicitDefEqProofs only [rX,↓rY,ofConst,cells?,splice,↓reduceIte,Nat.reduceEqDiff,Nat.reduceAdd,buildP,isC]
  refine ret_data ?_
  simp -implicitDefEqProofs only [rX,↓rY,↓reduceIte,Nat.reduceEqDiff,Nat.reduceAdd,resP,tupV,wfV,wfL,yC,yB,yA]
  simp [Gv, tupV, gvV, gvL, wk, wkL, wkR, wfV, wfL, zeroP]
 | true =>
  cases h2 : decide (n < 0) with
  | true =>
   obtain ⟨e1, e2⟩ := hp zeroP 1 (by unfold newP; rw [h1, h2]; rfl)
   rw [e1, e2]
   simp -implicitDefEqProofs only [rX,↓rY,rdK,ofConst,cells?,splice,↓reduceIte,Nat.reduceEqDiff,Nat.reduceAdd,reduceCtorEq,freshP,buildP,litsP,isD,isC,Nat.reduceLT,Nat.reduceLeDiff,h2]
   refine ret_data ?_
   simp -implicitDefEqProofs only [rX,↓rY,↓reduceIte,Nat.reduceEqDiff,Nat.reduceAdd,resP,tupV,wfV,wfL,yC,yB,yA]
   simp [Gv, tupV, gvV, gvL, wk, wkL, wkR, wfV, wfL, zeroP]
  | false =>
   have h2' : ¬ n < 0 := by simpa using h2
   cases h3 : decide (1073741824 < n) with
   | true =>
    have h3' : 1073741824 < n := by simpa using h3
    obtain ⟨e1, e2⟩ := hp zeroP 2 (by simp [newP, h1, h2, h3'])
    rw [e1, e2]
    simp -implicitDefEqProofs only [rX,↓rY,rdK,ofConst,cells?,splice,↓reduceIte,Nat.reduceEqDiff,Nat.reduceAdd,reduceCtorEq,freshP,buildP,litsP,isD,isC,Nat.reduceLT,Nat.reduceLeDiff,h2,h3]
    refine ret_data ?_
    simp -implicitDefEqProofs only [rX,↓rY,↓reduceIte,Nat.reduceEqDiff,Nat.reduceAdd,resP,tupV,wfV,wfL,yC,yB,yA]
    simp [Gv, tupV, gvV, gvL, wk, wkL, wkR, wfV, wfL, zeroP]
   | false =>
    have h3' : ¬ 1073741824 < n := by simpa using h3
    obtain ⟨e1, e2⟩ := hp ⟨id, me, leftN n, [], [], [], []⟩ 0 (by simp [newP, h1, h2, h3'])
    rw [e1, e2]
    simp -implicitDefEqProofs only [rX,↓rY,rdK,ofConst,cells?,splice,↓reduceIte,Nat.reduceEqDiff,Nat.reduceAdd,reduceCtorEq,freshP,buildP,litsP,isD,isC,Nat.reduceLT,Nat.reduceLeDiff,h2,h3]
    have h2n : ¬ n < 0 := by simpa using h2
    refine ⟨by simp only [lo, hi]; omega, ?_⟩
    refine call_58m [(1, 1 + n)] rfl (by simp) (fun s hs => by rw [yX] at hs; subst hs; simp) rfl rfl (by simp) trivial ?_
    rw [leftN_of]
    simp -implicitDefEqProofs only [rX,↓rY,ofConst,cells?,splice,↓reduceIte,Nat.reduceEqDiff,Nat.reduceAdd,reduceCtorEq,buildP,killE,killB,kill,kills,St.kill,isC,Nat.reduceLeDiff,yC,yB,yA]
    refine ret_data ?_
    simp -implicitDefEqProofs only [rX,↓rY,↓reduceIte,Nat.reduceEqDiff,Nat.reduceAdd,resP,tupV,wfV,wfL,yB,yA]
    simp [Gv, tupV, gvV, gvL, wk, wkL, wkR, wfV, wfL]
end Go.Fx.P
namespace Go.Fx.P
open Go Go.Fx Go.Proofs Go.Fx.R
set_option maxRecDepth 20000
theorem raw61 (l : List Sp) (hl : l.length ≤ 4398046511104) : Ok 42 [spans l] (fun r h => IsA (.sl 0 0 l.length) [.arr 2 (l.map enS)] r h ∨ (l = [] ∧ IsA .nil [] r h)) := by
 refine ok_of lw42 (by simp) ?_
 unfold c42 spans
 simp -implicitDefEqProofs only [rX,↓rY,ofConst,↓reduceIte,Nat.reduceEqDiff,reduceCtorEq,freshP,litsP,killE,killB,kill,St.kill,cxN,args0]
 have hA : retP [] 0 [LRes.tmp 2] (fun r h => IsA (.sl 0 0 l.length) [.arr 2 (l.map enS)] r h ∨ (l = [] ∧ IsA .nil [] r h)) ⟨[(2, V.sl 0 0 l.length), (7, V.sl 0 0 l.length), (6, V.ro 2 (yO enS l)), (5, V.any), (4, V.b false), (3, V.ro 2 (yO enS l)), (2, V.v (Value.slice none 0 0)), (0, V.ro 2 (yO enS l))], [Blk.arr 2 (yO enS l), Blk.dead], 0⟩ := by
  rw [retP_eq]
  simp -implicitDefEqProofs only [rX,↓reduceIte,resP,tupV,keepP,liveP,wfV]
  exact ⟨[.arr 2 (l.map enS)], ⟨by simp [leH, leB], by simp [wfV, wfL, liveP], by simp [wfB]⟩, .inl ⟨rfl, rfl⟩⟩
 refine ⟨fun _ => ⟨.inr trivial, by omega, hA⟩, fun h => ⟨?_, .inr trivial, by omega, hA⟩⟩
 have h0 : l = [] := by simpa using h
 rw [retP_eq]
 simp -implicitDefEqProofs only [rX,↓reduceIte,resP,tupV,keepP,wfV]
 exact ⟨[], ⟨by simp [leH], by simp, by simp [wfB]⟩, .inr ⟨h0, rfl, rfl⟩⟩
theorem ok42A (l : List Sp) (hl : l.length ≤ 4398046511104) : Ok 42 [spans l] (IsA (.sl 0 0 l.length) [.arr 2 (l.map enS)]) := by
 refine okN_ghost (raw61 l hl) ?_
 rintro r h (⟨rfl, rfl⟩ | ⟨rfl, rfl, rfl⟩)
 ·exact ⟨_, _, ⟨rfl, rfl⟩, _, .refl _, by simp -implicitDefEqProofs only [rX,↓reduceIte,leE,leH,leB,keepP,liveP,wfE,wfB,wfV]⟩
 ·refine ⟨_, _, ⟨rfl, rfl⟩, _, .virt 1 2 (by decide) (.nilE 0 0 rfl (.refl _)), ?_⟩
  simp -implicitDefEqProofs only [rX,↓reduceIte,leE,leH,leB,keepP,liveP,wfE,wfB,wfV,yY]
theorem MkOk.len {l : List Sp} {me : Int} (h : MkOk l me) : l.length ≤ 128 := by
 have key : ∀ k (hk : k < l.length), (k : Int) ≤ l[k].1 := by
  intro k
  induction k with
  | zero => intro hk; exact (h.at hk).1.1.1
  | succ k ih =>
   intro hk
   have h1 := ih (by omega)
   have h2 := (h.at hk).2 (by omega)
   simp only [Nat.add_sub_cancel] at h2
   omega
 rcases yN 128 l.length with c | c
 ·have h1 := key 128 c
  have h2 := (h.at c).1.1.2
  omega
 ·exact c
theorem mkB_iff {l : List Sp} {me : Int} : mkB l me = true ↔ MkOk l me := decide_eq_true_iff
end Go.Fx.P
namespace Go.Fx.P
open Go Go.Fx Go.Proofs Go.Fx.R
set_option maxRecDepth 20000
def setM (l : List Sp) (who n : Int) : List Sp := (l.filter fun m => decide (m.1 < who)) ++ (who, n) :: l.filter fun m => decide (who < m.1)
theorem mks_split {l : List Sp} (hm : Mks l) (who : Int) : l.take (posM l who) = (l.filter fun m => decide (m.1 < who)) ∧ l.drop (if isM l who then posM l who + 1 else posM l who) = (l.filter fun m => decide (who < m.1)) ∧ posM l who ≤ l.length := by
 induction l with
 | nil => simp [posM, isM]
 | cons m l ih =>
  obtain ⟨h1, h2⟩ := mks_cons.1 hm
  obtain ⟨i1, i2, i3⟩ := ih h2
  rcases uH m.1 who with c | c | c
  ·have e1 : posM (m :: l) who = posM l who + 1 := by simp [posM, c]
   have e2 : isM (m :: l) who = isM l who := by simp [isM]; intro h; omega
   rw [e1, e2, yB, i1, vQ (by simpa using c), yP (by simp; omega), ← i2]
   refine ⟨rfl, ?_, by simp; omega⟩
   split <;> rfl
  ·have hno : l.filter (fun m => decide (m.1 < who)) = [] := by
    rw [vE]; intro t ht; have := h1 t ht; simp; omega
   have hall : l.filter (fun m => decide (who < m.1)) = l := by
    rw [vN]; intro t ht; have := h1 t ht; simp; omega
   have e1 : posM (m :: l) who = 0 := by unfold posM; rw [yP (by simp; omega), hno]; rfl
   have e2 : isM (m :: l) who = true := by simp [isM, c]
   rw [e1, e2, yP (by simp; omega), yP (by simp; omega), hno, hall]
   simp
  ·have hno : l.filter (fun m => decide (m.1 < who)) = [] := by
    rw [vE]; intro t ht; have := h1 t ht; simp; omega
   have hall : l.filter (fun m => decide (who < m.1)) = l := by
    rw [vN]; intro t ht; have := h1 t ht; simp; omega
   have e1 : posM (m :: l) who = 0 := by
    unfold posM; rw [yP (by simp; omega), hno]; rfl
   have e2 : isM (m :: l) who = false := by
    unfold isM; rw [List.any_eq_false]; intro t ht
    rcases yH.1 ht with rfl | ht
    ·simp; omega
    ·have := h1 t ht; simp; omega
   rw [e1, e2, yP (by simp; omega), vQ (by simpa using c), hno, hall]
   simp
theorem setM_ins {l : List Sp} {who n : Int} (hm : Mks l) (h : isM l who = false) : insL l (posM l who) (who, n) = setM l who n := by
 obtain ⟨h1, h2, _⟩ := mks_split hm who
 rw [h] at h2
 unfold insL setM
 rw [h1]
 simp only [vS, if_false] at h2
 rw [h2]
theorem setM_set {l : List Sp} {who n : Int} (hm : Mks l) (h : isM l who = true) : l.set (posM l who) (who, n) = setM l who n := by
 obtain ⟨h1, h2, _⟩ := mks_split hm who
 obtain ⟨hk, _, _⟩ := posM_at hm h
 rw [h] at h2
 unfold setM
 simp only [if_true] at h2
 rw [← h1, ← h2, List.set_eq_take_append_cons_drop, if_pos hk]
theorem ok43Q (l : List Sp) (i : Nat) (m : Sp) (hi : i ≤ l.length) (hn : l.length ≤ 4398046511104) :
  OkN Try.prog 43 [.sl 0 0 l.length, .i i, .sl 1 0 1] [.arr 2 (l.map enS), .arr 2 [enS m]] [0, 1] (IsQ (fun _ : Unit => True) (fun _ => .sl 0 0 (insL l i m).length) (fun _ => [.arr 2 ((insL l i m).map enS), .dead])) :=
 okN_post (ok43 l i m hi hn) fun r h ⟨h1, h2⟩ => ⟨(), trivial, h1, h2⟩
theorem ok26 (l : List Sp) (who n : Int) (hm : Mks l) (hl : l.length ≤ 1000000) : Ok 26 [spans l, .i who, .i n] (Is (spans (setM l who n))) := by
 refine okN_gv ?_
 refine ok_of lw26 (by simp) ?_
 unfold c26
 simp -implicitDefEqProofs only [rX,ofConst,↓reduceIte,Nat.reduceAdd,reduceCtorEq,cxN,args0]
 refine call_isA [spans l] (.sl 0 0 l.length) (.sl 0 0 l.length) [.arr 2 (l.map enS)] [.arr 2 (l.map enS)] (ok42A l (by omega)) ⟨⟨trivial, trivial⟩, ⟨rfl, rfl⟩, trivial⟩ (by simp [ren]) (by simp [renB]) trivial ?_
 simp -implicitDefEqProofs only [rX,↓reduceIte,Nat.reduceEqDiff,reduceCtorEq]
 have htk : yE l.length (l.map enS) = l.map enS := yF (by simp)
 refine call_is (ok40 l who hm hl) ?_ rfl trivial ?_
 ·simp [lendsOk, lendOk, lends, lend, wkL, wk, wkB, pos, blk, htk]
 obtain ⟨s1, s2, s3⟩ := mks_split hm who
 cases h : isM l who with
 | true =>
  obtain ⟨h1, h2, h3⟩ := posM_at hm h
  simp -implicitDefEqProofs only [rX,↓rY,cells?,splice,↓reduceIte,Nat.reduceEqDiff,arrSz,Nat.reduceAdd,reduceCtorEq,isD,isC,enS_drop]
  refine ⟨⟨by omega, by omega⟩, h1, ?_⟩
  have he : (l.map enS).set (posM l who) (yE 1 (enS l[posM l who]) ++ [V.v (Value.int IntKind.i64 n)]) = (setM l who n).map enS := by
   rw [← setM_set hm h, List.map_set]
   congr 1
   show [V.v (Value.int IntKind.i64 l[posM l who].1), V.v (Value.int IntKind.i64 n)] = _
   rw [h2]; rfl
  rw [he]
  exact ret_sl rfl rfl (by rw [uI, ← setM_set hm h, yT])
 | false =>
  simp -implicitDefEqProofs only [rX,↓rY,cells?,splice,↓reduceIte,Nat.reduceEqDiff,Nat.reduceAdd,reduceCtorEq,freshP,buildP,litsP,isD,Nat.reduceLT,Nat.reduceLeDiff]
  refine call_isM (fun _ : Unit => True) [0, 1] [0, 1] [0, 1] [.sl 0 0 l.length, .i (posM l who), .sl 1 0 1] (fun _ => .sl 0 0 (insL l (posM l who) (who, n)).length) [.arr 2 (l.map enS), .arr 2 [enS (who, n)]] (fun _ => [.arr 2 ((insL l (posM l who) (who, n)).map enS), .dead]) (ok43Q l (posM l who) (who, n) s3 (by omega)) (by simp) (by simp) (by simp [renB, enS, blk]) (by simp [lendsOk, lendOk, lends, lend, wkL, wk, pos]) ?_
  rintro ⟨⟩ _
  refine ⟨trivial, ?_⟩
  rw [setM_ins hm h]
  simp -implicitDefEqProofs only [rX,↓reduceIte,Nat.reduceAdd,reduceCtorEq,killE,killB,kill,kills,St.kill]
  exact ret_sl rfl rfl (by simp)
end Go.Fx.P
namespace Go.Fx.P
open Go Go.Fx Go.Proofs Go.Fx.R
set_option maxRecDepth 20000
end Go.Fx.P
namespace Go.Fx.P
open Go Go.Fx Go.Proofs Go.Fx.R
set_option maxRecDepth 20000
def spendP (p : Purse) : Purse × Int × Int :=
 if p.left.length = 0 then (p, 0, 4)
 else if 1000 < (minusS p.left (takeS p.left 1)).length ∨ 1000 < (bothS p.spent (takeS p.left 1)).length then (p, 0, 2)
 else ({ p with left := minusS p.left (takeS p.left 1), spent := bothS p.spent (takeS p.left 1) }, ((takeS p.left 1).headD (0, 0)).1, 0)
theorem take_bd {l : List Sp} {n : Int} (h : Vd l) : Vd (takeS l n) := vd_of (sep_takeS h.1) fun x hx => h.in (takeS_in hx)
theorem take1_ne {l : List Sp} (h : Vd l) (hn : l.length ≠ 0) : 0 < (takeS l 1).length := by
 cases l with
 | nil => simp at hn
 | cons s l =>
  have := (sep_cons.1 h.1).1
  unfold takeS
  rw [if_neg (by omega)]
  simp
theorem headD_get {l : List Sp} (h : 0 < l.length) : l.headD (0, 0) = l[0] := by
 cases l with
 | nil => simp at h
 | cons s l => rfl
theorem ok16 (p : Purse) (hl : Vd p.left) (hs : Vd p.spent) : Ok 16 [.agg p.enc] (Is (.tup [.agg (spendP p).1.enc, .i (spendP p).2.1, .i (spendP p).2.2])) := by
 refine okN_gv ?_
 refine ok_of lw16 (by simp) ?_
 unfold c16
 simp -implicitDefEqProofs only [rX,↓rY,ofConst,cells?,splice,↓reduceIte,Nat.reduceEqDiff,Nat.reduceAdd,freshP,cxN,zc22,args0]
 have hp : ∀ (P : Purse) (u e : Int), spendP p = (P, u, e) → (spendP p).1 = P ∧ (spendP p).2.1 = u ∧ (spendP p).2.2 = e := fun P u e h => by rw [h]; exact ⟨rfl, rfl, rfl⟩
 simp -implicitDefEqProofs only [rX,yB]
 have hll := hl.len
 cases h1 : decide (p.left.length = 0) with
 | true =>
  have h1' : p.left.length = 0 := by simpa using h1
  have h1i : ((p.left.length : Int) == 0) = true := by simp [h1']
  obtain ⟨e1, e2, e3⟩ := hp p 0 4 (by unfold spendP; rw [if_pos h1'])
  rw [e1, e2, e3]
  simp -implicitDefEqProofs only [rX,↓rY,Nat.reduceAdd,isC,yC,yA,h1i]
  intro _
  refine ret_data ?_
  simp -implicitDefEqProofs only [rX,↓rY,↓reduceIte,Nat.reduceEqDiff,Nat.reduceAdd,resP,tupV,wfV,wfL,yB,yA]
  simp [Gv, tupV, gvV, gvL, wk, wkL, wkR, wfV, wfL]
 | false =>
  have h1' : p.left.length ≠ 0 := by simpa using h1
  have h1i : ((p.left.length : Int) == 0) = false := beq_false_of_ne (by omega)
  simp -implicitDefEqProofs only [rX,↓rY,Nat.reduceAdd,isC,yC,yA,h1i]
  intro _
  refine call_is (ok25 p.left 1 hl (by omega)) ⟨⟨trivial, trivial, trivial⟩, ⟨rfl, rfl⟩, rfl, trivial⟩ rfl trivial ?_
  simp -implicitDefEqProofs only [rX,↓rY,↓reduceIte,Nat.reduceEqDiff,Nat.reduceAdd]
  have htv := take_bd (n := 1) hl
  refine call_is (ok29 p.spent (takeS p.left 1) hs htv.2) ⟨⟨trivial, trivial, trivial⟩, ⟨rfl, rfl⟩, ⟨rfl, rfl⟩, trivial⟩ rfl trivial ?_
  have hml := (hl.minus (b := takeS p.left 1)).len
  have hbl := (hs.both htv.2).len
  have htk := take1_ne hl h1'
  cases h2 : decide (1000 < (minusS p.left (takeS p.left 1)).length) with
  | true =>
   have h2' : 1000 < (minusS p.left (takeS p.left 1)).length := by simpa using h2
   have h2i : decide ((1000 : Int) < ((minusS p.left (takeS p.left 1)).length : Int)) = true := decide_eq_true (by omega)
   obtain ⟨e1, e2, e3⟩ := hp p 0 2 (by unfold spendP; rw [if_neg h1', if_pos (.inl h2')])
   rw [e1, e2, e3]
   simp -implicitDefEqProofs only [rX,↓rY,rdK,ofConst,cells?,splice,↓reduceIte,Nat.reduceEqDiff,Nat.reduceAdd,reduceCtorEq,isC,Nat.reduceLeDiff,enS_0,yC,yB,yA,h2i]
   intro _
   refine ret_data ?_
   simp -implicitDefEqProofs only [rX,↓rY,↓reduceIte,Nat.reduceEqDiff,Nat.reduceAdd,resP,tupV,wfV,wfL,yB,yA]
   simp [Gv, tupV, gvV, gvL, wk, wkL, wkR, wfV, wfL]
  | false =>
   have h2' : ¬ 1000 < (minusS p.left (takeS p.left 1)).length := by simpa using h2
   have h2i : decide ((1000 : Int) < ((minusS p.left (takeS p.left 1)).length : Int)) = false := decide_eq_false (by omega)
   cases h3 : decide (1000 < (bothS p.spent (takeS p.left 1)).length) with
   | true =>
    have h3' : 1000 < (bothS p.spent (takeS p.left 1)).length := by simpa using h3
    have h3i : decide ((1000 : Int) < ((bothS p.spent (takeS p.left 1)).length : Int)) = true := decide_eq_true (by omega)
    obtain ⟨e1, e2, e3⟩ := hp p 0 2 (by unfold spendP; rw [if_neg h1', if_pos (.inr h3')])
    rw [e1, e2, e3]
    simp -implicitDefEqProofs only [rX,↓rY,rdK,ofConst,cells?,splice,↓reduceIte,Nat.reduceEqDiff,Nat.reduceAdd,reduceCtorEq,isC,Nat.reduceLeDiff,enS_0,yC,yB,yA,h2i,h3i]
    intro _ _
    refine ret_data ?_
    simp -implicitDefEqProofs only [rX,↓rY,↓reduceIte,Nat.reduceEqDiff,Nat.reduceAdd,resP,tupV,wfV,wfL,yB,yA]
    simp [Gv, tupV, gvV, gvL, wk, wkL, wkR, wfV, wfL]
   | false =>
    have h3' : ¬ 1000 < (bothS p.spent (takeS p.left 1)).length := by simpa using h3
    have h3i : decide ((1000 : Int) < ((bothS p.spent (takeS p.left 1)).length : Int)) = false := decide_eq_false (by omega)
    obtain ⟨e1, e2, e3⟩ := hp { p with left := minusS p.left (takeS p.left 1), spent := bothS p.spent (takeS p.left 1) } ((takeS p.left 1).headD (0, 0)).1 0 (by unfold spendP; rw [if_neg h1', if_neg (by omega)])
    rw [e1, e2, e3, headD_get htk]
    simp -implicitDefEqProofs only [rX,↓rY,rdK,ofConst,cells?,splice,↓reduceIte,Nat.reduceEqDiff,Nat.reduceAdd,reduceCtorEq,isC,Nat.reduceLeDiff,enS_0,yC,yB,yA,h2i,h3i]
    refine fun _ _ => ⟨by omega, htk, ?_⟩
    refine ret_data ?_
    simp -implicitDefEqProofs only [rX,↓rY,↓reduceIte,Nat.reduceEqDiff,Nat.reduceAdd,resP,tupV,wfV,wfL,yB,yA]
    simp [Gv, tupV, gvV, gvL, wk, wkL, wkR, wfV, wfL]
end Go.Fx.P
namespace Go.Fx.P
open Go Go.Fx Go.Proofs Go.Fx.R
set_option maxRecDepth 20000
end Go.Fx.P
namespace Go.Fx.P
open Go Go.Fx Go.Proofs Go.Fx.R
set_option maxRecDepth 20000
theorem g_len {g : Gift} : g.enc.length = 3 := rfl
theorem g_0 {g : Gift} : g.enc[0]? = some (.i g.to) := rfl
theorem g_1 {g : Gift} : g.enc[1]? = some (.i g.serial) := rfl
theorem g_2 {g : Gift} : g.enc[2]? = some (spans g.uses) := rfl
theorem g_C {g : Gift} : g.enc.all isC = true := rfl
theorem g_D {g : Gift} : g.enc.all isD = true := rfl
theorem g_t {g : Gift} : yE 3 g.enc = g.enc := rfl
end Go.Fx.P
namespace Go.Fx.P
open Go Go.Fx Go.Proofs Go.Fx.R
set_option maxRecDepth 20000
end Go.Fx.P
namespace Go.Fx.P
open Go Go.Fx Go.Proofs Go.Fx.R
set_option maxRecDepth 20000
def frzQ (fx : List Nat) (v : V) (r : List Nat) (s : St) (K : St → Prop) : Prop :=
 match v with
 | .sl k _ _ => frz1 fx k (blk s.h k) s fun s' => frzP fx r s' K
 | _ => frzP fx r s K
theorem frzP_n {fx : List Nat} {s : St} {K : St → Prop} : frzP fx [] s K = K s := rfl
theorem frzP_c {fx : List Nat} {x : Nat} {r : List Nat} {e : Env} {h : List Blk} {b : Nat} {K : St → Prop} : frzP fx (x :: r) ⟨e, h, b⟩ K = frzQ fx (get e x) r ⟨e, h, b⟩ K := rfl
@[congr] theorem c_frzQ {fx : List Nat} {v v' : V} {r : List Nat} {s : St} {K : St → Prop} (q : v = v') : frzQ fx v r s K = frzQ fx v' r s K := by rw [q]
@[congr] theorem c_frz1 {fx : List Nat} {k : Nat} {B B' : Blk} {s : St} {K : St → Prop} (q : B = B') : frz1 fx k B s K = frz1 fx k B' s K := by rw [q]
@[congr] theorem c_frzP {fx xs : List Nat} {s s' : St} {K : St → Prop} (q : s = s') : frzP fx xs s K = frzP fx xs s' K := by rw [q]
theorem op_litsf {cx : Cx} {e : Env} {h : List Blk} {b : Nat} {K : V → St → Prop} {xs : List Nat} {j sz n : Nat} {z : List Value} {ps : List (Nat × Operand)} : aOp cx (.litsf xs j sz n z ps) ⟨e, h, b⟩ K =
  frzP (cx.fx ++ cx.bn) xs ⟨e, h, b⟩ fun s => litsP s.e sz (List.replicate n (z.map .v)) ps fun els => freshP s.h (s.b + j) ∧ K (.sl (s.b + j) 0 n) { s with h := s.h.set (s.b + j) (.arr sz els) } := rfl
theorem frzQ_r {fx : List Nat} {k : Nat} {l : List (List V)} {r : List Nat} {s : St} {K : St → Prop} : frzQ fx (.ro k l) r s K = frzP fx r s K := rfl
theorem frzQ_a {fx : List Nat} {l : List V} {r : List Nat} {s : St} {K : St → Prop} : frzQ fx (.agg l) r s K = frzP fx r s K := rfl
end Go.Fx.P
namespace Go.Fx.P
open Go Go.Fx Go.Proofs Go.Fx.R
set_option maxRecDepth 20000
theorem raw44 (l : List Gift) (hl : l.length ≤ 1000000) : Ok 27 [gifts l] (fun r h => IsA (.sl 0 0 l.length) [.arr 3 (l.map Gift.enc)] r h ∨ (l = [] ∧ IsA .nil [] r h)) := by
 refine ok_of lw27 (by simp) ?_
 unfold c27
 simp -implicitDefEqProofs only [rX,↓rY,ofConst,↓reduceIte,Nat.reduceEqDiff,reduceCtorEq,freshP,litsP,killE,killB,kill,St.kill,cxN,args0]
 have hA : retP [] 0 [LRes.tmp 2] (fun r h => IsA (.sl 0 0 l.length) [.arr 3 (l.map Gift.enc)] r h ∨ (l = [] ∧ IsA .nil [] r h)) ⟨[(2, V.sl 0 0 l.length), (7, V.sl 0 0 l.length), (6, gifts l), (5, V.any), (4, V.b false), (3, gifts l), (2, V.v (Value.slice none 0 0)), (0, gifts l)], [Blk.arr 3 (yO Gift.enc l), Blk.dead], 0⟩ := by
  rw [retP_eq]
  simp -implicitDefEqProofs only [rX,↓reduceIte,resP,tupV,keepP,liveP,wfV]
  exact ⟨[.arr 3 (l.map Gift.enc)], ⟨by simp [leH, leB], by simp [wfV, wfL, liveP], by simp [wfB]⟩, .inl ⟨rfl, rfl⟩⟩
 refine ⟨fun _ => ⟨.inr trivial, by omega, hA⟩, fun h => ⟨?_, .inr trivial, by omega, hA⟩⟩
 have h0 : l = [] := by simpa using h
 rw [retP_eq]
 simp -implicitDefEqProofs only [rX,↓reduceIte,resP,tupV,keepP,wfV]
 exact ⟨[], ⟨by simp [leH], by simp, by simp [wfB]⟩, .inr ⟨h0, rfl, rfl⟩⟩
theorem ok27A (l : List Gift) (hl : l.length ≤ 1000000) : Ok 27 [gifts l] (IsA (.sl 0 0 l.length) [.arr 3 (l.map Gift.enc)]) := by
 refine okN_ghost (raw44 l hl) ?_
 rintro r h (⟨rfl, rfl⟩ | ⟨rfl, rfl, rfl⟩)
 ·exact ⟨_, _, ⟨rfl, rfl⟩, _, .refl _, by simp -implicitDefEqProofs only [rX,↓reduceIte,leE,leH,leB,keepP,liveP,wfE,wfB,wfV]⟩
 ·refine ⟨_, _, ⟨rfl, rfl⟩, _, .virt 1 3 (by decide) (.nilE 0 0 rfl (.refl _)), ?_⟩
  simp -implicitDefEqProofs only [rX,↓reduceIte,leE,leH,leB,keepP,liveP,wfE,wfB,wfV,yY]
def giveP (p : Purse) (to n : Int) : Purse × Int :=
 if ((!partyB to || to == p.me) || decide (n < 1)) = true then (p, 1)
 else if tot p.left < n then (p, 4)
 else if 64 ≤ p.out.length ∨ 1099511627776 ≤ markOf p.sent to then (p, 2)
 else ({ p with left := minusS p.left (takeS p.left n), sent := setM p.sent to (markOf p.sent to + 1), out := p.out ++ [⟨to, markOf p.sent to + 1, takeS p.left n⟩] }, 0)
theorem mark_b {l : List Sp} {me who : Int} (h : MkOk l me) : 0 ≤ markOf l who ∧ markOf l who ≤ 1099511627776 := by
 cases hi : isM l who with
 | false => rw [markOf_no hi]; omega
 | true =>
  obtain ⟨h1, _, h3⟩ := posM_at h.mks hi
  rw [h3]
  have := (h.at h1).1
  omega
theorem ok11 (p : Purse) (to n : Int) (hl : Vd p.left) (hm : MkOk p.sent p.me) (ho : p.out.length ≤ 1000000) : Ok 11 [.agg p.enc, .i to, .i n] (Is (.tup [.agg (giveP p to n).1.enc, .i (giveP p to n).2])) := by
 refine okN_gv ?_
 refine ok_of lw11 (by simp) ?_
 unfold c11
 simp -implicitDefEqProofs only [rX,↓rY,ofConst,cells?,↓reduceIte,Nat.reduceEqDiff,Nat.reduceAdd,reduceCtorEq,freshP,cxN,zc22,yA,args0]
 have hp : ∀ (P : Purse) (e : Int), giveP p to n = (P, e) → (giveP p to n).1 = P ∧ (giveP p to n).2 = e := fun P e h => by rw [h]; exact ⟨rfl, rfl⟩
 have hll := hl.len
 have hmb := mark_b (who := to) hm
 have hml := hm.len
 have htt := hl.tot
 refine call_is (ok23 p.sent to hm.mks (by omega)) ⟨⟨trivial, trivial, trivial⟩, ⟨rfl, rfl⟩, rfl, trivial⟩ rfl trivial ?_
 simp -implicitDefEqProofs only [rX,↓rY,ofConst,↓reduceIte,Nat.reduceEqDiff,Nat.reduceAdd,reduceCtorEq,yA]
 refine ⟨by simp only [lo, hi]; omega, ?_⟩
 refine call_is (ok20 to) ⟨⟨trivial, trivial⟩, rfl, trivial⟩ rfl trivial ?_
 simp -implicitDefEqProofs only [rX,↓rY,ofConst,cells?,splice,↓reduceIte,Nat.reduceEqDiff,Nat.reduceAdd,reduceCtorEq,isC,yC,yB,yA]
 have hE1 : ∀ h : ((!partyB to || to == p.me) || decide (n < 1)) = true, (giveP p to n).1 = p ∧ (giveP p to n).2 = 1 := fun h => hp p 1 (by unfold giveP; rw [if_pos h])
 cases h1 : partyB to with
 | false =>
  obtain ⟨e1, e2⟩ := hE1 (by simp [h1])
  rw [e1, e2]
  simp -implicitDefEqProofs only [rX,↓rY]
  refine ret_data ?_
  simp -implicitDefEqProofs only [rX,↓rY,↓reduceIte,Nat.reduceEqDiff,Nat.reduceAdd,resP,tupV,wfV,wfL,yB,yA]
  simp [Gv, tupV, gvV, gvL, wk, wkL, wkR, wfV, wfL]
 | true =>
  cases h2 : to == p.me with
  | true =>
   obtain ⟨e1, e2⟩ := hE1 (by simp [h2])
   rw [e1, e2]
   simp -implicitDefEqProofs only [rX,↓rY]
   refine ret_data ?_
   simp -implicitDefEqProofs only [rX,↓rY,↓reduceIte,Nat.reduceEqDiff,Nat.reduceAdd,resP,tupV,wfV,wfL,yB,yA]
   simp [Gv, tupV, gvV, gvL, wk, wkL, wkR, wfV, wfL]
  | false =>
   cases h3 : decide (n < 1) with
   | true =>
    obtain ⟨e1, e2⟩ := hE1 (by simp [h3])
    rw [e1, e2]
    simp -implicitDefEqProofs only [rX,↓rY]
    refine ret_data ?_
    simp -implicitDefEqProofs only [rX,↓rY,↓reduceIte,Nat.reduceEqDiff,Nat.reduceAdd,resP,tupV,wfV,wfL,yB,yA]
    simp [Gv, tupV, gvV, gvL, wk, wkL, wkR, wfV, wfL]
   | false =>
    have h0 : ¬ ((!partyB to || to == p.me) || decide (n < 1)) = true := by simp [h1, h2, h3]
    have h3' : ¬ n < 1 := by simpa using h3
    simp -implicitDefEqProofs only [rX,↓rY]
    refine call_is (ok24 p.left hl) ⟨⟨trivial, trivial⟩, ⟨rfl, rfl⟩, trivial⟩ rfl trivial ?_
    cases h4 : decide (tot p.left < n) with
    | true =>
     have h4' : tot p.left < n := by simpa using h4
     obtain ⟨e1, e2⟩ := hp p 4 (by unfold giveP; rw [if_neg h0, if_pos h4'])
     rw [e1, e2]
     simp -implicitDefEqProofs only [rX,↓rY,ofConst,cells?,splice,↓reduceIte,Nat.reduceEqDiff,Nat.reduceAdd,isC,yC,yB,yA,h4]
     refine ret_data ?_
     simp -implicitDefEqProofs only [rX,↓rY,↓reduceIte,Nat.reduceEqDiff,Nat.reduceAdd,resP,tupV,wfV,wfL,yB,yA]
     simp [Gv, tupV, gvV, gvL, wk, wkL, wkR, wfV, wfL]
    | false =>
     have h4' : ¬ tot p.left < n := by simpa using h4
     cases h5 : decide (64 ≤ p.out.length) with
     | true =>
      have h5' : 64 ≤ p.out.length := by simpa using h5
      have h5i : decide ((64 : Int) ≤ (p.out.length : Int)) = true := decide_eq_true (by omega)
      obtain ⟨e1, e2⟩ := hp p 2 (by unfold giveP; rw [if_neg h0, if_neg h4', if_pos (.inl h5')])
      rw [e1, e2]
      simp -implicitDefEqProofs only [rX,↓rY,ofConst,cells?,splice,↓reduceIte,Nat.reduceEqDiff,Nat.reduceAdd,reduceCtorEq,isC,yC,yB,yA,h4,h5i]
      intro _
      refine ret_data ?_
      simp -implicitDefEqProofs only [rX,↓rY,↓reduceIte,Nat.reduceEqDiff,Nat.reduceAdd,resP,tupV,wfV,wfL,yB,yA]
      simp [Gv, tupV, gvV, gvL, wk, wkL, wkR, wfV, wfL]
     | false =>
      have h5' : ¬ 64 ≤ p.out.length := by simpa using h5
      have h5i : decide ((64 : Int) ≤ (p.out.length : Int)) = false := decide_eq_false (by omega)
      cases h6 : decide (1099511627776 < markOf p.sent to + 1) with
      | true =>
       have h6' : 1099511627776 ≤ markOf p.sent to := by simp at h6; omega
       obtain ⟨e1, e2⟩ := hp p 2 (by unfold giveP; rw [if_neg h0, if_neg h4', if_pos (.inr h6')])
       rw [e1, e2]
       simp -implicitDefEqProofs only [rX,↓rY,ofConst,cells?,splice,↓reduceIte,Nat.reduceEqDiff,Nat.reduceAdd,reduceCtorEq,isC,yC,yB,yA,h4,h5i,h6]
       intro _
       refine ret_data ?_
       simp -implicitDefEqProofs only [rX,↓rY,↓reduceIte,Nat.reduceEqDiff,Nat.reduceAdd,resP,tupV,wfV,wfL,yB,yA]
       simp [Gv, tupV, gvV, gvL, wk, wkL, wkR, wfV, wfL]
      | false =>
       have h6' : ¬ 1099511627776 ≤ markOf p.sent to := by simp at h6; omega
       obtain ⟨e1, e2⟩ := hp _ 0 (by unfold giveP; rw [if_neg h0, if_neg h4', if_neg (by omega)])
       rw [e1, e2]
       simp -implicitDefEqProofs only [rX,↓rY,ofConst,cells?,splice,↓reduceIte,Nat.reduceEqDiff,Nat.reduceAdd,reduceCtorEq,isC,yC,yB,yA,h4,h5i,h6]
       intro _
       refine call_is (ok25 p.left n hl (by omega)) ⟨⟨trivial, trivial, trivial⟩, ⟨rfl, rfl⟩, rfl, trivial⟩ rfl trivial ?_
       simp -implicitDefEqProofs only [rX,↓rY,cells?,splice,↓reduceIte,Nat.reduceEqDiff,Nat.reduceAdd,reduceCtorEq,isC,Nat.reduceLeDiff,yC,yB,yA]
       refine call_is (ok26 p.sent to (markOf p.sent to + 1) hm.mks (by omega)) ⟨⟨trivial, trivial, trivial, trivial⟩, ⟨rfl, rfl⟩, rfl, rfl, trivial⟩ rfl trivial ?_
       simp -implicitDefEqProofs only [rX,↓rY,cells?,splice,↓reduceIte,Nat.reduceEqDiff,Nat.reduceAdd,isC,Nat.reduceLeDiff,yC,yB,yA]
       refine call_isA [gifts p.out] (.sl 0 0 p.out.length) (.sl 4 0 p.out.length) [.arr 3 (p.out.map Gift.enc)] [.arr 3 (p.out.map Gift.enc)] (ok27A p.out ho) ⟨⟨trivial, trivial⟩, ⟨rfl, rfl⟩, trivial⟩ (by simp [ren]) (by simp [renB]) trivial ?_
       simp -implicitDefEqProofs only [rX,↓rY,ofConst,cells?,splice,↓reduceIte,Nat.reduceEqDiff,Nat.reduceAdd,reduceCtorEq,freshP,buildP,litsP,killE,killB,kill,kills,St.kill,isD,isC,Nat.reduceLT,Nat.reduceLeDiff,yC,yB,yA,↓op_litsf,↓frzP_n,↓frzP_c,↓frzQ_r]
       have hx : yE p.out.length (yO Gift.enc p.out) ++ [[V.v (Value.int IntKind.i64 to), V.v (Value.int IntKind.i64 (markOf p.sent to + 1)), spans (takeS p.left n)]] = (p.out ++ [(⟨to, markOf p.sent to + 1, takeS p.left n⟩ : Gift)]).map Gift.enc := by
        rw [yF (by simp), yJ]; rfl
       have hn : p.out.length + 1 = (p.out ++ [(⟨to, markOf p.sent to + 1, takeS p.left n⟩ : Gift)]).length := by simp
       refine ⟨by omega, ?_⟩
       rw [hx, hn, retP_eq]
       generalize p.out ++ [(⟨to, markOf p.sent to + 1, takeS p.left n⟩ : Gift)] = Q
       have hQ : yE Q.length (Q.map Gift.enc) = Q.map Gift.enc := yF (by simp)
       simp -implicitDefEqProofs only [rX,↓rY,↓reduceIte,Nat.reduceEqDiff,Nat.reduceAdd,resP,tupV,keepP,liveP,wfV,wfL,yB,yA]
       refine ⟨[.dead, .dead, .dead, .dead, .arr 3 (Q.map Gift.enc)], ⟨by simp [leH, leB], by simp [tupV, wfV, wfL, liveP], by simp [wfB]⟩, ?_⟩
       simp [Gv, tupV, gvV, gvL, wk, wkL, wkR, wfV, wfL, blk, hQ]
end Go.Fx.P
namespace Go.Fx.P
open Go Go.Fx Go.Proofs Go.Fx.R
set_option maxRecDepth 20000
end Go.Fx.P
namespace Go.Fx.P
open Go Go.Fx Go.Proofs Go.Fx.R
set_option maxRecDepth 20000
structure Ltr where
 id : Dig
 kind : Int
 frm : Int
 to : Int
 serial : Int
 uses : List Sp
 deriving DecidableEq, Inhabited
def Ltr.enc (l : Ltr) : List V := [u8 l.id.a0, u8 l.id.a1, u8 l.id.a2, u8 l.id.a3, u8 l.id.a4, u8 l.id.a5, u8 l.id.a6, u8 l.id.a7, u8 l.id.a8, u8 l.id.a9, u8 l.id.a10, u8 l.id.a11, u8 l.id.a12, u8 l.id.a13, u8 l.id.a14, u8 l.id.a15, .i l.kind, .i l.frm, .i l.to, .i l.serial, spans l.uses]
abbrev ltrs (l : List Ltr) : V := .ro 21 (l.map Ltr.enc)
theorem l_len {l : Ltr} : l.enc.length = 21 := rfl
theorem l_C {l : Ltr} : l.enc.all isC = true := rfl
theorem l_t {l : Ltr} : yE 21 l.enc = l.enc := rfl
def letP (p : Purse) (g : Gift) : Ltr := ⟨p.id, 1, p.me, g.to, g.serial, g.uses⟩
def lettersP (p : Purse) : List Ltr := p.out.map (letP p)
theorem ok7 (p : Purse) (ho : p.out.length ≤ 1000000) (hu : ∀ g ∈ p.out, g.uses.length ≤ 4398046511104) : Ok 7 [.agg p.enc] (Is (ltrs (lettersP p))) := by
 refine okN_gv ?_
 refine ok_of lw7 (by simp) ?_
 unfold c7
 simp -implicitDefEqProofs only [rX,↓rY,ofConst,cells?,↓reduceIte,Nat.reduceEqDiff,freshP,cxN,yA,args0]
 intro hm
 refine loopP_ghost (.virt 1 21 (by decide) (.nilE 3 1 rfl (.refl _))) (fun k : Nat => ⟨[(9, .i k), (8, .i p.out.length), (7, gifts p.out), (3, .sl 1 0 k), (1, .ptr 0 0 0)], [.var p.enc, .arr 21 ((p.out.take k).map fun g => (letP p g).enc)], 1⟩) (fun k => k ≤ p.out.length) (fun k => p.out.length - k) 0 (by omega) ?_ ?_
 ·simp -implicitDefEqProofs only [rX,↓reduceIte,Nat.reduceEqDiff,leE,leH,leB,leV,leVs,keepP,liveP,wfE,wfB,wfV,wfL,yQ,yY]
 rintro k hk
 unfold c7l0
 rcases yN k p.out.length with hk' | hk'
 ·have hd : decide ((k : Int) < (p.out.length : Int)) = true := decide_eq_true (by omega)
  have hkk : (0 : Int) ≤ k ∧ (k : Int) < p.out.length := ⟨by omega, by omega⟩
  simp -implicitDefEqProofs only [rX,↓rY,rdK,ofConst,cells?,splice,↓reduceIte,Nat.reduceEqDiff,Nat.reduceAdd,freshP,Nat.reduceLeDiff,yC,yB,yA,hd,g_len,g_0,g_1,g_2,g_C,g_t]
  refine ⟨hkk, hk', ?_⟩
  refine call_is (ok18 p.out[k].uses (hu _ (yG hk'))) ⟨⟨trivial, trivial⟩, ⟨rfl, rfl⟩, trivial⟩ rfl trivial ?_
  simp -implicitDefEqProofs only [rX,↓rY,ofConst,cells?,splice,↓reduceIte,Nat.reduceEqDiff,Nat.reduceAdd,reduceCtorEq,freshP,buildP,litsP,leE,leH,leB,leV,leVs,keepP,liveP,wfE,wfB,wfV,wfL,killE,killB,kill,kills,St.kill,isD,Nat.reduceLT,Nat.reduceLeDiff,yC,yB,yA,↓op_litsf,↓frzP_n,↓frzP_c,↓frzQ_r]
  have hkl : (yE k p.out).length = k := by rw [vF]; omega
  have hx : yE k (yO (fun g => (letP p g).enc) (yE k p.out)) = yO (fun g => (letP p g).enc) (yE k p.out) := yF (by simp; omega)
  refine ⟨⟨by omega, by omega⟩, by simp only [lo, hi]; omega, k + 1, ⟨by omega, by omega⟩, ⟨by simp, rfl⟩, ?_⟩
  rw [hx, vR, yW hk', yJ]
  rfl
 ·have hd : decide ((k : Int) < (p.out.length : Int)) = false := decide_eq_false (by omega)
  rw [yF hk']
  simp -implicitDefEqProofs only [rX,↓rY,↓reduceIte,Nat.reduceEqDiff,Nat.reduceAdd,yA,hd]
  have he : (p.out.map fun g => (letP p g).enc) = (lettersP p).map Ltr.enc := by unfold lettersP; rw [List.map_map]; rfl
  rw [he]
  exact ret_sl rfl rfl (by simp [lettersP]; omega)
end Go.Fx.P
namespace Go.Fx
open Go.RowKit
def dpC (x y : V) : Prop := y = x ∨ (x = .nil ∧ ∃ s, y = .ro s [])
def dpCs : List V → List V → Prop
 | [], [] => True
 | x :: xs, y :: ys => dpC x y ∧ dpCs xs ys
 | _, _ => False
def dpEs : List (List V) → List (List V) → Prop
 | [], [] => True
 | x :: xs, y :: ys => dpCs x y ∧ dpEs xs ys
 | _, _ => False
def dpV (x y : V) : Prop := y = x ∨ ∃ s a b, x = .ro s a ∧ y = .ro s b ∧ dpEs a b
def dpL : List V → List V → Prop
 | [], [] => True
 | x :: xs, y :: ys => dpV x y ∧ dpL xs ys
 | _, _ => False
theorem dpCs_snoc {s : Nat} : ∀ {xs : List V}, dpCs (xs ++ [.nil]) (xs ++ [.ro s []])
 | [] => ⟨.inr ⟨rfl, s, rfl⟩, trivial⟩
 | _ :: _ => ⟨.inl rfl, dpCs_snoc⟩
theorem dpCs_len : ∀ {xs ys : List V}, dpCs xs ys → ys.length = xs.length
 | [], [], _ => rfl
 | _ :: _, _ :: _, h => by simp [dpCs_len h.2]
 | [], _ :: _, h => h.elim
 | _ :: _, [], h => h.elim
theorem RepCs_dp {S : Nat → Prop} {w : World} {b : Nat} : ∀ {xs ys : List V} {off : Nat}, dpCs xs ys → RepCs S w b off xs → RepCs S w b off ys
 | [], [], _, _, _ => trivial
 | x :: xs, y :: ys, off, ⟨h1, h2⟩, ⟨⟨val, h3, h4⟩, h5⟩ => by
  refine ⟨⟨val, h3, ?_⟩, RepCs_dp h2 h5⟩
  rcases h1 with rfl | ⟨rfl, s, rfl⟩
  ·exact h4
  ·obtain ⟨rfl, _⟩ := h4
   exact ⟨none, 0, 0, rfl, rfl, yZ _, Nat.zero_le _, .inl rfl⟩
 | [], _ :: _, _, h, _ => h.elim
 | _ :: _, [], _, h, _ => h.elim
theorem RepEls_dp {S : Nat → Prop} {w : World} {sz b : Nat} : ∀ {a c : List (List V)} {off : Nat}, dpEs a c → RepEls S w sz b off a → RepEls S w sz b off c
 | [], [], _, _, _ => trivial
 | x :: xs, y :: ys, off, ⟨h1, h2⟩, ⟨⟨h3, h4⟩, h5⟩ => ⟨⟨(dpCs_len h1).trans h3, RepCs_dp h1 h4⟩, RepEls_dp h2 h5⟩
 | [], _ :: _, _, h, _ => h.elim
 | _ :: _, [], _, h, _ => h.elim
theorem dpEs_len : ∀ {xs ys : List (List V)}, dpEs xs ys → ys.length = xs.length
 | [], [], _ => rfl
 | _ :: _, _ :: _, h => by simp [dpEs_len h.2]
 | [], _ :: _, h => h.elim
 | _ :: _, [], h => h.elim
theorem RepV_dp {ρ : Nat → Loc} {X : Nat → Prop} {w : World} {x y : V} {val : Value} (h : dpV x y) (hr : RepV ρ X w x val) : RepV ρ X w y val := by
 rcases h with rfl | ⟨s, a, b, rfl, rfl, h⟩
 ·exact hr
 ·obtain ⟨ad, len, cap, h1, h2, h3, h4, h5⟩ := hr
  refine ⟨ad, len, cap, h1, by rw [dpEs_len h]; exact h2, h3, h4, ?_⟩
  rcases h5 with rfl | ⟨bb, off, h6, h7, h8⟩
  ·exact .inl (vX.1 (dpEs_len h))
  ·exact .inr ⟨bb, off, h6, h7, RepEls_dp h h8⟩
theorem RepL_dp {ρ : Nat → Loc} {X : Nat → Prop} {w : World} : ∀ {xs ys : List V} {vals : List Value}, dpL xs ys → RepL ρ X w xs vals → RepL ρ X w ys vals
 | [], [], _, _, h => h
 | x :: xs, y :: ys, v :: vs, ⟨h1, h2⟩, ⟨h3, h4⟩ => ⟨RepV_dp h1 h3, RepL_dp h2 h4⟩
 | [], _ :: _, _, h, _ => h.elim
 | _ :: _, [], _, h, _ => h.elim
 | _ :: _, _ :: _, [], _, h => h.elim
theorem okN_dp {P : Program} {f : FuncId} {zas : List V} {x y : V} (h : OkN P f zas [] [] (Is x)) (hd : dpV x y ∨ (∃ xs ys, x = .agg xs ∧ y = .agg ys ∧ dpL xs ys) ∨ ∃ xs ys, x = .tup xs ∧ y = .tup ys ∧ dpL xs ys) : OkN P f zas [] [] (Is y) := by
 refine ⟨h.1, ?_⟩
 intro ρ X w vals h1 h2
 refine (h.2 ρ X w vals h1 h2).mono ?_
 rintro e w' ⟨val, r, h', ρ', q1, ⟨⟨rfl, rfl⟩, q2⟩, q3, q4, q5, q6⟩
 refine ⟨val, y, [], ρ', q1, ⟨⟨rfl, rfl⟩, q2⟩, q3, q4, ?_, q6⟩
 rcases hd with hd | ⟨xs, ys, rfl, rfl, hd⟩ | ⟨xs, ys, rfl, rfl, hd⟩
 ·exact RepV_dp hd q5
 ·obtain ⟨arr, a1, a2⟩ := q5
  exact ⟨arr, a1, RepL_dp hd a2⟩
 ·obtain ⟨arr, a1, a2⟩ := q5
  exact ⟨arr, a1, RepL_dp hd a2⟩
end Go.Fx
namespace Go.Fx.P
open Go Go.Fx Go.Proofs Go.Fx.R
set_option maxRecDepth 20000
theorem ok32 (l : List Sp) : Ok 32 [spans l] (Is (.b (decide (0 < l.length) && usB l))) := by
 refine ok_of lw32 (by simp) ?_
 unfold c32
 simp -implicitDefEqProofs only [rX,↓rY,ofConst,↓reduceIte,Nat.reduceEqDiff,reduceCtorEq,resP,tupV,wfV,cxN,args0]
 cases h : decide ((0 : Int) < (l.length : Int)) with
 | true =>
  have h2 : decide (0 < l.length) = true := by simp at h; simp; omega
  simp -implicitDefEqProofs only [↓rY]
  intro _
  refine call_is (ok33 l) ⟨⟨trivial, trivial⟩, ⟨rfl, rfl⟩, trivial⟩ rfl trivial ?_
  simp -implicitDefEqProofs only [rX,↓rY,↓reduceIte,Nat.reduceEqDiff,resP,tupV,wfV]
  rw [h2]; rfl
 | false =>
  have h2 : decide (0 < l.length) = false := by simp at h; simp; omega
  simp -implicitDefEqProofs only [↓rY]
  intro _
  rw [h2]; rfl
theorem ok35 (l : List Sp) : Ok 35 [spans l] (Is (.b (decide (l.length = 0)))) := by
 refine ok_of lw35 (by simp) ?_
 unfold c35
 simp -implicitDefEqProofs only [rX,↓rY,ofConst,↓reduceIte,reduceCtorEq,resP,tupV,wfV,cxN,args0]
 intro _
 rw [vW]; simp
def ofV (kind : Int) : V := if kind = 1 then .tup [.agg [.clo 32 [], .clo 34 []], .b true] else if kind = 2 then .tup [.agg [.clo 35 [], .clo 36 []], .b true] else .tup [.agg [.v .nilFunc, .v .nilFunc], .b false]
theorem ok19 (kind : Int) : Ok 19 [.i kind] (Is (ofV kind)) := by
 refine ok_of lw19 (by simp) ?_
 unfold c19
 simp -implicitDefEqProofs only [rX,↓rY,ofConst,cells?,splice,↓reduceIte,Nat.reduceEqDiff,Nat.reduceAdd,reduceCtorEq,freshP,buildP,resP,tupV,wfV,wfL,isC,Nat.reduceLeDiff,cxN,yC,yB,yA,args0]
 by_cases h1 : kind = 1
 ·subst h1
  exact ⟨fun _ => rfl, fun h => by simp at h⟩
 ·have h1' : (kind == 1) = false := by simpa using h1
  by_cases h2 : kind = 2
  ·subst h2
   exact ⟨fun h => by simp at h, fun _ => ⟨fun _ => rfl, fun h => by simp at h⟩⟩
  ·have h2' : (kind == 2) = false := by simpa using h2
   rw [h1', h2']
   refine ⟨fun h => by simp at h, fun _ => ⟨fun h => by simp at h, fun _ => ?_⟩⟩
   unfold ofV
   rw [if_neg h1, if_neg h2]
def ackL (p : Purse) (to serial : Int) : Ltr := ⟨p.id, 2, p.me, to, serial, []⟩
def ackN (p : Purse) (to serial : Int) : List V := [u8 p.id.a0, u8 p.id.a1, u8 p.id.a2, u8 p.id.a3, u8 p.id.a4, u8 p.id.a5, u8 p.id.a6, u8 p.id.a7, u8 p.id.a8, u8 p.id.a9, u8 p.id.a10, u8 p.id.a11, u8 p.id.a12, u8 p.id.a13, u8 p.id.a14, u8 p.id.a15, .i 2, .i p.me, .i to, .i serial, .nil]
theorem ack_dp {p : Purse} {to serial : Int} : dpV (.ro 21 [ackN p to serial]) (ltrs [ackL p to serial]) := .inr ⟨21, _, _, rfl, rfl, dpCs_snoc (xs := (ackL p to serial).enc.take 20), trivial⟩
end Go.Fx.P
namespace Go.Fx.P
open Go Go.Fx Go.Proofs Go.Fx.R
set_option maxRecDepth 20000
def keepB (L : Ltr) (g : Gift) : Bool := (g.to != L.frm) || decide (L.serial < g.serial)
theorem le_17 {L : Ltr} : L.enc[17]? = some (.i L.frm) := rfl
theorem le_19 {L : Ltr} : L.enc[19]? = some (.i L.serial) := rfl
theorem l_le {L : Ltr} : leVs L.enc L.enc := by simp [Ltr.enc, leVs, leV]
theorem l_wf {L : Ltr} {q : List Blk} : wfL q L.enc := by simp [Ltr.enc, wfL, wfV]
theorem l_kill {L : Ltr} {M : List Nat} : kills M L.enc = L.enc := rfl
theorem l_ren {L : Ltr} {f : Nat → Option Nat} : rens f L.enc = L.enc := rfl
theorem ok47 (L : Ltr) (g : Gift) : OkN Try.prog 47 [.agg g.enc, .ptr 0 0 0] [.var L.enc] [] (IsA (.b (keepB L g)) [.var L.enc]) := by
 refine okN_of pol [0] lw47 (by simp) ⟨trivial, trivial⟩ (by simp) ?_
 unfold c47
 simp -implicitDefEqProofs only [rX,↓rY,ofConst,cells?,↓reduceIte,Nat.reduceEqDiff,Nat.reduceAdd,reduceCtorEq,freshP,resP,tupV,leH,leB,keepP,liveP,wfB,wfV,cxN,yA,args0,retP_isA,g_0,g_1,le_17,le_19]
 unfold keepB
 cases h : g.to != L.frm with
 | true =>
  simp -implicitDefEqProofs only [↓rY]
  exact ⟨⟨l_le, l_wf⟩, rfl⟩
 | false =>
  simp -implicitDefEqProofs only [↓rY]
  exact ⟨⟨l_le, l_wf⟩, rfl⟩
theorem ok46 (L : Ltr) (l : List Gift) (hl : l.length ≤ 1000000) : OkN Try.prog 46 [gifts l, .clo 47 [.ptr 0 0 0]] [.var L.enc] [] (IsA (.sl 1 0 (l.filter (keepB L)).length) [.var L.enc, .arr 3 ((l.filter (keepB L)).map Gift.enc)]) := by
 refine okN_of pol [0] lw46 (by simp) ⟨trivial, trivial⟩ (by simp) ?_
 unfold c46
 simp -implicitDefEqProofs only [rX,↓rY,ofConst,↓reduceIte,reduceCtorEq,cxN,args0]
 intro hm
 refine loopP_ghost (.virt 1 3 (by decide) (.nilE 5 1 rfl (.refl _))) (fun k : Nat => ⟨[(10, .i k), (9, .i l.length), (8, gifts l), (5, .sl 1 0 ((l.take k).filter (keepB L)).length), (1, .clo 47 [.ptr 0 0 0])], [.var L.enc, .arr 3 (((l.take k).filter (keepB L)).map Gift.enc)], 0⟩) (fun k => k ≤ l.length) (fun k => l.length - k) 0 (by omega) ?_ ?_
 ·simp -implicitDefEqProofs only [rX,↓reduceIte,Nat.reduceEqDiff,reduceCtorEq,leE,leH,leB,keepP,liveP,wfE,wfB,wfV,wfL,yQ,yY,List.filter_nil]
  exact ⟨l_le, l_wf⟩
 rintro k hk
 unfold c46l0
 rcases yN k l.length with hk' | hk'
 ·have hd : decide ((k : Int) < (l.length : Int)) = true := decide_eq_true (by omega)
  have hkk : (0 : Int) ≤ k ∧ (k : Int) < l.length := ⟨by omega, by omega⟩
  simp -implicitDefEqProofs only [rX,↓rY,ofConst,cells?,splice,↓reduceIte,Nat.reduceEqDiff,Nat.reduceAdd,freshP,yC,yA,hd,g_len,g_C,g_t]
  refine ⟨hkk, hk', ?_⟩
  have htk : yE ((l.take k).filter (keepB L)).length (((l.take k).filter (keepB L)).map Gift.enc) = ((l.take k).filter (keepB L)).map Gift.enc := yF (by simp)
  have hfl : ((l.take k).filter (keepB L)).length ≤ k := vJ (uO ..) (by rw [vF]; omega)
  refine call_isN [0] [.agg l[k].enc, .ptr 0 0 0] (.b (keepB L l[k])) (.b (keepB L l[k])) [.var L.enc] [.var L.enc] _ (ok47 L l[k]) ⟨by simp, by simp⟩ rfl ?_ (by simp) rfl rfl ?_ ?_
  ·simp [lendsOk, lendOk, lends, lend, wkL, wk, wkR, pos, Gift.enc]
  ·simp [setAll, keepP, liveP, renB]
  have hst : (l.take (k + 1)).filter (keepB L) = (l.take k).filter (keepB L) ++ (if keepB L l[k] then [l[k]] else []) := by
   rw [vR, yW hk', uF]
   simp only [Option.toList_some, vZ, List.filter_nil]
  cases hb : keepB L l[k] with
  | true =>
   rw [hb] at hst
   simp -implicitDefEqProofs only [rX,↓rY,ofConst,cells?,↓reduceIte,Nat.reduceEqDiff,Nat.reduceAdd,reduceCtorEq,freshP,litsP,leE,leH,leB,keepP,liveP,wfE,wfB,wfV,wfL,killE,killB,kill,kills,St.kill,Nat.reduceLT,yB,yA,setAll,renB,l_ren,htk,g_len,g_D,g_t,↓op_litsf,↓frzP_n,↓frzP_c,↓frzQ_a]
   refine ⟨by omega, by simp only [lo, hi]; omega, k + 1, ⟨by omega, by omega⟩, ?_⟩
   rw [hst, l_kill]
   simp only [if_true, vA, uP, yJ, yI, uA]
   exact ⟨⟨by simp, trivial⟩, ⟨l_le, trivial⟩, l_wf⟩
  | false =>
   rw [hb] at hst
   simp -implicitDefEqProofs only [rX,↓rY,ofConst,↓reduceIte,Nat.reduceEqDiff,Nat.reduceAdd,leE,leH,leB,keepP,liveP,wfE,wfB,wfV,wfL,yA,setAll,renB,l_ren]
   refine ⟨by simp only [lo, hi]; omega, k + 1, ⟨by omega, by omega⟩, ?_⟩
   rw [hst]
   simp only [vS, if_false, List.append_nil]
   exact ⟨⟨by simp, trivial⟩, ⟨l_le, trivial⟩, l_wf⟩
 ·have hd : decide ((k : Int) < (l.length : Int)) = false := decide_eq_false (by omega)
  rw [yF hk']
  simp -implicitDefEqProofs only [rX,↓rY,↓reduceIte,Nat.reduceEqDiff,Nat.reduceAdd,yA,hd]
  rw [retP_isA]
  simp -implicitDefEqProofs only [rX,↓reduceIte,Nat.reduceAdd,resP,tupV,leH,leB,keepP,liveP,wfB,wfV,Nat.reduceLeDiff,yA]
  exact ⟨l_le, l_wf⟩
def ackP (p : Purse) (L : Ltr) : Purse := if L.serial ≤ markOf p.sent L.frm then { p with out := p.out.filter (keepB L) } else p
theorem ok36 (p : Purse) (L : Ltr) (hm : Mks p.sent) (hl : p.sent.length ≤ 1000000) (ho : p.out.length ≤ 1000000) : Ok 36 [.agg p.enc, .agg L.enc] (Is (.tup [.agg (ackP p L).enc, .i 0])) := by
 refine okN_gv ?_
 refine ok_of lw36 (by simp) ?_
 unfold c36
 simp -implicitDefEqProofs only [rX,↓rY,rdK,ofConst,cells?,↓reduceIte,Nat.reduceEqDiff,Nat.reduceAdd,reduceCtorEq,freshP,cxN,zc22,yA,args0,le_17,le_19]
 refine call_is (ok23 p.sent L.frm hm hl) ⟨⟨trivial, trivial, trivial⟩, ⟨rfl, rfl⟩, rfl, trivial⟩ rfl trivial ?_
 cases h : decide (L.serial ≤ markOf p.sent L.frm) with
 | true =>
  have h' : L.serial ≤ markOf p.sent L.frm := by simpa using h
  have e : ackP p L = { p with out := p.out.filter (keepB L) } := if_pos h'
  rw [e]
  simp -implicitDefEqProofs only [rX,↓rY,↓reduceIte,Nat.reduceEqDiff,Nat.reduceAdd,yA,h]
  refine call_isN [1] [gifts p.out, .clo 47 [.ptr 0 0 0]] (.sl 1 0 (p.out.filter (keepB L)).length) (.sl 3 0 (p.out.filter (keepB L)).length) [.var L.enc] [.var L.enc, .arr 3 ((p.out.filter (keepB L)).map Gift.enc)] _ (ok46 L p.out ho) ⟨by simp, by simp⟩ rfl ?_ (by simp) rfl rfl ?_ ?_
  ·simp [lendsOk, lendOk, lends, lend, wkL, wk, wkR, pos]
  ·trivial
  simp -implicitDefEqProofs only [rX,↓rY,ofConst,cells?,splice,↓reduceIte,Nat.reduceEqDiff,Nat.reduceAdd,isC,Nat.reduceLeDiff,yC,yB,yA,setAll,renB,l_ren]
  generalize p.out.filter (keepB L) = Q
  have hQ : yE Q.length (Q.map Gift.enc) = Q.map Gift.enc := yF (by simp)
  rw [retP_eq]
  simp -implicitDefEqProofs only [rX,↓rY,↓reduceIte,Nat.reduceEqDiff,Nat.reduceAdd,resP,tupV,keepP,liveP,wfV,wfL,yB,yA]
  refine ⟨[.dead, .dead, .dead, .arr 3 (Q.map Gift.enc)], ⟨by simp [leH, leB], by simp [tupV, wfV, wfL, liveP], by simp [wfB]⟩, ?_⟩
  simp [Gv, tupV, gvV, gvL, wk, wkL, wkR, wfV, wfL, blk, hQ]
 | false =>
  have h' : ¬ L.serial ≤ markOf p.sent L.frm := by simpa using h
  have e : ackP p L = p := if_neg h'
  rw [e]
  simp -implicitDefEqProofs only [rX,↓rY,ofConst,cells?,splice,↓reduceIte,Nat.reduceEqDiff,Nat.reduceAdd,isC,yC,yB,yA,h]
  refine ret_data ?_
  simp -implicitDefEqProofs only [rX,↓rY,↓reduceIte,Nat.reduceEqDiff,Nat.reduceAdd,resP,tupV,wfV,wfL,yB,yA]
  simp [Gv, tupV, gvV, gvL, wk, wkL, wkR, wfV, wfL]
end Go.Fx.P
namespace Go.Fx.P
open Go Go.Fx Go.Proofs Go.Fx.R
set_option maxRecDepth 20000
theorem le_20 {L : Ltr} : L.enc[20]? = some (spans L.uses) := rfl
theorem le_18 {L : Ltr} : L.enc[18]? = some (.i L.to) := rfl
theorem le_16 {L : Ltr} : L.enc[16]? = some (.i L.kind) := rfl
def gOk (p : Purse) (L : Ltr) : Bool := (L.serial == markOf p.heard L.frm + 1) && decide ((meetS L.uses p.left).length = 0) && decide ((meetS L.uses p.spent).length = 0) && decide ((bothS p.left L.uses).length ≤ 1000)
def giftP (p : Purse) (L : Ltr) : Purse × Int :=
 if L.serial ≤ markOf p.heard L.frm then (p, markOf p.heard L.frm)
 else if gOk p L = true then ({ p with left := bothS p.left L.uses, heard := setM p.heard L.frm L.serial }, L.serial)
 else (p, 0)
theorem ok34 (p : Purse) (L : Ltr) (hl : Vd p.left) (hs : Vd p.spent) (hu : Vd L.uses) (hm : MkOk p.heard p.me) : Ok 34 [.agg p.enc, .agg L.enc] (Is (.tup [.agg (giftP p L).1.enc, .i (giftP p L).2])) := by
 refine okN_gv ?_
 refine ok_of lw34 (by simp) ?_
 unfold c34
 simp -implicitDefEqProofs only [rX,↓rY,ofConst,cells?,↓reduceIte,Nat.reduceEqDiff,Nat.reduceAdd,reduceCtorEq,freshP,cxN,zc22,yA,args0,le_17]
 have hp : ∀ (P : Purse) (e : Int), giftP p L = (P, e) → (giftP p L).1 = P ∧ (giftP p L).2 = e := fun P e h => by rw [h]; exact ⟨rfl, rfl⟩
 have hmb := mark_b (who := L.frm) hm
 have hml := hm.len
 have hbl := (hl.both hu.2).len
 refine call_is (ok23 p.heard L.frm hm.mks (by omega)) ⟨⟨trivial, trivial, trivial⟩, ⟨rfl, rfl⟩, rfl, trivial⟩ rfl trivial ?_
 cases h1 : decide (L.serial ≤ markOf p.heard L.frm) with
 | true =>
  have h1' : L.serial ≤ markOf p.heard L.frm := by simpa using h1
  obtain ⟨e1, e2⟩ := hp p (markOf p.heard L.frm) (by unfold giftP; rw [if_pos h1'])
  rw [e1, e2]
  simp -implicitDefEqProofs only [rX,↓rY,cells?,splice,↓reduceIte,Nat.reduceEqDiff,Nat.reduceAdd,isC,yC,yB,yA,h1,le_19]
  refine ret_data ?_
  simp -implicitDefEqProofs only [rX,↓rY,↓reduceIte,Nat.reduceEqDiff,Nat.reduceAdd,resP,tupV,wfV,wfL,yB,yA]
  simp [Gv, tupV, gvV, gvL, wk, wkL, wkR, wfV, wfL]
 | false =>
  have h1' : ¬ L.serial ≤ markOf p.heard L.frm := by simpa using h1
  have hno : gOk p L = false → (giftP p L).1 = p ∧ (giftP p L).2 = 0 := fun h => hp p 0 (by unfold giftP; rw [if_neg h1', h]; rfl)
  simp -implicitDefEqProofs only [rX,↓rY,ofConst,cells?,splice,↓reduceIte,Nat.reduceEqDiff,Nat.reduceAdd,isC,yC,yB,yA,h1,le_19,le_20]
  refine ⟨by simp only [lo, hi]; omega, ?_⟩
  cases h2 : L.serial == markOf p.heard L.frm + 1 with
  | false =>
   obtain ⟨e1, e2⟩ := hno (by unfold gOk; rw [h2]; rfl)
   rw [e1, e2]
   simp -implicitDefEqProofs only [↓rY]
   refine ret_data ?_
   simp -implicitDefEqProofs only [rX,↓rY,↓reduceIte,Nat.reduceEqDiff,Nat.reduceAdd,resP,tupV,wfV,wfL,yB,yA]
   simp [Gv, tupV, gvV, gvL, wk, wkL, wkR, wfV, wfL]
  | true =>
   simp -implicitDefEqProofs only [↓rY]
   refine call_is (ok31 L.uses p.left hu hl) ⟨⟨trivial, trivial, trivial⟩, ⟨rfl, rfl⟩, ⟨rfl, rfl⟩, trivial⟩ rfl trivial ?_
   cases h3 : decide ((meetS L.uses p.left).length = 0) with
   | false =>
    obtain ⟨e1, e2⟩ := hno (by unfold gOk; rw [h2, h3]; rfl)
    rw [e1, e2]
    simp -implicitDefEqProofs only [rX,↓rY,ofConst,cells?,splice,↓reduceIte,Nat.reduceEqDiff,Nat.reduceAdd,isC,yC,yB,yA]
    refine ret_data ?_
    simp -implicitDefEqProofs only [rX,↓rY,↓reduceIte,Nat.reduceEqDiff,Nat.reduceAdd,resP,tupV,wfV,wfL,yB,yA]
    simp [Gv, tupV, gvV, gvL, wk, wkL, wkR, wfV, wfL]
   | true =>
    simp -implicitDefEqProofs only [rX,↓rY,↓reduceIte,Nat.reduceEqDiff,le_20]
    refine call_is (ok31 L.uses p.spent hu hs) ⟨⟨trivial, trivial, trivial⟩, ⟨rfl, rfl⟩, ⟨rfl, rfl⟩, trivial⟩ rfl trivial ?_
    cases h4 : decide ((meetS L.uses p.spent).length = 0) with
    | false =>
     obtain ⟨e1, e2⟩ := hno (by unfold gOk; rw [h2, h3, h4]; rfl)
     rw [e1, e2]
     simp -implicitDefEqProofs only [rX,↓rY,ofConst,cells?,splice,↓reduceIte,Nat.reduceEqDiff,Nat.reduceAdd,isC,yC,yB,yA]
     refine ret_data ?_
     simp -implicitDefEqProofs only [rX,↓rY,↓reduceIte,Nat.reduceEqDiff,Nat.reduceAdd,resP,tupV,wfV,wfL,yB,yA]
     simp [Gv, tupV, gvV, gvL, wk, wkL, wkR, wfV, wfL]
    | true =>
     simp -implicitDefEqProofs only [rX,↓rY,↓reduceIte,Nat.reduceEqDiff,le_20]
     refine call_is (ok29 p.left L.uses hl hu.2) ⟨⟨trivial, trivial, trivial⟩, ⟨rfl, rfl⟩, ⟨rfl, rfl⟩, trivial⟩ rfl trivial ?_
     cases h5 : decide ((bothS p.left L.uses).length ≤ 1000) with
     | false =>
      have h5' : ¬ (bothS p.left L.uses).length ≤ 1000 := by simpa using h5
      have h5i : decide (((bothS p.left L.uses).length : Int) ≤ 1000) = false := decide_eq_false (by omega)
      obtain ⟨e1, e2⟩ := hno (by unfold gOk; rw [h2, h3, h4, h5]; rfl)
      rw [e1, e2]
      simp -implicitDefEqProofs only [rX,↓rY,ofConst,cells?,splice,↓reduceIte,Nat.reduceEqDiff,Nat.reduceAdd,isC,yC,yB,yA,h5i,le_20]
      intro _
      refine ret_data ?_
      simp -implicitDefEqProofs only [rX,↓rY,↓reduceIte,Nat.reduceEqDiff,Nat.reduceAdd,resP,tupV,wfV,wfL,yB,yA]
      simp [Gv, tupV, gvV, gvL, wk, wkL, wkR, wfV, wfL]
     | true =>
      have h5' : (bothS p.left L.uses).length ≤ 1000 := by simpa using h5
      have h5i : decide (((bothS p.left L.uses).length : Int) ≤ 1000) = true := decide_eq_true (by omega)
      have hyes : gOk p L = true := by unfold gOk; rw [h2, h3, h4, h5]; rfl
      obtain ⟨e1, e2⟩ := hp { p with left := bothS p.left L.uses, heard := setM p.heard L.frm L.serial } L.serial (by unfold giftP; rw [if_neg h1', if_pos hyes])
      rw [e1, e2]
      simp -implicitDefEqProofs only [rX,↓rY,ofConst,cells?,splice,↓reduceIte,Nat.reduceEqDiff,Nat.reduceAdd,isC,yC,yB,yA,h5i,le_20]
      intro _
      refine call_is (ok29 p.left L.uses hl hu.2) ⟨⟨trivial, trivial, trivial⟩, ⟨rfl, rfl⟩, ⟨rfl, rfl⟩, trivial⟩ rfl trivial ?_
      simp -implicitDefEqProofs only [rX,↓rY,cells?,splice,↓reduceIte,Nat.reduceEqDiff,Nat.reduceAdd,isC,Nat.reduceLeDiff,yC,yB,yA,le_17,le_19]
      refine call_is (ok26 p.heard L.frm L.serial hm.mks (by omega)) ⟨⟨trivial, trivial, trivial, trivial⟩, ⟨rfl, rfl⟩, rfl, rfl, trivial⟩ rfl trivial ?_
      simp -implicitDefEqProofs only [rX,↓rY,rdK,cells?,splice,↓reduceIte,Nat.reduceEqDiff,Nat.reduceAdd,reduceCtorEq,isC,Nat.reduceLeDiff,yC,yB,yA,le_19]
      refine ret_data ?_
      simp -implicitDefEqProofs only [rX,↓rY,↓reduceIte,Nat.reduceEqDiff,Nat.reduceAdd,resP,tupV,wfV,wfL,yB,yA]
      simp [Gv, tupV, gvV, gvL, wk, wkL, wkR, wfV, wfL]
end Go.Fx.P
namespace Go.Fx.P
open Go Go.Fx Go.Proofs Go.Fx.R
set_option maxRecDepth 20000
def outL (p : Purse) (L : Ltr) : Bool := ((((!(L.id == p.id) || (L.to != p.me)) || !partyB L.frm) || (L.frm == p.me)) || !countsB L.serial)
def rightL (L : Ltr) : Bool := if L.kind = 1 then decide (0 < L.uses.length) && usB L.uses else if L.kind = 2 then decide (L.uses.length = 0) else false
def hearA (p : Purse) (L : Ltr) : Purse × Int :=
 if (outL p L || !rightL L) = true then (p, 0) else if L.kind = 1 then giftP p L else (ackP p L, 0)
theorem giftP_id {p : Purse} {L : Ltr} : (giftP p L).1.id = p.id ∧ (giftP p L).1.me = p.me := by
 unfold giftP
 split
 ·exact ⟨rfl, rfl⟩
 ·split <;> exact ⟨rfl, rfl⟩
def ansN (p : Purse) (L : Ltr) (n : Int) : List (List V) := if n = 0 then [] else [ackN p L.frm n]
def ansL (p : Purse) (L : Ltr) (n : Int) : List Ltr := if n = 0 then [] else [ackL p L.frm n]
theorem ans_dp {p : Purse} {L : Ltr} {n : Int} : dpV (.ro 21 (ansN p L n)) (ltrs (ansL p L n)) := by
 unfold ansN ansL
 split
 ·exact .inl rfl
 ·exact ack_dp
theorem pl_lend {p : Purse} {L : Ltr} {h : List Blk} {f : Nat → Option Nat} : lendsOk h f [.agg p.enc, .agg L.enc] ∧ wkL [.agg p.enc, .agg L.enc] (lends h f [.agg p.enc, .agg L.enc]) := by
 simp [lendsOk, lendOk, lends, lend, wkL, wk, wkR, Ltr.enc]
theorem raw18 (p : Purse) (L : Ltr) (hl : Vd p.left) (hs : Vd p.spent) (hm : MkOk p.heard p.me) (hm2 : MkOk p.sent p.me) (ho : p.out.length ≤ 1000000) : Ok 8 [.agg p.enc, .agg L.enc] (Is (.tup [.agg (hearA p L).1.enc, .ro 21 (ansN p L (hearA p L).2)])) := by
 refine okN_gv ?_
 refine ok_of lw8 (by simp) ?_
 unfold c8
 simp -implicitDefEqProofs only [rX,↓rY,ofConst,cells?,↓reduceIte,Nat.reduceEqDiff,Nat.reduceAdd,reduceCtorEq,freshP,cxN,zc22,yA,args0,le_16]
 have hml := hm2.len
 have hno : (outL p L || !rightL L) = true → (hearA p L).1 = p ∧ ansN p L (hearA p L).2 = [] := fun h => by
  unfold hearA; rw [if_pos h]; exact ⟨rfl, rfl⟩
 refine call_is (ok19 L.kind) ⟨⟨trivial, trivial⟩, rfl, trivial⟩ (by unfold ofV; split; rfl; split <;> rfl) trivial ?_
 by_cases hk1 : L.kind = 1
 ·have hov : ofV L.kind = .tup [.agg [.clo 32 [], .clo 34 []], .b true] := if_pos hk1
  have hrt : rightL L = (decide (0 < L.uses.length) && usB L.uses) := if_pos hk1
  rw [hov]
  simp -implicitDefEqProofs only [rX,↓rY,ofConst,cells?,splice,↓reduceIte,Nat.reduceEqDiff,Nat.reduceAdd,freshP,isC,Nat.reduceLeDiff,yC,yB,yA,l_len,le_17,le_18]
  refine Eq.mpr (eq_dig (d := L.id) (e := p.id)) ?_
  cases h1 : L.id == p.id with
  | false =>
   obtain ⟨e1, e2⟩ := hno (by unfold outL; rw [h1]; rfl)
   rw [e1, e2]
   simp -implicitDefEqProofs only [rX,↓rY]
   refine ret_data ?_
   simp -implicitDefEqProofs only [rX,↓rY,↓reduceIte,Nat.reduceEqDiff,Nat.reduceAdd,resP,tupV,wfV,wfL,yB,yA]
   simp [Gv, tupV, gvV, gvL, wk, wkL, wkR, wfV, wfL]
  | true =>
   cases h2 : L.to != p.me with
   | true =>
    obtain ⟨e1, e2⟩ := hno (by unfold outL; rw [h1, h2]; rfl)
    rw [e1, e2]
    simp -implicitDefEqProofs only [rX,↓rY]
    refine ret_data ?_
    simp -implicitDefEqProofs only [rX,↓rY,↓reduceIte,Nat.reduceEqDiff,Nat.reduceAdd,resP,tupV,wfV,wfL,yB,yA]
    simp [Gv, tupV, gvV, gvL, wk, wkL, wkR, wfV, wfL]
   | false =>
    simp -implicitDefEqProofs only [rX,↓rY]
    refine call_is (ok20 L.frm) ⟨⟨trivial, trivial⟩, rfl, trivial⟩ rfl trivial ?_
    cases h3 : partyB L.frm with
    | false =>
     obtain ⟨e1, e2⟩ := hno (by unfold outL; rw [h1, h2, h3]; rfl)
     rw [e1, e2]
     simp -implicitDefEqProofs only [rX,↓rY,ofConst,cells?,splice,↓reduceIte,Nat.reduceEqDiff,Nat.reduceAdd,isC,yC,yB,yA]
     refine ret_data ?_
     simp -implicitDefEqProofs only [rX,↓rY,↓reduceIte,Nat.reduceEqDiff,Nat.reduceAdd,resP,tupV,wfV,wfL,yB,yA]
     simp [Gv, tupV, gvV, gvL, wk, wkL, wkR, wfV, wfL]
    | true =>
     cases h4 : L.frm == p.me with
     | true =>
      obtain ⟨e1, e2⟩ := hno (by unfold outL; rw [h1, h2, h3, h4]; rfl)
      rw [e1, e2]
      simp -implicitDefEqProofs only [rX,↓rY,ofConst,cells?,splice,↓reduceIte,Nat.reduceEqDiff,Nat.reduceAdd,isC,yC,yB,yA,h4,le_17]
      refine ret_data ?_
      simp -implicitDefEqProofs only [rX,↓rY,↓reduceIte,Nat.reduceEqDiff,Nat.reduceAdd,resP,tupV,wfV,wfL,yB,yA]
      simp [Gv, tupV, gvV, gvL, wk, wkL, wkR, wfV, wfL]
     | false =>
      simp -implicitDefEqProofs only [rX,↓rY,↓reduceIte,Nat.reduceEqDiff,yA,h4,le_17,le_19]
      refine call_is (ok21 L.serial) ⟨⟨trivial, trivial⟩, rfl, trivial⟩ rfl trivial ?_
      cases h5 : countsB L.serial with
      | false =>
       obtain ⟨e1, e2⟩ := hno (by unfold outL; rw [h1, h2, h3, h4, h5]; rfl)
       rw [e1, e2]
       simp -implicitDefEqProofs only [rX,↓rY,ofConst,cells?,splice,↓reduceIte,Nat.reduceEqDiff,Nat.reduceAdd,isC,yC,yB,yA]
       refine ret_data ?_
       simp -implicitDefEqProofs only [rX,↓rY,↓reduceIte,Nat.reduceEqDiff,Nat.reduceAdd,resP,tupV,wfV,wfL,yB,yA]
       simp [Gv, tupV, gvV, gvL, wk, wkL, wkR, wfV, wfL]
      | true =>
       simp -implicitDefEqProofs only [rX,↓rY,↓reduceIte,Nat.reduceEqDiff,le_20]
       refine call_is (ok32 L.uses) ⟨⟨trivial, trivial⟩, ⟨rfl, rfl⟩, trivial⟩ rfl trivial ?_
       cases h6 : decide (0 < L.uses.length) && usB L.uses with
       | false =>
        obtain ⟨e1, e2⟩ := hno (by rw [hrt, h6]; simp)
        rw [e1, e2]
        simp -implicitDefEqProofs only [rX,↓rY,ofConst,cells?,splice,↓reduceIte,Nat.reduceEqDiff,Nat.reduceAdd,isC,yC,yB,yA]
        refine ret_data ?_
        simp -implicitDefEqProofs only [rX,↓rY,↓reduceIte,Nat.reduceEqDiff,Nat.reduceAdd,resP,tupV,wfV,wfL,yB,yA]
        simp [Gv, tupV, gvV, gvL, wk, wkL, wkR, wfV, wfL]
       | true =>
        have hgo : ¬ (outL p L || !rightL L) = true := by rw [hrt, h6]; unfold outL; rw [h1, h2, h3, h4, h5]; simp
        simp -implicitDefEqProofs only [rX,↓rY,↓reduceIte,Nat.reduceEqDiff,Nat.reduceAdd,yB,yA,l_len,l_t]
        have hus : usB L.uses = true := by simp at h6; exact h6.2
        have hu := (usB_iff.1 hus).1
        have hA : hearA p L = giftP p L := by unfold hearA; rw [if_neg hgo, if_pos hk1]
        rw [hA]
        refine call_is (ok34 p L hl hs hu hm) pl_lend rfl trivial ?_
        obtain ⟨gi, gm⟩ := giftP_id (p := p) (L := L)
        generalize giftP p L = r at gi gm ⊢
        simp -implicitDefEqProofs only [rX,↓rY,rdK,ofConst,cells?,splice,↓reduceIte,Nat.reduceEqDiff,Nat.reduceAdd,reduceCtorEq,freshP,buildP,litsP,isD,isC,Nat.reduceLT,Nat.reduceLeDiff,yC,yB,yA,le_17]
        cases hn : r.2 == 0 with
        | true =>
         have hn' : r.2 = 0 := by simpa using hn
         have e : ansN p L r.2 = [] := if_pos hn'
         rw [e]
         simp -implicitDefEqProofs only [↓rY]
         refine ret_data ?_
         simp -implicitDefEqProofs only [rX,↓rY,↓reduceIte,Nat.reduceEqDiff,Nat.reduceAdd,resP,tupV,wfV,wfL,yB,yA]
         simp [Gv, tupV, gvV, gvL, wk, wkL, wkR, wfV, wfL]
        | false =>
         have hn' : r.2 ≠ 0 := by simpa using hn
         have e : ansN p L r.2 = [ackN r.1 L.frm r.2] := by unfold ansN; rw [if_neg hn']; unfold ackN; rw [gi, gm]
         rw [e]
         simp -implicitDefEqProofs only [↓rY]
         rw [retP_eq]
         simp -implicitDefEqProofs only [rX,↓rY,↓reduceIte,Nat.reduceEqDiff,Nat.reduceAdd,resP,tupV,keepP,liveP,wfV,wfL,yB,yA]
         refine ⟨[.dead, .dead, .dead, .dead, .arr 21 [ackN r.1 L.frm r.2]], ⟨⟨trivial, trivial, trivial, trivial, rfl, trivial⟩, by simp [tupV, wfV, wfL, liveP], by simp [wfB]⟩, ?_⟩
         simp [Gv, tupV, gvV, gvL, wk, wkL, wkR, wfV, wfL, blk]
 ·by_cases hk2 : L.kind = 2
  ·have hov : ofV L.kind = .tup [.agg [.clo 35 [], .clo 36 []], .b true] := by unfold ofV; rw [if_neg hk1, if_pos hk2]
   have hrt : rightL L = decide (L.uses.length = 0) := by unfold rightL; rw [if_neg hk1, if_pos hk2]
   rw [hov]
   simp -implicitDefEqProofs only [rX,↓rY,ofConst,cells?,splice,↓reduceIte,Nat.reduceEqDiff,Nat.reduceAdd,freshP,isC,Nat.reduceLeDiff,yC,yB,yA,l_len,le_17,le_18]
   refine Eq.mpr (eq_dig (d := L.id) (e := p.id)) ?_
   cases h1 : L.id == p.id with
   | false =>
    obtain ⟨e1, e2⟩ := hno (by unfold outL; rw [h1]; rfl)
    rw [e1, e2]
    simp -implicitDefEqProofs only [rX,↓rY]
    refine ret_data ?_
    simp -implicitDefEqProofs only [rX,↓rY,↓reduceIte,Nat.reduceEqDiff,Nat.reduceAdd,resP,tupV,wfV,wfL,yB,yA]
    simp [Gv, tupV, gvV, gvL, wk, wkL, wkR, wfV, wfL]
   | true =>
    cases h2 : L.to != p.me with
    | true =>
     obtain ⟨e1, e2⟩ := hno (by unfold outL; rw [h1, h2]; rfl)
     rw [e1, e2]
     simp -implicitDefEqProofs only [rX,↓rY]
     refine ret_data ?_
     simp -implicitDefEqProofs only [rX,↓rY,↓reduceIte,Nat.reduceEqDiff,Nat.reduceAdd,resP,tupV,wfV,wfL,yB,yA]
     simp [Gv, tupV, gvV, gvL, wk, wkL, wkR, wfV, wfL]
    | false =>
     simp -implicitDefEqProofs only [rX,↓rY]
     refine call_is (ok20 L.frm) ⟨⟨trivial, trivial⟩, rfl, trivial⟩ rfl trivial ?_
     cases h3 : partyB L.frm with
     | false =>
      obtain ⟨e1, e2⟩ := hno (by unfold outL; rw [h1, h2, h3]; rfl)
      rw [e1, e2]
      simp -implicitDefEqProofs only [rX,↓rY,ofConst,cells?,splice,↓reduceIte,Nat.reduceEqDiff,Nat.reduceAdd,isC,yC,yB,yA]
      refine ret_data ?_
      simp -implicitDefEqProofs only [rX,↓rY,↓reduceIte,Nat.reduceEqDiff,Nat.reduceAdd,resP,tupV,wfV,wfL,yB,yA]
      simp [Gv, tupV, gvV, gvL, wk, wkL, wkR, wfV, wfL]
     | true =>
      cases h4 : L.frm == p.me with
      | true =>
       obtain ⟨e1, e2⟩ := hno (by unfold outL; rw [h1, h2, h3, h4]; rfl)
       rw [e1, e2]
       simp -implicitDefEqProofs only [rX,↓rY,ofConst,cells?,splice,↓reduceIte,Nat.reduceEqDiff,Nat.reduceAdd,isC,yC,yB,yA,h4,le_17]
       refine ret_data ?_
       simp -implicitDefEqProofs only [rX,↓rY,↓reduceIte,Nat.reduceEqDiff,Nat.reduceAdd,resP,tupV,wfV,wfL,yB,yA]
       simp [Gv, tupV, gvV, gvL, wk, wkL, wkR, wfV, wfL]
      | false =>
       simp -implicitDefEqProofs only [rX,↓rY,↓reduceIte,Nat.reduceEqDiff,yA,h4,le_17,le_19]
       refine call_is (ok21 L.serial) ⟨⟨trivial, trivial⟩, rfl, trivial⟩ rfl trivial ?_
       cases h5 : countsB L.serial with
       | false =>
        obtain ⟨e1, e2⟩ := hno (by unfold outL; rw [h1, h2, h3, h4, h5]; rfl)
        rw [e1, e2]
        simp -implicitDefEqProofs only [rX,↓rY,ofConst,cells?,splice,↓reduceIte,Nat.reduceEqDiff,Nat.reduceAdd,isC,yC,yB,yA]
        refine ret_data ?_
        simp -implicitDefEqProofs only [rX,↓rY,↓reduceIte,Nat.reduceEqDiff,Nat.reduceAdd,resP,tupV,wfV,wfL,yB,yA]
        simp [Gv, tupV, gvV, gvL, wk, wkL, wkR, wfV, wfL]
       | true =>
        simp -implicitDefEqProofs only [rX,↓rY,↓reduceIte,Nat.reduceEqDiff,le_20]
        refine call_is (ok35 L.uses) ⟨⟨trivial, trivial⟩, ⟨rfl, rfl⟩, trivial⟩ rfl trivial ?_
        cases h6 : decide (L.uses.length = 0) with
        | false =>
         obtain ⟨e1, e2⟩ := hno (by rw [hrt, h6]; simp)
         rw [e1, e2]
         simp -implicitDefEqProofs only [rX,↓rY,ofConst,cells?,splice,↓reduceIte,Nat.reduceEqDiff,Nat.reduceAdd,isC,yC,yB,yA]
         refine ret_data ?_
         simp -implicitDefEqProofs only [rX,↓rY,↓reduceIte,Nat.reduceEqDiff,Nat.reduceAdd,resP,tupV,wfV,wfL,yB,yA]
         simp [Gv, tupV, gvV, gvL, wk, wkL, wkR, wfV, wfL]
        | true =>
         have hgo : ¬ (outL p L || !rightL L) = true := by rw [hrt, h6]; unfold outL; rw [h1, h2, h3, h4, h5]; simp
         simp -implicitDefEqProofs only [rX,↓rY,↓reduceIte,Nat.reduceEqDiff,Nat.reduceAdd,yB,yA,l_len,l_t]
         have hA : hearA p L = (ackP p L, 0) := by unfold hearA; rw [if_neg hgo, if_neg hk1]
         have e : ansN p L 0 = [] := if_pos rfl
         rw [hA, e]
         refine call_is (ok36 p L hm2.mks (by omega) ho) pl_lend rfl trivial ?_
         generalize ackP p L = r
         have h0 : ((0 : Int) == 0) = true := rfl
         simp -implicitDefEqProofs only [rX,↓rY,rdK,ofConst,cells?,splice,↓reduceIte,Nat.reduceEqDiff,Nat.reduceAdd,reduceCtorEq,freshP,buildP,litsP,isC,Nat.reduceLT,Nat.reduceLeDiff,yC,yB,yA,h0,le_17]
         refine ret_data ?_
         simp -implicitDefEqProofs only [rX,↓rY,↓reduceIte,Nat.reduceEqDiff,Nat.reduceAdd,resP,tupV,wfV,wfL,yB,yA]
         simp [Gv, tupV, gvV, gvL, wk, wkL, wkR, wfV, wfL]
  ·have hov : ofV L.kind = .tup [.agg [.v .nilFunc, .v .nilFunc], .b false] := by unfold ofV; rw [if_neg hk1, if_neg hk2]
   have hrt : rightL L = false := by unfold rightL; rw [if_neg hk1, if_neg hk2]
   obtain ⟨e1, e2⟩ := hno (by rw [hrt]; simp)
   rw [e1, e2, hov]
   simp -implicitDefEqProofs only [rX,↓rY,ofConst,cells?,splice,↓reduceIte,Nat.reduceEqDiff,Nat.reduceAdd,freshP,isC,yC,yB,yA]
   refine ret_data ?_
   simp -implicitDefEqProofs only [rX,↓rY,↓reduceIte,Nat.reduceEqDiff,Nat.reduceAdd,resP,tupV,wfV,wfL,yB,yA]
   simp [Gv, tupV, gvV, gvL, wk, wkL, wkR, wfV, wfL]
end Go.Fx.P
namespace Go.Fx.P
open Go Go.Fx Go.Proofs Go.Fx.R
set_option maxRecDepth 20000
theorem ok8 (p : Purse) (L : Ltr) (hl : Vd p.left) (hs : Vd p.spent) (hm : MkOk p.heard p.me) (hm2 : MkOk p.sent p.me) (ho : p.out.length ≤ 1000000) : Ok 8 [.agg p.enc, .agg L.enc] (Is (.tup [.agg (hearA p L).1.enc, ltrs (ansL p L (hearA p L).2)])) :=
 okN_dp (raw18 p L hl hs hm hm2 ho) (.inr (.inr ⟨_, _, rfl, rfl, ⟨.inl rfl, ans_dp, trivial⟩⟩))
end Go.Fx.P
namespace Go.Fx.P
open Go Go.Fx Go.Proofs Go.Fx.R
set_option maxRecDepth 20000
theorem ok15e (l : List Ltr) : Ok 15 [ltrs l, ltrs l] (Is (.b true)) := by
 refine ok_of lw15 (by simp) ?_
 unfold c15
 simp -implicitDefEqProofs only [rX,↓rY,ofConst,↓reduceIte,Nat.reduceEqDiff,reduceCtorEq,cxN,yA,args0,bne_self_eq_false]
 intro hm _
 refine loopP_intro (fun k : Nat => ⟨[(5, .i k), (0, ltrs l), (1, ltrs l)], [], 0⟩) (fun k => k ≤ l.length) (fun k => l.length - k) 0 (by omega) ?_ ?_
 ·simp -implicitDefEqProofs only [rX,↓reduceIte,Nat.reduceEqDiff,reduceCtorEq,leE,leH,keepP,wfE,wfB,wfV,yQ]
 rintro k hk
 unfold c15l0
 rcases yN k l.length with hk' | hk'
 ·have hd : decide ((k : Int) < (l.length : Int)) = true := decide_eq_true (by omega)
  have hkk : (0 : Int) ≤ k ∧ (k : Int) < l.length := ⟨by omega, by omega⟩
  simp -implicitDefEqProofs only [rX,↓rY,ofConst,cells?,splice,↓reduceIte,Nat.reduceEqDiff,Nat.reduceAdd,reduceCtorEq,freshP,resP,tupV,wfV,Nat.reduceLeDiff,zc21,yC,yA,hd,bne_self_eq_false,l_len,l_C,l_t,le_16,le_17,le_18,le_19,le_20]
  refine fun _ => ⟨hkk, hk', hkk, hk', ?_⟩
  refine Eq.mpr (eq_dig (d := l[k].id) (e := l[k].id)) ?_
  rw [show (l[k].id == l[k].id) = true from beq_self_eq_true _]
  simp -implicitDefEqProofs only [rX,↓rY]
  refine call_is (ok12 l[k].uses l[k].uses) ⟨⟨trivial, trivial, trivial⟩, ⟨rfl, rfl⟩, ⟨rfl, rfl⟩, trivial⟩ rfl trivial ?_
  simp -implicitDefEqProofs only [rX,↓rY,ofConst,↓reduceIte,Nat.reduceEqDiff,Nat.reduceAdd,reduceCtorEq,leE,leH,keepP,wfE,wfB,wfV,yA,beq_self_eq_true]
  exact ⟨by simp only [lo, hi, maxLen] at *; omega, k + 1, ⟨by omega, by omega⟩, by simp⟩
 have hd : decide ((k : Int) < (l.length : Int)) = false := decide_eq_false (by omega)
 simp -implicitDefEqProofs only [rX,↓rY,ofConst,↓reduceIte,Nat.reduceEqDiff,reduceCtorEq,resP,tupV,wfV,hd]
 exact fun _ => trivial
end Go.Fx.P
namespace Go.Fx.P
open Go Go.Fx Go.Proofs Go.Fx.R
set_option maxRecDepth 20000
def selG (p q : Purse) (g : Gift) : Bool := (g.to == q.me) && decide (markOf q.heard p.me < g.serial)
def flyStep (p q : Purse) (a : List Sp × Bool) (g : Gift) : List Sp × Bool := if selG p q g then (bothS a.1 g.uses, a.2 && decide ((meetS a.1 g.uses).length = 0)) else a
def flyF (p q : Purse) (l : List Gift) : List Sp × Bool := l.foldl (flyStep p q) ([], true)
def flyP (p q : Purse) : List Sp × Bool := if (!(p.id == q.id) || p.me == q.me) = true then ([], true) else flyF p q p.out
theorem flyF_step {p q : Purse} {l : List Gift} {k : Nat} (hk : k < l.length) : flyF p q (l.take (k + 1)) = flyStep p q (flyF p q (l.take k)) l[k] := by
 unfold flyF
 rw [vR, yW hk, uB]
 rfl
theorem flyF_vd {p q : Purse} : ∀ {l : List Gift}, (∀ g ∈ l, Vd g.uses) → ∀ {a : List Sp × Bool}, Vd a.1 → Vd (l.foldl (flyStep p q) a).1
 | [], _, _, ha => ha
 | g :: l, h, a, ha => by
  rw [yU]
  refine flyF_vd (fun t ht => h t (by simp [ht])) ?_
  unfold flyStep
  split
  ·exact ha.both (h g (by simp)).2
  ·exact ha
theorem p_le {p : Purse} : leVs p.enc p.enc := by simp [leVs, leV]
theorem ok28 (p q : Purse) (hu : ∀ g ∈ p.out, Vd g.uses) (hm : Mks q.heard) (hml : q.heard.length ≤ 1000000) : Ok 28 [.agg p.enc, .agg q.enc] (Is (.tup [spans (flyP p q).1, .b (flyP p q).2])) := by
 refine okN_gv ?_
 refine ok_of lw28 (by simp) ?_
 unfold c28
 simp -implicitDefEqProofs only [rX,↓rY,ofConst,cells?,↓reduceIte,Nat.reduceEqDiff,Nat.reduceAdd,reduceCtorEq,freshP,Nat.reduceLeDiff,cxN,yB,yA,args0]
 refine Eq.mpr (eq_dig (d := p.id) (e := q.id)) ?_
 cases h1 : p.id == q.id with
 | false =>
  rw [show flyP p q = ([], true) by unfold flyP; rw [h1]; rfl]
  simp -implicitDefEqProofs only [rX,↓rY]
  refine ret_data ?_
  simp -implicitDefEqProofs only [rX,↓reduceIte,Nat.reduceEqDiff,resP,tupV,wfV,wfL,yA]
  simp [Gv, tupV, gvV, gvL, wk, wkL, wkR, wfV, wfL]
 | true =>
  cases h2 : p.me == q.me with
  | true =>
   rw [show flyP p q = ([], true) by unfold flyP; rw [h1, h2]; rfl]
   simp -implicitDefEqProofs only [rX,↓rY]
   refine ret_data ?_
   simp -implicitDefEqProofs only [rX,↓reduceIte,Nat.reduceEqDiff,resP,tupV,wfV,wfL,yA]
   simp [Gv, tupV, gvV, gvL, wk, wkL, wkR, wfV, wfL]
  | false =>
   rw [show flyP p q = flyF p q p.out by unfold flyP; rw [h1, h2]; rfl]
   simp -implicitDefEqProofs only [rX,↓rY]
   refine call_is (ok23 q.heard p.me hm hml) ⟨⟨trivial, trivial, trivial⟩, ⟨rfl, rfl⟩, rfl, trivial⟩ rfl trivial ?_
   simp -implicitDefEqProofs only [rX,↓rY,ofConst,↓reduceIte,Nat.reduceEqDiff,Nat.reduceAdd]
   intro hmx
   refine loopP_ghost (.virt 1 2 (by decide) (.nilE 4 2 rfl (.give (fun j => j == 2) (by simp) (.refl _)))) (fun k : Nat => ⟨[(29, .i k), (28, .i p.out.length), (27, gifts p.out), (6, .i (markOf q.heard p.me)), (5, .b (flyF p q (p.out.take k)).2), (4, spans (flyF p q (p.out.take k)).1), (3, .ptr 1 0 0), (2, .ptr 0 0 0)], [.var p.enc, .var q.enc], 2⟩) (fun k => k ≤ p.out.length) (fun k => p.out.length - k) 0 (by omega) ?_ ?_
   ·simp -implicitDefEqProofs only [rX,↓reduceIte,Nat.reduceEqDiff,Nat.reduceAdd,leE,leH,leB,keepP,liveP,wfE,wfB,wfV,wfL,yQ,yY,St.give,gvE,gvV,gvL,gvH,gvB,flyF,vB]
    exact ⟨⟨rfl, rfl, rfl⟩, p_le, p_le⟩
   rintro k hk
   have hvd : Vd (flyF p q (p.out.take k)).1 := flyF_vd (fun g hg => hu g (uJ hg)) vd_nil
   unfold c28l0
   rcases yN k p.out.length with hk' | hk'
   ·have hd : decide ((k : Int) < (p.out.length : Int)) = true := decide_eq_true (by omega)
    have hkk : (0 : Int) ≤ k ∧ (k : Int) < p.out.length := ⟨by omega, by omega⟩
    have hug := hu _ (yG hk')
    have hst := flyF_step (p := p) (q := q) hk'
    cases g1 : p.out[k].to == q.me with
    | false =>
     rw [show flyStep p q (flyF p q (p.out.take k)) p.out[k] = flyF p q (p.out.take k) by unfold flyStep selG; rw [g1]; rfl] at hst
     simp -implicitDefEqProofs only [rX,↓rY,ofConst,cells?,splice,↓reduceIte,Nat.reduceEqDiff,Nat.reduceAdd,freshP,leE,leH,leB,leV,leVs,keepP,liveP,wfE,wfB,wfV,wfL,yC,yA,hd,g1,g_len,g_0,g_1,g_2,g_C,g_t]
     exact ⟨hkk, hk', by simp only [lo, hi, maxLen] at *; omega, k + 1, ⟨by omega, by omega⟩, by simp, by rw [hst], by rw [hst]⟩
    | true =>
     cases g2 : decide (markOf q.heard p.me < p.out[k].serial) with
     | false =>
      rw [show flyStep p q (flyF p q (p.out.take k)) p.out[k] = flyF p q (p.out.take k) by unfold flyStep selG; rw [g1, g2]; rfl] at hst
      simp -implicitDefEqProofs only [rX,↓rY,ofConst,cells?,splice,↓reduceIte,Nat.reduceEqDiff,Nat.reduceAdd,freshP,leE,leH,leB,leV,leVs,keepP,liveP,wfE,wfB,wfV,wfL,yC,yA,hd,g1,g2,g_len,g_0,g_1,g_2,g_C,g_t]
      exact ⟨hkk, hk', by simp only [lo, hi, maxLen] at *; omega, k + 1, ⟨by omega, by omega⟩, by simp, by rw [hst], by rw [hst]⟩
     | true =>
      rw [show flyStep p q (flyF p q (p.out.take k)) p.out[k] = (bothS (flyF p q (p.out.take k)).1 p.out[k].uses, (flyF p q (p.out.take k)).2 && decide ((meetS (flyF p q (p.out.take k)).1 p.out[k].uses).length = 0)) by unfold flyStep selG; rw [g1, g2]; rfl] at hst
      cases g3 : (flyF p q (p.out.take k)).2 with
      | false =>
       rw [g3] at hst
       simp -implicitDefEqProofs only [rX,↓rY,ofConst,cells?,splice,↓reduceIte,Nat.reduceEqDiff,Nat.reduceAdd,freshP,leE,leH,leB,leV,leVs,keepP,liveP,wfE,wfB,wfV,wfL,yC,yA,hd,g1,g2,g_len,g_0,g_1,g_2,g_C,g_t]
       refine ⟨hkk, hk', ?_⟩
       refine call_is (ok29 _ p.out[k].uses hvd hug.2) ⟨⟨trivial, trivial, trivial⟩, ⟨rfl, rfl⟩, ⟨rfl, rfl⟩, trivial⟩ rfl trivial ?_
       simp -implicitDefEqProofs only [rX,↓rY,ofConst,↓reduceIte,Nat.reduceEqDiff,Nat.reduceAdd,leE,leH,leB,leV,leVs,keepP,liveP,wfE,wfB,wfV,wfL,yA]
       exact ⟨by simp only [lo, hi, maxLen] at *; omega, k + 1, ⟨by omega, by omega⟩, by simp, by rw [hst]; rfl, by rw [hst]⟩
      | true =>
       rw [g3] at hst
       simp -implicitDefEqProofs only [rX,↓rY,ofConst,cells?,splice,↓reduceIte,Nat.reduceEqDiff,Nat.reduceAdd,freshP,leE,leH,leB,leV,leVs,keepP,liveP,wfE,wfB,wfV,wfL,yC,yA,hd,g1,g2,g_len,g_0,g_1,g_2,g_C,g_t]
       refine ⟨hkk, hk', ?_⟩
       refine call_is (ok31 _ p.out[k].uses hvd hug) ⟨⟨trivial, trivial, trivial⟩, ⟨rfl, rfl⟩, ⟨rfl, rfl⟩, trivial⟩ rfl trivial ?_
       simp -implicitDefEqProofs only [rX,↓rY,↓reduceIte,Nat.reduceEqDiff,Nat.reduceAdd,g_2]
       refine call_is (ok29 _ p.out[k].uses hvd hug.2) ⟨⟨trivial, trivial, trivial⟩, ⟨rfl, rfl⟩, ⟨rfl, rfl⟩, trivial⟩ rfl trivial ?_
       simp -implicitDefEqProofs only [rX,↓rY,ofConst,↓reduceIte,Nat.reduceEqDiff,Nat.reduceAdd,leE,leH,leB,leV,leVs,keepP,liveP,wfE,wfB,wfV,wfL,yA]
       exact ⟨by simp only [lo, hi, maxLen] at *; omega, k + 1, ⟨by omega, by omega⟩, by simp, by rw [hst]; rfl, by rw [hst]⟩
   ·have hd : decide ((k : Int) < (p.out.length : Int)) = false := decide_eq_false (by omega)
    rw [yF hk'] at *
    simp -implicitDefEqProofs only [rX,↓rY,↓reduceIte,Nat.reduceEqDiff,Nat.reduceAdd,yA,hd]
    refine ret_data ?_
    simp -implicitDefEqProofs only [rX,↓reduceIte,Nat.reduceEqDiff,resP,tupV,wfV,wfL,yA]
    simp [Gv, tupV, gvV, gvL, wk, wkL, wkR, wfV, wfL]
theorem ok14 (p q : Purse) (hu : ∀ g ∈ p.out, Vd g.uses) (hm : Mks q.heard) (hml : q.heard.length ≤ 1000000) : Ok 14 [.agg p.enc, .agg q.enc] (Is (spans (flyP p q).1)) := by
 refine ok_of lw14 (by simp) ?_
 unfold c14
 simp -implicitDefEqProofs only [rX,↓rY,ofConst,cells?,↓reduceIte,Nat.reduceEqDiff,Nat.reduceAdd,reduceCtorEq,freshP,cxN,yB,yA,args0]
 refine call_is (ok28 p q hu hm hml) (by simp [lendsOk, lendOk, lends, lend, wkL, wk, wkR]) rfl trivial ?_
 simp -implicitDefEqProofs only [rX,↓rY,↓reduceIte,Nat.reduceEqDiff,Nat.reduceAdd,resP,tupV,wfV]
end Go.Fx.P
namespace Go.Fx.P
open Go Go.Fx Go.Proofs Go.Fx.R
set_option maxRecDepth 20000
abbrev purses (l : List Purse) : V := .ro 22 (l.map Purse.enc)
def putS (a : List Sp × Bool) (l : List Sp) : List Sp × Bool := (bothS a.1 l, a.2 && decide ((meetS a.1 l).length = 0))
def kq (p : Purse) (a : List Sp × Bool) (q : Purse) : List Sp × Bool := putS (a.1, a.2 && (flyP p q).2) (flyP p q).1
def kp (all : List Purse) (a : List Sp × Bool) (p : Purse) : List Sp × Bool := all.foldl (kq p) (putS (putS a p.left) p.spent)
def knownF (all : List Purse) : List Sp × Bool := all.foldl (kp all) ([], true)
theorem ok30 (l : List Sp) (a : List Sp × Bool) (hl : Vd l) (ha : Vd a.1) : OkN Try.prog 30 [spans l, .ptr 0 0 0, .ptr 1 0 0] [.var [.b a.2], .var [spans a.1]] [] (IsA (.tup []) [.var [.b (putS a l).2], .var [spans (putS a l).1]]) := by
 refine okN_of pol [0, 1] lw30 (by simp) ⟨trivial, trivial, trivial⟩ (by simp; omega) ?_
 unfold c30
 cases h : a.2 with
 | true =>
  simp -implicitDefEqProofs only [rX,↓rY,↓reduceIte,Nat.reduceEqDiff,Nat.reduceAdd,reduceCtorEq,cxN,args0]
  refine call_is (ok31 a.1 l ha hl) ⟨⟨trivial, trivial, trivial⟩, ⟨rfl, rfl⟩, ⟨rfl, rfl⟩, trivial⟩ rfl (by simp [keepP, liveP]) ?_
  simp -implicitDefEqProofs only [rX,↓rY,cells?,splice,↓reduceIte,Nat.reduceEqDiff,Nat.reduceAdd,reduceCtorEq,isC,yC,yA]
  refine call_is (ok29 a.1 l ha hl.2) ⟨⟨trivial, trivial, trivial⟩, ⟨rfl, rfl⟩, ⟨rfl, rfl⟩, trivial⟩ rfl (by simp [keepP, liveP]) ?_
  simp -implicitDefEqProofs only [rX,↓rY,cells?,splice,↓reduceIte,Nat.reduceEqDiff,Nat.reduceAdd,reduceCtorEq,resP,tupV,leH,leB,leV,leVs,keepP,liveP,wfB,wfV,wfL,isC,yC,yA,retP_isA,putS,h]
 | false =>
  simp -implicitDefEqProofs only [rX,↓rY,ofConst,cells?,splice,↓reduceIte,Nat.reduceEqDiff,Nat.reduceAdd,reduceCtorEq,isC,cxN,yC,yA,args0]
  refine call_is (ok29 a.1 l ha hl.2) ⟨⟨trivial, trivial, trivial⟩, ⟨rfl, rfl⟩, ⟨rfl, rfl⟩, trivial⟩ rfl (by simp [keepP, liveP]) ?_
  simp -implicitDefEqProofs only [rX,↓rY,cells?,splice,↓reduceIte,Nat.reduceEqDiff,Nat.reduceAdd,reduceCtorEq,resP,tupV,leH,leB,leV,leVs,keepP,liveP,wfB,wfV,wfL,isC,yC,yA,retP_isA,putS,h]
  rfl
structure PurV (p : Purse) : Prop where
 l : Vd p.left
 s : Vd p.spent
 u : ∀ g ∈ p.out, Vd g.uses
 m : Mks p.heard
 n : p.heard.length ≤ 1000000
theorem PurV.fly {p q : Purse} (hp : PurV p) : Vd (flyP p q).1 := by
 unfold flyP
 split
 ·exact vd_nil
 ·exact flyF_vd hp.u vd_nil
theorem putS_vd {a : List Sp × Bool} {l : List Sp} (ha : Vd a.1) (hl : Vd l) : Vd (putS a l).1 := ha.both hl.2
theorem kq_vd {p : Purse} (hp : PurV p) : ∀ {l : List Purse} {a : List Sp × Bool}, Vd a.1 → Vd (l.foldl (kq p) a).1
 | [], _, h => h
 | q :: l, a, h => by
  rw [yU]
  exact kq_vd hp (putS_vd (a := (a.1, a.2 && (flyP p q).2)) h hp.fly)
theorem kp_vd {all : List Purse} : ∀ {l : List Purse} (_ : ∀ p ∈ l, PurV p) {a : List Sp × Bool}, Vd a.1 → Vd (l.foldl (kp all) a).1
 | [], _, _, h => h
 | p :: l, hp, a, h => by
  rw [yU]
  have hpp := hp p (by simp)
  exact kp_vd (fun q hq => hp q (by simp [hq])) (kq_vd hpp (putS_vd (putS_vd h hpp.l) hpp.s))
theorem foldl_take {α β : Type} {f : β → α → β} {b : β} {l : List α} {k : Nat} (h : k < l.length) : (l.take (k + 1)).foldl f b = f ((l.take k).foldl f b) l[k] := by
 rw [vR, yW h, uB]; rfl
theorem r_sp {f : Nat → Option Nat} {l : List Sp} : rens f [spans l] = [spans l] := rfl
theorem r_b {f : Nat → Option Nat} {x : Bool} : rens f [.b x] = [.b x] := rfl
theorem ok17 (all : List Purse) (hv : ∀ p ∈ all, PurV p) : Ok 17 [purses all] (Is (.tup [spans (knownF all).1, .b (knownF all).2])) := by
 refine okN_gv ?_
 refine ok_of lw17 (by simp) ?_
 unfold c17
 simp -implicitDefEqProofs only [rX,↓rY,ofConst,cells?,splice,↓reduceIte,Nat.reduceEqDiff,Nat.reduceAdd,reduceCtorEq,freshP,isC,cxN,yC,yA,args0]
 intro hm
 refine loopP_ghost (.virt 1 2 (by decide) (.nilB 0 [.nil] [.sl 2 0 0] rfl ⟨rfl, fun i x y h1 h2 => by
  cases i with
  | zero => simp at h1 h2; subst h1 h2; exact .inr ⟨rfl, 2, rfl⟩
  | succ i => simp at h1⟩ (.give (fun j => j == 2) (by simp) (.refl _)))) (fun k : Nat => ⟨[(16, .i k), (15, .i all.length), (14, purses all), (6, .clo 30 [.ptr 1 0 0, .ptr 0 0 0]), (5, .ptr 1 0 0), (4, .ptr 0 0 0), (0, purses all)], [.var [spans ((all.take k).foldl (kp all) ([], true)).1], .var [.b ((all.take k).foldl (kp all) ([], true)).2]], 2⟩) (fun k => k ≤ all.length) (fun k => all.length - k) 0 (by omega) ?_ ?_
 ·simp -implicitDefEqProofs only [rX,↓reduceIte,Nat.reduceEqDiff,Nat.reduceAdd,reduceCtorEq,leE,leH,leB,keepP,liveP,wfE,wfB,wfV,wfL,yQ,yY,St.give,gvE,gvV,gvL,gvH,gvB,vB]
  exact ⟨⟨rfl, rfl, rfl⟩, ⟨rfl, trivial⟩, rfl, trivial⟩
 rintro k hk
 have hvd : Vd ((all.take k).foldl (kp all) ([], true)).1 := kp_vd (fun g hg => hv g (uJ hg)) vd_nil
 unfold c17l0
 rcases yN k all.length with hk' | hk'
 ·have hd : decide ((k : Int) < (all.length : Int)) = true := decide_eq_true (by omega)
  have hkk : (0 : Int) ≤ k ∧ (k : Int) < all.length := ⟨by omega, by omega⟩
  have hpk := hv _ (yG hk')
  have hst := foldl_take (f := kp all) (b := (([], true) : List Sp × Bool)) hk'
  generalize (all.take k).foldl (kp all) ([], true) = a at hvd hst ⊢
  simp -implicitDefEqProofs only [rX,↓rY,ofConst,cells?,splice,↓reduceIte,Nat.reduceEqDiff,Nat.reduceAdd,freshP,isC,zc22,yC,yB,yA,hd]
  refine ⟨hkk, hk', ?_⟩
  refine call_isN [1, 0] [spans all[k].left, .ptr 0 0 0, .ptr 1 0 0] (.tup []) (.tup []) [.var [.b a.2], .var [spans a.1]] [.var [.b (putS a all[k].left).2], .var [spans (putS a all[k].left).1]] _ (ok30 all[k].left a hpk.l hvd) ⟨by simp, by simp⟩ rfl ?_ (by simp) rfl rfl ?_ ?_
  ·simp [lendsOk, lendOk, lends, lend, wkL, wk, wkR, pos]
  ·trivial
  simp -implicitDefEqProofs only [rX,↓rY,↓reduceIte,Nat.reduceEqDiff,Nat.reduceAdd,setAll,renB,r_sp,r_b]
  have hvd1 := putS_vd hvd hpk.l
  generalize ha1 : putS a all[k].left = a1 at hvd1 ⊢
  refine call_isN [1, 0] [spans all[k].spent, .ptr 0 0 0, .ptr 1 0 0] (.tup []) (.tup []) [.var [.b a1.2], .var [spans a1.1]] [.var [.b (putS a1 all[k].spent).2], .var [spans (putS a1 all[k].spent).1]] _ (ok30 all[k].spent a1 hpk.s hvd1) ⟨by simp, by simp⟩ rfl ?_ (by simp) rfl rfl ?_ ?_
  ·simp [lendsOk, lendOk, lends, lend, wkL, wk, wkR, pos]
  ·trivial
  simp -implicitDefEqProofs only [rX,↓rY,ofConst,↓reduceIte,Nat.reduceAdd,reduceCtorEq,setAll,renB,r_sp,r_b]
  have hvd2 := putS_vd hvd1 hpk.s
  generalize ha2 : putS a1 all[k].spent = a2 at hvd2 ⊢
  have hkp : kp all a all[k] = all.foldl (kq all[k]) a2 := by unfold kp; rw [ha1, ha2]
  intro hm2
  refine loopP_intro (fun j : Nat => ⟨[(30, .i j), (29, .i all.length), (28, purses all), (8, .ptr 2 0 0), (17, V.b true), (16, V.i ↑k), (15, V.i ↑all.length), (14, purses all), (6, V.clo 30 [V.ptr 1 0 0, V.ptr 0 0 0]), (5, V.ptr 1 0 0), (4, V.ptr 0 0 0), (0, purses all)], [.var [spans ((all.take j).foldl (kq all[k]) a2).1], .var [.b ((all.take j).foldl (kq all[k]) a2).2], .var all[k].enc], 3⟩) (fun j => j ≤ all.length) (fun j => all.length - j) 0 (by omega) ?_ ?_
  ·simp -implicitDefEqProofs only [rX,↓reduceIte,Nat.reduceEqDiff,reduceCtorEq,leE,leH,leB,leV,leVs,keepP,liveP,wfE,wfB,wfV,wfL,yQ,vB]
  rintro j hj
  have hvj : Vd ((all.take j).foldl (kq all[k]) a2).1 := kq_vd hpk hvd2
  unfold c17l1
  rcases yN j all.length with hj' | hj'
  ·have hd2 : decide ((j : Int) < (all.length : Int)) = true := decide_eq_true (by omega)
   have hjj : (0 : Int) ≤ j ∧ (j : Int) < all.length := ⟨by omega, by omega⟩
   have hpj := hv _ (yG hj')
   have hsj := foldl_take (f := kq all[k]) (b := a2) hj'
   generalize (all.take j).foldl (kq all[k]) a2 = c at hvj hsj ⊢
   simp -implicitDefEqProofs only [rX,↓rY,ofConst,cells?,splice,↓reduceIte,Nat.reduceEqDiff,Nat.reduceAdd,freshP,isC,zc22,yC,yB,yA,hd2]
   refine ⟨hjj, hj', ?_⟩
   refine call_is (ok28 all[k] all[j] hpk.u hpj.m hpj.n) (by simp [lendsOk, lendOk, lends, lend, wkL, wk, wkR]) rfl trivial ?_
   have hput := putS_vd (a := (c.1, c.2 && (flyP all[k] all[j]).2)) hvj (hpk.fly (q := all[j]))
   have h56 := ok30 (flyP all[k] all[j]).1 (c.1, c.2 && (flyP all[k] all[j]).2) (hpk.fly (q := all[j])) hvj
   have hkq : kq all[k] c all[j] = putS (c.1, c.2 && (flyP all[k] all[j]).2) (flyP all[k] all[j]).1 := rfl
   rw [hkq] at hsj
   generalize flyP all[k] all[j] = f at *
   cases hc2 : c.2 with
   | true =>
    simp -implicitDefEqProofs only [rX,↓rY,cells?,splice,↓reduceIte,Nat.reduceEqDiff,Nat.reduceAdd,isC,yC,yA]
    have hcb : (c.2 && f.2) = f.2 := by rw [hc2]; simp
    rw [hcb] at h56 hsj hput
    refine call_isN [1, 0] [spans f.1, .ptr 0 0 0, .ptr 1 0 0] (.tup []) (.tup []) [.var [.b f.2], .var [spans c.1]] [.var [.b (putS (c.1, f.2) f.1).2], .var [spans (putS (c.1, f.2) f.1).1]] _ h56 ⟨by simp, by simp⟩ rfl ?_ (by simp) rfl rfl ?_ ?_
    ·simp [lendsOk, lendOk, lends, lend, wkL, wk, wkR, pos]
    ·trivial
    simp -implicitDefEqProofs only [rX,↓rY,ofConst,↓reduceIte,Nat.reduceEqDiff,Nat.reduceAdd,reduceCtorEq,leE,leH,leB,leV,leVs,keepP,liveP,wfE,wfB,wfV,wfL,yA,setAll,renB,r_sp,r_b]
    exact ⟨by simp only [lo, hi, maxLen] at *; omega, j + 1, ⟨by omega, by omega⟩, by simp, by rw [hsj], by rw [hsj]⟩
   | false =>
    simp -implicitDefEqProofs only [rX,↓rY,ofConst,cells?,splice,↓reduceIte,Nat.reduceEqDiff,Nat.reduceAdd,isC,yC,yA]
    have hcb : (c.2 && f.2) = false := by rw [hc2]; simp
    rw [hcb] at h56 hsj hput
    refine call_isN [1, 0] [spans f.1, .ptr 0 0 0, .ptr 1 0 0] (.tup []) (.tup []) [.var [.b false], .var [spans c.1]] [.var [.b (putS (c.1, false) f.1).2], .var [spans (putS (c.1, false) f.1).1]] _ h56 ⟨by simp, by simp⟩ rfl ?_ (by simp) rfl rfl ?_ ?_
    ·simp [lendsOk, lendOk, lends, lend, wkL, wk, wkR, pos]
    ·trivial
    simp -implicitDefEqProofs only [rX,↓rY,ofConst,↓reduceIte,Nat.reduceEqDiff,Nat.reduceAdd,reduceCtorEq,leE,leH,leB,leV,leVs,keepP,liveP,wfE,wfB,wfV,wfL,yA,setAll,renB,r_sp,r_b]
    exact ⟨by simp only [lo, hi, maxLen] at *; omega, j + 1, ⟨by omega, by omega⟩, by simp, by rw [hsj], by rw [hsj]⟩
  ·have hd2 : decide ((j : Int) < (all.length : Int)) = false := decide_eq_false (by omega)
   rw [yF hj'] at *
   simp -implicitDefEqProofs only [rX,↓rY,ofConst,↓reduceIte,Nat.reduceEqDiff,Nat.reduceAdd,reduceCtorEq,leE,leH,leB,leV,leVs,keepP,liveP,wfE,wfB,wfV,wfL,yA,hd2]
   rw [← hkp] at *
   exact ⟨by simp only [lo, hi, maxLen] at *; omega, k + 1, ⟨by omega, by omega⟩, by simp, by rw [hst], by rw [hst]⟩
 ·have hd : decide ((k : Int) < (all.length : Int)) = false := decide_eq_false (by omega)
  rw [yF hk'] at *
  simp -implicitDefEqProofs only [rX,↓rY,↓reduceIte,Nat.reduceEqDiff,Nat.reduceAdd,yA,hd]
  refine ret_data ?_
  simp -implicitDefEqProofs only [rX,↓reduceIte,Nat.reduceEqDiff,resP,tupV,wfV,wfL,yA]
  simp [Gv, tupV, gvV, gvL, wk, wkL, wkR, wfV, wfL, knownF]
end Go.Fx.P
namespace Go.Fx.P
open Go Go.Fx Go.Proofs Go.Fx.R
set_option maxRecDepth 20000
theorem ok13 (x y : Int) (hy : -1000000 ≤ y ∧ y ≤ 1000000) : Ok 13 [.i x, .i y] (Is (spans [(x, y + 1)])) := by
 refine okN_gv ?_
 refine ok_of lw13 (by simp) ?_
 unfold c13
 simp -implicitDefEqProofs only [rX,↓rY,ofConst,cells?,splice,↓reduceIte,Nat.reduceEqDiff,Nat.reduceAdd,reduceCtorEq,freshP,buildP,litsP,isD,Nat.reduceLT,Nat.reduceLeDiff,cxN,yC,yB,yA,args0]
 refine ⟨by simp only [lo, hi]; omega, ?_⟩
 exact ret_sl (els := [enS (x, y + 1)]) rfl rfl rfl
def id7 : Dig := ⟨7, 0, 0, 0, 0, 0, 0, 0, 0, 0, 0, 0, 0, 0, 0, 0⟩
def sa0 : Purse := ⟨id7, 0, [(1, 6)], [], [], [], []⟩
def sb0 : Purse := ⟨id7, 1, [], [], [], [], []⟩
def sa1 : Purse := ⟨id7, 0, [(3, 6)], [], [(1, 1)], [], [⟨1, 1, [(1, 3)]⟩]⟩
def sl0 : Ltr := ⟨id7, 1, 0, 1, 1, [(1, 3)]⟩
def sb1 : Purse := ⟨id7, 1, [(1, 3)], [], [], [(0, 1)], []⟩
def sak : Ltr := ⟨id7, 2, 1, 0, 1, []⟩
def sa2 : Purse := ⟨id7, 0, [(3, 6)], [], [(1, 1)], [], []⟩
def sb2 : Purse := ⟨id7, 1, [(2, 3)], [(1, 2)], [], [(0, 1)], []⟩
def sb3 : Purse := ⟨id7, 1, [], [(1, 3)], [], [(0, 1)], []⟩
theorem s1 : newP id7 0 5 = (sa0, 0) := by decide
theorem s2 : newP id7 1 0 = (sb0, 0) := by decide
theorem s3 : giveP sa0 1 2 = (sa1, 0) := by decide
theorem s4 : giveP sa1 1 4 = (sa1, 4) := by decide
theorem s5 : lettersP sa1 = [sl0] := by decide
theorem s6 : flyP sa1 sb0 = ([(1, 3)], true) := by decide
theorem s7 : hearA sb0 sl0 = (sb1, 1) := by decide
theorem s8 : hearA sb1 sl0 = (sb1, 1) := by decide
theorem s9 : hearA sa1 sak = (sa2, 0) := by decide
theorem s10 : spendP sb1 = (sb2, 1, 0) := by decide
theorem s11 : spendP sb2 = (sb3, 2, 0) := by decide
theorem s12 : spendP sb3 = (sb3, 0, 4) := by decide
theorem s13 : knownF [sa2, sb3] = ([(1, 6)], true) := by decide
theorem s14 : ansL sb0 sl0 1 = [sak] := by decide
theorem s15 : ansL sb1 sl0 1 = [sak] := by decide
theorem s16 : ansL sa1 sak 0 = [] := by decide
theorem vdp {l : List Sp} (h : vd l = true) : Vd l := vd_iff.1 h
theorem zc16 : yO V.v (Array.replicate 16 (Value.int .u8 0)).toList = [u0, u0, u0, u0, u0, u0, u0, u0, u0, u0, u0, u0, u0, u0, u0, u0] := rfl
theorem ge0 {x : List V} {h : vP 0 < [x].length} : [x][vP 0]'h = x := rfl
theorem n11 : (((1 : Nat) : Int) != 1) = false := rfl
theorem ss1 : (sl0.serial != 1) = false := rfl
theorem ss2 : (sak.kind != 2) = false := rfl
theorem ss3 : (sak.serial != 1) = false := rfl
theorem ok17m (all : List Purse) (hv : ∀ p ∈ all, PurV p) : OkN Try.prog 17 [.sl 0 0 all.length] [.arr 22 (all.map Purse.enc)] [0] (IsA (.tup [spans (knownF all).1, .b (knownF all).2]) [.dead]) := by
 have ht : yE all.length (all.map Purse.enc) = all.map Purse.enc := yF (by simp)
 exact okN_mv (xs := [.sl 0 0 all.length]) (h0 := [.arr 22 (all.map Purse.enc)]) (ok17 all hv) (by simp [gvL, gvV, wkL, wk, wkR, blk, ht])
theorem ok17Q (all : List Purse) (hv : ∀ p ∈ all, PurV p) : OkN Try.prog 17 [.sl 0 0 all.length] [.arr 22 (all.map Purse.enc)] [0] (IsQ (fun _ : Unit => True) (fun _ => .tup [spans (knownF all).1, .b (knownF all).2]) (fun _ => [.dead])) :=
 okN_post (ok17m all hv) fun r h ⟨h1, h2⟩ => ⟨(), trivial, h1, h2⟩
theorem r_tup {f : Nat → Option Nat} {l : List Sp} {b : Bool} : ren f (.tup [spans l, .b b]) = .tup [spans l, .b b] := rfl
theorem z1 : (((0 : Nat) : Int) == 0) = true := rfl
theorem z2 : ((sa2.out.length : Int) == 0) = true := rfl
theorem z3 : ((1 : Int) == 1) = true := rfl
theorem z4 : ((2 : Int) == 2) = true := rfl
theorem purA : PurV sa2 := ⟨vdp rfl, vdp rfl, fun g hg => by simp [sa2] at hg, (mkB_iff (me := 0) |>.1 rfl).mks, by decide⟩
theorem purB : PurV sb3 := ⟨vdp rfl, vdp rfl, fun g hg => by simp [sb3] at hg, (mkB_iff (me := 1) |>.1 rfl).mks, by decide⟩
set_option maxHeartbeats 2000000 in
theorem ok4 : Ok 4 [] (Is (.b true)) := by
 refine ok_of lw4 (by simp) ?_
 unfold c4
 simp -implicitDefEqProofs only [rX,↓rY,ofConst,cells?,splice,↓reduceIte,Nat.reduceEqDiff,Nat.reduceAdd,freshP,buildP,isC,Nat.reduceLeDiff,cxN,yC,yB,yA,args0,zc16]
 refine call_is (ok10 id7 0 5 (by decide)) (by simp [lendsOk, lendOk, lends, lend, wkL, wk, wkR, id7]) rfl trivial ?_
 rw [s1]
 simp -implicitDefEqProofs only [rX,↓rY,ofConst,cells?,splice,↓reduceIte,Nat.reduceEqDiff,Nat.reduceAdd,freshP,isC,zc22,yC,yB,yA]
 refine call_is (ok10 id7 1 0 (by decide)) (by simp [lendsOk, lendOk, lends, lend, wkL, wk, wkR, id7]) rfl trivial ?_
 rw [s2]
 simp -implicitDefEqProofs only [rX,↓rY,ofConst,cells?,splice,↓reduceIte,Nat.reduceEqDiff,Nat.reduceAdd,freshP,resP,tupV,wfV,isC,zc22,yC,yB,yA,bne_self_eq_false]
 refine call_is (ok11 sa0 1 2 (vdp rfl) (mkB_iff.1 rfl) (by decide)) (by simp [lendsOk, lendOk, lends, lend, wkL, wk, wkR]) rfl trivial ?_
 rw [s3]
 simp -implicitDefEqProofs only [rX,↓rY,ofConst,cells?,splice,↓reduceIte,Nat.reduceEqDiff,Nat.reduceAdd,isC,yC,yB,yA]
 refine call_is (ok11 sa1 1 4 (vdp rfl) (mkB_iff.1 rfl) (by decide)) (by simp [lendsOk, lendOk, lends, lend, wkL, wk, wkR]) rfl trivial ?_
 rw [s4]
 simp -implicitDefEqProofs only [rX,↓rY,↓reduceIte,Nat.reduceEqDiff,Nat.reduceAdd,yB,yA]
 refine call_is (ok7 sa1 (by decide) (by decide)) (by simp [lendsOk, lendOk, lends, lend, wkL, wk, wkR]) rfl trivial ?_
 rw [s5]
 simp -implicitDefEqProofs only [rX,↓rY,rdK,ofConst,↓reduceIte,Nat.reduceEqDiff,Nat.reduceAdd,resP,tupV,wfV,yA,bne_self_eq_false]
 refine call_is (ok13 3 5 (by decide)) (by simp [lendsOk, lendOk, lends, lend, wkL, wk, wkR]) rfl trivial ?_
 simp -implicitDefEqProofs only [rX,↓rY,↓reduceIte,Nat.reduceEqDiff]
 refine call_is (ok12 sa1.left [(3, 5 + 1)]) (by simp [lendsOk, lendOk, lends, lend, wkL, wk, wkR]) rfl trivial ?_
 rw [show (sa1.left == [(3, (5 : Int) + 1)]) = true from rfl]
 simp -implicitDefEqProofs only [rX,↓rY,rdK,ofConst,↓reduceIte,Nat.reduceEqDiff,Nat.reduceAdd,resP,tupV,wfV,yB,yA,ge0,n11,ss1,le_19]
 refine fun _ => ⟨by decide, by decide, ?_⟩
 refine call_is (ok14 sa1 sb0 (fun g hg => by simp [sa1] at hg; subst hg; exact vdp rfl) (mkB_iff (me := 1) |>.1 rfl).mks (by decide)) (by simp [lendsOk, lendOk, lends, lend, wkL, wk, wkR]) rfl trivial ?_
 rw [s6]
 simp -implicitDefEqProofs only [rX,↓rY,ofConst,↓reduceIte,Nat.reduceEqDiff]
 refine call_is (ok13 1 2 (by decide)) (by simp [lendsOk, lendOk, lends, lend, wkL, wk, wkR]) rfl trivial ?_
 simp -implicitDefEqProofs only [rX,↓rY,↓reduceIte,Nat.reduceEqDiff]
 refine call_is (ok12 [(1, 3)] [(1, 2 + 1)]) (by simp [lendsOk, lendOk, lends, lend, wkL, wk, wkR]) rfl trivial ?_
 rw [show ([(1, (3 : Int))] == [((1 : Int), (2 : Int) + 1)]) = true from rfl]
 simp -implicitDefEqProofs only [rX,↓rY,rdK,ofConst,↓reduceIte,Nat.reduceEqDiff,Nat.reduceAdd,yB,yA,ge0,l_len,l_t]
 refine ⟨by decide, by decide, ?_⟩
 refine call_is (ok8 sb0 sl0 (vdp rfl) (vdp rfl) (mkB_iff.1 rfl) (mkB_iff.1 rfl) (by decide)) pl_lend rfl trivial ?_
 rw [s7, show ansL sb0 sl0 (sb1, (1 : Int)).2 = [sak] from s14]
 simp -implicitDefEqProofs only [rX,↓rY,rdK,ofConst,cells?,splice,↓reduceIte,Nat.reduceEqDiff,Nat.reduceAdd,isC,yC,yB,yA,ge0,l_len,l_t]
 refine ⟨by decide, by decide, ?_⟩
 refine call_is (ok8 sb1 sl0 (vdp rfl) (vdp rfl) (mkB_iff.1 rfl) (mkB_iff.1 rfl) (by decide)) pl_lend rfl trivial ?_
 rw [s8, show ansL sb1 sl0 (sb1, (1 : Int)).2 = [sak] from s15]
 simp -implicitDefEqProofs only [rX,↓rY,rdK,ofConst,cells?,splice,↓reduceIte,Nat.reduceEqDiff,Nat.reduceAdd,isC,yC,yA]
 refine call_is (ok13 1 2 (by decide)) (by simp [lendsOk, lendOk, lends, lend, wkL, wk, wkR]) rfl trivial ?_
 simp -implicitDefEqProofs only [rX,↓reduceIte,Nat.reduceEqDiff]
 refine call_is (ok12 sb1.left [(1, 2 + 1)]) (by simp [lendsOk, lendOk, lends, lend, wkL, wk, wkR]) rfl trivial ?_
 rw [show (sb1.left == [((1 : Int), (2 : Int) + 1)]) = true from rfl]
 simp -implicitDefEqProofs only [rX,↓rY,↓reduceIte,Nat.reduceEqDiff]
 refine call_is (ok15e [sak]) (by simp [lendsOk, lendOk, lends, lend, wkL, wk, wkR]) rfl trivial ?_
 simp -implicitDefEqProofs only [rX,↓rY,rdK,ofConst,↓reduceIte,Nat.reduceEqDiff,Nat.reduceAdd,resP,tupV,wfV,yB,yA,ge0,n11,ss2,ss3,l_len,le_16,le_19,l_t]
 refine fun _ => ⟨by decide, by decide, by decide, by decide, by decide, by decide, ?_⟩
 refine call_is (ok8 sa1 sak (vdp rfl) (vdp rfl) (mkB_iff.1 rfl) (mkB_iff.1 rfl) (by decide)) pl_lend rfl trivial ?_
 rw [s9, show ansL sa1 sak (sa2, (0 : Int)).2 = [] from s16]
 simp -implicitDefEqProofs only [rX,↓rY,cells?,splice,↓reduceIte,Nat.reduceEqDiff,Nat.reduceAdd,isC,yC,yB,yA]
 refine call_is (ok16 sb1 (vdp rfl) (vdp rfl)) (by simp [lendsOk, lendOk, lends, lend, wkL, wk, wkR]) rfl trivial ?_
 rw [s10]
 simp -implicitDefEqProofs only [rX,↓rY,cells?,splice,↓reduceIte,Nat.reduceEqDiff,Nat.reduceAdd,isC,yC,yB,yA]
 refine call_is (ok16 sb2 (vdp rfl) (vdp rfl)) (by simp [lendsOk, lendOk, lends, lend, wkL, wk, wkR]) rfl trivial ?_
 rw [s11]
 simp -implicitDefEqProofs only [rX,↓rY,cells?,splice,↓reduceIte,Nat.reduceEqDiff,Nat.reduceAdd,isC,yC,yB,yA]
 refine call_is (ok16 sb3 (vdp rfl) (vdp rfl)) (by simp [lendsOk, lendOk, lends, lend, wkL, wk, wkR]) rfl trivial ?_
 rw [s12]
 simp -implicitDefEqProofs only [rX,↓rY,ofConst,cells?,splice,↓reduceIte,Nat.reduceEqDiff,Nat.reduceAdd,freshP,litsP,isD,isC,Nat.reduceLT,zc22,yC,yB,yA,↓op_litsf,↓frzP_n,↓frzP_c,↓frzQ_a]
 refine call_isM (fun _ : Unit => True) [4] [0] [4] [.sl 0 0 2] (fun _ => .tup [spans (knownF [sa2, sb3]).1, .b (knownF [sa2, sb3]).2]) [.arr 22 ([sa2, sb3].map Purse.enc)] (fun _ => [.dead]) (ok17Q [sa2, sb3] fun p hp => by simp at hp; rcases hp with rfl | rfl; exact purA; exact purB) (by simp) (by simp) rfl (by simp [lendsOk, lendOk, lends, lend, wkL, wk, pos]) ?_
 rintro ⟨⟩ _
 refine ⟨trivial, ?_⟩
 rw [s13]
 simp -implicitDefEqProofs only [rX,↓rY,ofConst,↓reduceIte,Nat.reduceEqDiff,Nat.reduceAdd,reduceCtorEq,resP,tupV,wfV,killE,killB,kill,kills,St.kill,yA,beq_self_eq_true,z1,z2,r_tup,setAll,renB]
 refine fun _ _ => ?_
 refine call_is (ok13 1 5 (by decide)) (by simp [lendsOk, lendOk, lends, lend, wkL, wk, wkR]) rfl trivial ?_
 simp -implicitDefEqProofs only [rX,↓rY,↓reduceIte,Nat.reduceEqDiff]
 refine call_is (ok12 [(1, 6)] [(1, 5 + 1)]) (by simp [lendsOk, lendOk, lends, lend, wkL, wk, wkR]) rfl trivial ?_
 rw [show ([(1, (6 : Int))] == [((1 : Int), (5 : Int) + 1)]) = true from rfl]
 simp -implicitDefEqProofs only [rX,↓rY,↓reduceIte,Nat.reduceEqDiff,resP,tupV,wfV]
 trace_state
end Go.Fx.P
namespace Go.Fx.P
open Go Go.Fx Go.Proofs Go.Fx.R
set_option maxRecDepth 20000
end Go.Fx.P
namespace Go.Fx.P
open Go Go.Fx Go.Proofs Go.Fx.R
set_option maxRecDepth 20000
theorem inS_lo {l : List Sp} (h : Sep l) {s : Sp} (hs : s ∈ l) : inS l s.1 := ⟨s, hs, by omega, h.1 s hs⟩
theorem inS_hi {l : List Sp} (h : Sep l) {s : Sp} (hs : s ∈ l) : inS l (s.2 - 1) := ⟨s, hs, by have := h.1 s hs; omega, by omega⟩
theorem Us.in {l : List Sp} (h : Us l) {x : Int} (hx : inS l x) : 1 ≤ x ∧ x < 1073741825 := by
 obtain ⟨s, hs, h1, h2⟩ := hx
 have := h.b s hs
 omega
theorem us_of {l : List Sp} (h : Sep l) (hn : l.length ≤ 1000) (hx : ∀ x, inS l x → 1 ≤ x ∧ x < 1073741825) : Us l :=
 ⟨vd_of h fun x h1 => by have := hx x h1; omega, hn, fun s hs => by
  have a := hx _ (inS_lo h hs)
  have b := hx _ (inS_hi h hs)
  omega⟩
theorem meet0 {a b : List Sp} (ha : Sep a) : (meetS a b).length = 0 ↔ ∀ x, inS a x → ¬ inS b x := by
 rw [vX]
 constructor
 ·intro h x h1 h2
  have : inS (meetS a b) x := in_meetS.2 ⟨h1, h2⟩
  rw [h] at this
  exact inS_nil.1 this
 ·intro h
  refine Sep.ext (sep_meetS ha) sep_nil fun x => ?_
  rw [in_meetS, inS_nil]
  exact ⟨fun ⟨h1, h2⟩ => h x h1 h2, fun h => h.elim⟩
theorem cnt_add : ∀ (l : List Sp) (st : List Sp × Bool × Sp), (l.foldl addStep st).1.length + (if (l.foldl addStep st).2.1 then 0 else 1) ≤ st.1.length + (if st.2.1 then 0 else 1) + l.length
 | [], st => by simp only [vB, List.length_nil]; exact yZ _
 | t :: l, st => by
  rw [yU]
  have h := cnt_add l (addStep st t)
  have h2 : (addStep st t).1.length + (if (addStep st t).2.1 then 0 else 1) ≤ st.1.length + (if st.2.1 then 0 else 1) + 1 := by
   unfold addStep
   repeat' split
   all_goals simp_all
   all_goals (try omega)
  rw [vH]
  omega
theorem addS_len {l : List Sp} {s : Sp} : (addS l s).length ≤ l.length + 1 := by
 unfold addS
 split
 ·omega
 ·have h := cnt_add l ([], false, s)
  unfold addEnd
  split
  ·rename_i h2
   rw [h2] at h
   simp at h ⊢
   omega
  ·rename_i h2
   have h2 : (l.foldl addStep ([], false, s)).2.1 = false := by simpa using h2
   rw [h2] at h
   simp at h ⊢
   omega
theorem bothS_len : ∀ {l a : List Sp}, (bothS a l).length ≤ a.length + l.length
 | [], a => by simp [bothS]
 | s :: l, a => by
  have h := bothS_len (l := l) (a := addS a s)
  have h2 := addS_len (l := a) (s := s)
  unfold bothS at h ⊢
  rw [yU, vH]
  omega
theorem prS_len : ∀ {l : List Sp} {n : Int}, (prS l n).length = l.length
 | [], _ => rfl
 | s :: l, n => by simp [prS, prS_len]
theorem rest_len {l : List Sp} {n : Int} (h : Sep l) (hn : 0 ≤ n) : (minusS l (takeS l n)).length ≤ l.length := by
 rw [← of_prS h hn]
 have := bothS_len (l := prS l n) (a := [])
 rw [prS_len] at this
 simpa [ofS] using this
theorem takeS_len : ∀ {l : List Sp} {n : Int}, (takeS l n).length ≤ l.length
 | [], _ => by simp [takeS]
 | s :: l, n => by
  unfold takeS
  split
  ·simp
  ·have := takeS_len (l := l) (n := n - min (s.2 - s.1) n)
   simp; omega
theorem Us.take {l : List Sp} {n : Int} (h : Us l) : Us (takeS l n) := us_of (sep_takeS h.v.1) (vJ takeS_len h.n) fun x hx => h.in (takeS_in hx)
theorem Us.rest {l : List Sp} {n : Int} (h : Us l) (hn : 0 ≤ n) : Us (minusS l (takeS l n)) := us_of (sep_minusS h.v.1) (vJ (rest_len h.v.1 hn) h.n) fun x hx => h.in (in_minusS.1 hx).1
def MkE (me : Int) (m : Sp) : Prop := (0 ≤ m.1 ∧ m.1 < 128) ∧ m.1 ≠ me ∧ 1 ≤ m.2 ∧ m.2 ≤ 1099511627776
theorem mkOk_iff {l : List Sp} {me : Int} : MkOk l me ↔ Mks l ∧ ∀ m ∈ l, MkE me m := by
 constructor
 ·intro h
  refine ⟨h.mks, fun m hm => ?_⟩
  obtain ⟨k, hk, rfl⟩ := yM hm
  exact (h.at hk).1
 ·rintro ⟨h1, h2⟩ k hk
  have h3 := h2 _ (yG hk)
  unfold badM partyB countsB
  have hp := vV.1 h1
  unfold MkE at h3
  by_cases h0 : 0 < k
  ·have := hp (k - 1) k (by omega) hk (by omega)
   simp
   omega
  ·simp [h0]
   omega
theorem setM_mem {l : List Sp} {who n : Int} {m : Sp} (h : m ∈ setM l who n) : m = (who, n) ∨ m ∈ l := by
 unfold setM at h
 rw [yS, yH] at h
 rcases h with h | rfl | h
 ·exact .inr ((yL.1 h).1)
 ·exact .inl rfl
 ·exact .inr ((yL.1 h).1)
theorem setM_mks {l : List Sp} {who n : Int} (h : Mks l) : Mks (setM l who n) := by
 unfold setM Mks
 rw [List.pairwise_append]
 refine ⟨h.filter _, ?_, ?_⟩
 ·rw [List.pairwise_cons]
  refine ⟨fun t ht => ?_, h.filter _⟩
  have := (yL.1 ht).2
  simpa using this
 ·intro a ha b hb
  have ha := (yL.1 ha).2
  have ha' : a.1 < who := by simpa using ha
  rcases yH.1 hb with rfl | hb
  ·exact ha'
  ·have hb := (yL.1 hb).2
   have hb' : who < b.1 := by simpa using hb
   omega
theorem setM_ok {l : List Sp} {me who n : Int} (h : MkOk l me) (hw : MkE me (who, n)) : MkOk (setM l who n) me := by
 rw [mkOk_iff] at h ⊢
 refine ⟨setM_mks h.1, fun m hm => ?_⟩
 rcases setM_mem hm with rfl | hm
 ·exact hw
 ·exact h.2 m hm
theorem find_app {p : Sp → Bool} {a b : List Sp} (h : ∀ m ∈ a, p m = false) : (a ++ b).find? p = b.find? p := by
 rw [List.find?_append, List.find?_eq_none.2 fun m hm => by simp [h m hm]]
 rfl
theorem markOf_set {l : List Sp} {who n t : Int} (h : Mks l) : markOf (setM l who n) t = if t = who then n else markOf l t := by
 by_cases e : t = who
 ·subst e
  rw [if_pos rfl]
  unfold markOf setM
  rw [find_app]
  ·rw [vY (by simp)]
  ·intro m hm
   have := (yL.1 hm).2
   simp at this ⊢
   omega
 ·rw [if_neg e]
  induction l with
  | nil =>
   unfold setM markOf
   simp [Ne.symm e]
  | cons m l ih =>
   obtain ⟨h1, h2⟩ := mks_cons.1 h
   have ih := ih h2
   rcases uH m.1 who with c | c | c
   ·have e1 : setM (m :: l) who n = m :: setM l who n := by
     unfold setM
     rw [vQ (by simpa using c), yP (by simp; omega)]
     rfl
    rw [e1]
    unfold markOf at ih ⊢
    cases hm : m.1 == t with
    | true => rw [vY (by simpa using hm), vY (by simpa using hm)]
    | false => rw [vG (by simpa using hm), vG (by simpa using hm)]; exact ih
   ·have hno : l.filter (fun m => decide (m.1 < who)) = [] := by
     rw [vE]; intro t ht; have := h1 t ht; simp; omega
    have hall : l.filter (fun m => decide (who < m.1)) = l := by
     rw [vN]; intro t ht; have := h1 t ht; simp; omega
    have e1 : setM (m :: l) who n = (who, n) :: l := by
     unfold setM
     rw [yP (by simp; omega), yP (by simp; omega), hno, hall]
     rfl
    rw [e1]
    unfold markOf
    rw [vG (by simp; omega), vG (by simp; omega)]
   ·have hno : l.filter (fun m => decide (m.1 < who)) = [] := by
     rw [vE]; intro t ht; have := h1 t ht; simp; omega
    have hall : l.filter (fun m => decide (who < m.1)) = l := by
     rw [vN]; intro t ht; have := h1 t ht; simp; omega
    have e1 : setM (m :: l) who n = (who, n) :: m :: l := by
     unfold setM
     rw [yP (by simp; omega), vQ (by simpa using c), hno, hall]
     rfl
    rw [e1]
    unfold markOf
    rw [vG (by simp; omega)]
theorem isM_set {l : List Sp} {who n t : Int} (h : isM l t = true ∨ t = who) : isM (setM l who n) t = true := by
 unfold isM setM
 rw [List.any_append, List.any_cons]
 by_cases e : t = who
 ·subst e; simp
 ·rcases h with h | h
  ·unfold isM at h
   rw [vO] at h
   obtain ⟨m, hm, he⟩ := h
   have he' : m.1 = t := by simpa using he
   rcases Int.lt_or_lt_of_ne (show m.1 ≠ who by omega) with c | c
   ·have : (l.filter fun m => decide (m.1 < who)).any (fun m => m.1 == t) = true := vO.2 ⟨m, yL.2 ⟨hm, by simpa using c⟩, he⟩
    rw [this]; rfl
   ·have : (l.filter fun m => decide (who < m.1)).any (fun m => m.1 == t) = true := vO.2 ⟨m, yL.2 ⟨hm, by simpa using c⟩, he⟩
    rw [this]; simp
  ·exact absurd h e
end Go.Fx.P
namespace Go.Fx.P
open Go Go.Fx Go.Proofs Go.Fx.R
set_option maxRecDepth 20000
def cnt (l : List Gift) (t : Int) : Int := ((l.filter fun g => g.to == t).length : Nat)
theorem cnt_nil {t : Int} : cnt [] t = 0 := rfl
theorem cnt_cons {g : Gift} {l : List Gift} {t : Int} : cnt (g :: l) t = (if g.to = t then 1 else 0) + cnt l t := by
 unfold cnt
 rw [vZ]
 by_cases h : g.to = t
 ·rw [if_pos (by simpa using h), if_pos h, vH]; omega
 ·rw [if_neg (by simpa using h), if_neg h]; omega
theorem cnt_nn {l : List Gift} {t : Int} : 0 ≤ cnt l t := by unfold cnt; omega
theorem cnt_app {l m : List Gift} {t : Int} : cnt (l ++ m) t = cnt l t + cnt m t := by
 unfold cnt; rw [uF, vA]; omega
def goodL (sent : List Sp) : List Gift → Prop
 | [] => True
 | g :: r => (isM sent g.to = true ∧ g.uses.length ≠ 0 ∧ Us g.uses ∧ g.serial = markOf sent g.to - cnt r g.to ∧ 1 ≤ g.serial) ∧ goodL sent r
theorem goodL_iff {sent : List Sp} : ∀ {l : List Gift}, goodL sent l ↔ ∀ k (h : k < l.length), isM sent l[k].to = true ∧ l[k].uses.length ≠ 0 ∧ Us l[k].uses ∧ l[k].serial = markOf sent l[k].to - cnt (l.drop (k + 1)) l[k].to ∧ 1 ≤ l[k].serial
 | [] => by simp [goodL]
 | g :: r => by
  unfold goodL
  rw [goodL_iff]
  constructor
  ·rintro ⟨h1, h2⟩ k hk
   cases k with
   | zero => exact h1
   | succ k => exact h2 k (by simpa using hk)
  ·intro h
   exact ⟨h 0 (by simp), fun k hk => h (k + 1) (by simpa using hk)⟩
structure Rt (p : Purse) : Prop where
 me : 0 ≤ p.me ∧ p.me < 128
 l : Us p.left
 s : Us p.spent
 a : ∀ x, inS p.left x → ¬ inS p.spent x
 ms : MkOk p.sent p.me
 mh : MkOk p.heard p.me
 n : p.out.length ≤ 64
 g : goodL p.sent p.out
theorem rt_spend {p : Purse} (h : Rt p) : Rt (spendP p).1 := by
 unfold spendP
 split
 ·exact h
 ·split
  ·exact h
  ·rename_i c
   have hv := h.l.v.1
   refine ⟨h.me, us_of (sep_minusS hv) (by show (minusS p.left (takeS p.left 1)).length ≤ 1000; omega) fun x hx => h.l.in (in_minusS.1 hx).1, us_of (sep_bothS h.s.v.1) (by show (bothS p.spent (takeS p.left 1)).length ≤ 1000; omega) fun x hx => ?_, fun x hx hy => ?_, h.ms, h.mh, h.n, h.g⟩
   ·rw [in_bothS h.s.v.1] at hx
    rcases hx with hx | hx
    ·exact h.s.in hx
    ·exact h.l.in (takeS_in hx)
   ·obtain ⟨a, b⟩ := in_minusS.1 hx
    rw [in_bothS h.s.v.1] at hy
    rcases hy with hy | hy
    ·exact h.a x a hy
    ·exact b hy
theorem goodL_app {sent : List Sp} {t n : Int} {l : List Sp} (hm : Mks sent) (h1 : l.length ≠ 0) (h2 : Us l) (h3 : 1 ≤ markOf sent t + 1) : ∀ {out : List Gift}, goodL sent out → goodL (setM sent t (markOf sent t + 1)) (out ++ [⟨t, markOf sent t + 1, l⟩])
 | [], _ => by
  refine ⟨⟨isM_set (.inr rfl), h1, h2, ?_, h3⟩, trivial⟩
  show markOf sent t + 1 = markOf (setM sent t (markOf sent t + 1)) t - cnt [] t
  rw [markOf_set hm, if_pos rfl, cnt_nil]; omega
 | g :: r, ⟨⟨a, b, c, d, e⟩, hr⟩ => by
  refine ⟨⟨isM_set (.inl a), b, c, ?_, e⟩, goodL_app hm h1 h2 h3 (n := n) hr⟩
  rw [markOf_set hm]
  show g.serial = _ - cnt (r ++ [⟨t, markOf sent t + 1, l⟩]) g.to
  rw [cnt_app, cnt_cons, cnt_nil, d]
  by_cases e : g.to = t
  ·rw [if_pos e, if_pos e.symm, e]; omega
  ·rw [if_neg e, if_neg (fun h => e h.symm)]; omega
theorem takeN_ne {l : List Sp} {n : Int} (h : Sep l) (hn : 1 ≤ n) (hl : l ≠ []) : (takeS l n).length ≠ 0 := by
 cases l with
 | nil => exact absurd rfl hl
 | cons s l =>
  unfold takeS
  rw [if_neg (by omega)]
  simp
theorem rt_give {p : Purse} {to n : Int} (h : Rt p) : Rt (giveP p to n).1 := by
 unfold giveP
 split
 ·exact h
 ·rename_i c1
  split
  ·exact h
  ·rename_i c2
   split
   ·exact h
   ·rename_i c3
    have hv := h.l.v.1
    have hmb := mark_b (who := to) h.ms
    unfold partyB at c1
    simp at c1
    refine ⟨h.me, h.l.rest (by omega), h.s, fun x hx => h.a x (in_minusS.1 hx).1, setM_ok h.ms ⟨by simp only; omega, by simp only; omega, by simp only; omega, by simp only; omega⟩, h.mh, by simp only [vA, uP]; omega, ?_⟩
    refine goodL_app (n := n) h.ms.mks (takeN_ne hv (by omega) ?_) h.l.take (by omega) h.g
    intro hl
    rw [hl] at c2
    have : tot [] = 0 := rfl
    omega
theorem goodL_lt {sent : List Sp} {t : Int} : ∀ {r : List Gift}, goodL sent r → ∀ g ∈ r, g.to = t → markOf sent t - cnt r t < g.serial
 | g :: r, ⟨⟨_, _, _, d, _⟩, hr⟩, x, hx, ht => by
  rw [cnt_cons]
  rcases yH.1 hx with rfl | hx
  ·rw [if_pos ht, d, ht]; omega
  ·have := goodL_lt hr x hx ht
   split <;> omega
theorem goodL_keep {sent : List Sp} {L : Ltr} : ∀ {out : List Gift}, goodL sent out → goodL sent (out.filter (keepB L))
 | [], _ => trivial
 | g :: r, ⟨⟨a, b, c, d, e⟩, hr⟩ => by
  have ih := goodL_keep (L := L) hr
  rw [vZ]
  cases hk : keepB L g with
  | false => exact ih
  | true =>
   refine ⟨⟨a, b, c, ?_, e⟩, ih⟩
   rw [d]
   congr 1
   unfold cnt
   rw [List.filter_filter]
   congr 2
   refine (List.filter_congr fun x hx => ?_)
   cases ht : x.to == g.to with
   | false => rfl
   | true =>
    have ht' : x.to = g.to := by simpa using ht
    have hlt := goodL_lt hr x hx ht'
    have : keepB L x = true := by
     unfold keepB at hk ⊢
     rw [ht']
     simp at hk ⊢
     omega
    rw [this]; rfl
theorem rt_ack {p : Purse} {L : Ltr} (h : Rt p) : Rt (ackP p L) := by
 unfold ackP
 split
 ·exact ⟨h.me, h.l, h.s, h.a, h.ms, h.mh, vJ (uO ..) h.n, goodL_keep h.g⟩
 ·exact h
theorem rt_gift {p : Purse} {L : Ltr} (h : Rt p) (hu : Us L.uses) (h1 : partyB L.frm = true) (h2 : (L.frm == p.me) = false) (h3 : countsB L.serial = true) : Rt (giftP p L).1 := by
 unfold giftP
 split
 ·exact h
 ·split
  ·rename_i c
   unfold gOk at c
   simp only [uK, decide_eq_true_eq] at c
   obtain ⟨⟨⟨c1, c2⟩, c3⟩, c4⟩ := c
   have hv := h.l.v.1
   unfold partyB at h1
   unfold countsB at h3
   simp at h1 h2 h3
   refine ⟨h.me, us_of (sep_bothS hv) c4 fun x hx => ?_, h.s, fun x hx hy => ?_, h.ms, setM_ok h.mh ⟨by simp only; omega, h2, by simp only; omega, by simp only; omega⟩, h.n, h.g⟩
   ·rw [in_bothS hv] at hx
    rcases hx with hx | hx
    ·exact h.l.in hx
    ·exact hu.in hx
   ·rw [in_bothS hv] at hx
    rcases hx with hx | hx
    ·exact h.a x hx hy
    ·exact (meet0 hu.v.1).1 c3 x hx hy
  ·exact h
theorem Rt.uv {p : Purse} (h : Rt p) : ∀ g ∈ p.out, Us g.uses := by
 have key : ∀ {l : List Gift}, goodL p.sent l → ∀ g ∈ l, Us g.uses := by
  intro l
  induction l with
  | nil => intro _ g hg; cases hg
  | cons x r ih =>
   rintro ⟨h1, h2⟩ g hg
   rcases yH.1 hg with rfl | hg
   ·exact h1.2.2.1
   ·exact ih h2 g hg
 exact key h.g
end Go.Fx.P
namespace Go.Fx.P
open Go Go.Fx Go.Proofs Go.Fx.R
set_option maxRecDepth 20000
end Go.Fx.P
namespace Go.Fx.P
open Go Go.Fx Go.Proofs Go.Fx.R
set_option maxRecDepth 20000
theorem hle {q : Purse} (h : Rt q) : q.out.length ≤ 1000000 := vJ h.n (by omega)
end Go.Fx.P
namespace Go.Fx.P
open Go Go.Fx Go.Proofs Go.Fx.R
set_option maxRecDepth 20000
def ind (l : List Sp) (x : Int) : Nat := if hasB l x then 1 else 0
theorem ind_le {l : List Sp} {x : Int} : ind l x ≤ 1 := by unfold ind; split <;> omega
theorem ind_pos {l : List Sp} {x : Int} : inS l x ↔ ind l x = 1 := by
 unfold ind
 rw [← hasB_iff]
 cases hasB l x <;> simp
theorem ind_zero {l : List Sp} {x : Int} : ¬ inS l x ↔ ind l x = 0 := by
 rw [ind_pos]
 have := ind_le (l := l) (x := x)
 omega
theorem ind_nil {x : Int} : ind [] x = 0 := rfl
theorem ind_both {a b : List Sp} {x : Int} (h : Sep a) (hd : ind a x + ind b x ≤ 1) : ind (bothS a b) x = ind a x + ind b x := by
 have hb := ind_pos (l := bothS a b) (x := x)
 rw [in_bothS h, ind_pos, ind_pos] at hb
 have := ind_le (l := bothS a b) (x := x)
 have := ind_le (l := a) (x := x)
 have := ind_le (l := b) (x := x)
 by_cases c : ind a x = 1 ∨ ind b x = 1
 ·have := hb.1 c; omega
 ·have h2 : ¬ ind (bothS a b) x = 1 := fun h => c (hb.2 h)
  omega
def fl (p q : Purse) (x : Int) : Nat := if p.me = q.me then 0 else ((p.out.map fun g => if selG p q g then ind g.uses x else 0)).sum
def plc (all : List Purse) (p : Purse) (x : Int) : Nat := ind p.left x + ind p.spent x + (all.map fun q => fl p q x).sum
def tt (all : List Purse) (x : Int) : Nat := (all.map fun p => plc all p x).sum
end Go.Fx.P
namespace Go.Fx.P
open Go Go.Fx Go.Proofs Go.Fx.R
set_option maxRecDepth 20000
theorem sum_set (f : Purse → Nat) (p : Purse) : ∀ (l : List Purse) (k : Nat) (h : k < l.length), ((l.set k p).map f).sum + f l[k] = (l.map f).sum + f p
 | [], _, h => by simp at h
 | a :: l, 0, _ => by simp only [List.set_cons_zero, yI, yK, vI]; omega
 | a :: l, k + 1, h => by
  have := sum_set f p l k (by simpa using h)
  simp only [List.set_cons_succ, yI, yK, yV]
  omega
theorem sum_same {f g : Purse → Nat} {l : List Purse} (h : ∀ p ∈ l, f p = g p) : (l.map f).sum = (l.map g).sum := by rw [uQ h]
theorem fl_q {p q q' : Purse} {x : Int} (h1 : q'.me = q.me) (h2 : q'.heard = q.heard) : fl p q' x = fl p q x := by unfold fl selG; rw [h1, h2]
theorem fl_p {p p' q : Purse} {x : Int} (h1 : p'.me = p.me) (h2 : p'.out = p.out) : fl p' q x = fl p q x := by unfold fl selG; rw [h1, h2]
theorem tt_row {all : List Purse} {k : Nat} {p' : Purse} {x : Int} (h : k < all.length) (h1 : p'.me = all[k].me) (h2 : p'.heard = all[k].heard) (h3 : plc all p' x = plc all all[k] x) : tt (all.set k p') x = tt all x := by
 have e : ∀ p, plc (all.set k p') p x = plc all p x := fun p => by
  unfold plc
  have := sum_set (fun q => fl p q x) p' all k h
  rw [fl_q h1 h2] at this
  omega
 unfold tt
 rw [sum_same fun p _ => e p]
 have := sum_set (fun p => plc all p x) p' all k h
 rw [h3] at this
 omega
theorem ind_minus {a b : List Sp} {x : Int} (h : ∀ x, inS b x → inS a x) : ind (minusS a b) x + ind b x = ind a x := by
 have h1 := in_minusS (a := a) (b := b) (x := x)
 rw [ind_pos, ind_pos, ind_pos] at h1
 have h2 := h x
 rw [ind_pos, ind_pos] at h2
 have := ind_le (l := minusS a b) (x := x)
 have := ind_le (l := a) (x := x)
 have := ind_le (l := b) (x := x)
 by_cases c : ind b x = 1
 ·have := h2 c
  have : ¬ ind (minusS a b) x = 1 := fun h => (h1.1 h).2 c
  omega
 ·by_cases d : ind a x = 1
  ·have := h1.2 ⟨d, c⟩; omega
  ·have : ¬ ind (minusS a b) x = 1 := fun h => d (h1.1 h).1
   omega
theorem plc_spend {all : List Purse} {p : Purse} {x : Int} (h : Rt p) : plc all (spendP p).1 x = plc all p x := by
 unfold spendP
 split
 ·rfl
 ·split
  ·rfl
  ·unfold plc
   rw [sum_same (f := fun q => fl { p with left := minusS p.left (takeS p.left 1), spent := bothS p.spent (takeS p.left 1) } q x) (g := fun q => fl p q x) fun q _ => fl_p rfl rfl]
   have h1 := ind_minus (a := p.left) (b := takeS p.left 1) (x := x) fun x hx => takeS_in hx
   have h2 : ind p.spent x + ind (takeS p.left 1) x ≤ 1 := by
    have a := ind_le (l := p.spent) (x := x)
    have b := ind_le (l := takeS p.left 1) (x := x)
    by_cases c : inS (takeS p.left 1) x
    ·have := ind_zero.1 (h.a x (takeS_in c)); omega
    ·have := ind_zero.1 c; omega
   have h3 := ind_both h.s.v.1 h2
   simp only
   omega
def abv (out : List Gift) (j s : Int) (x : Int) : Nat := (out.map fun g => if g.to = j ∧ s < g.serial then ind g.uses x else 0).sum
theorem fl_abv {p q : Purse} {x : Int} (h : p.me ≠ q.me) : fl p q x = abv p.out q.me (markOf q.heard p.me) x := by
 unfold fl abv selG
 rw [if_neg h]
 congr 1
 refine uQ fun g _ => ?_
 by_cases c : g.to = q.me ∧ markOf q.heard p.me < g.serial
 ·rw [if_pos c, if_pos (by simp [c.1, c.2])]
 ·rw [if_neg c, if_neg (by simp; exact fun h => by omega)]
theorem abv_app {a b : List Gift} {j s x : Int} : abv (a ++ b) j s x = abv a j s x + abv b j s x := by
 unfold abv; rw [yJ, List.sum_append]
theorem abv_cons {g : Gift} {l : List Gift} {j s x : Int} : abv (g :: l) j s x = (if g.to = j ∧ s < g.serial then ind g.uses x else 0) + abv l j s x := by
 unfold abv; rw [yI, yK]
theorem abv_all {l : List Gift} {j s s' x : Int} (h : ∀ g ∈ l, g.to = j → (s < g.serial ↔ s' < g.serial)) : abv l j s x = abv l j s' x := by
 induction l with
 | nil => rfl
 | cons g l ih =>
  rw [abv_cons, abv_cons, ih fun t ht => h t (by simp [ht])]
  congr 1
  have := h g (by simp)
  by_cases c : g.to = j
  ·have := this c
   by_cases d : s < g.serial
   ·rw [if_pos ⟨c, d⟩, if_pos ⟨c, this.1 d⟩]
   ·rw [if_neg fun e => d e.2, if_neg fun e => d (this.2 e.2)]
  ·rw [if_neg fun e => c e.1, if_neg fun e => c e.1]
theorem abv_one {sent : List Sp} {j s x : Int} : ∀ {out : List Gift}, goodL sent out → ∀ g0 ∈ out, g0.to = j → g0.serial = s → abv out j (s - 1) x = abv out j s x + ind g0.uses x
 | g :: r, ⟨⟨_, _, _, d, _⟩, hr⟩, g0, h0, h1, h2 => by
  rw [abv_cons, abv_cons]
  rcases yH.1 h0 with rfl | h0
  ·rw [if_pos ⟨h1, by omega⟩, if_neg fun c => by omega]
   have : abv r j (s - 1) x = abv r j s x := abv_all fun t ht hj => by
    have := goodL_lt hr t ht hj
    rw [h1] at d
    constructor
    ·intro _; omega
    ·intro _; omega
   omega
  ·have ih := abv_one hr g0 h0 h1 h2 (x := x)
   have hlt := goodL_lt hr g0 h0 h1
   by_cases c : g.to = j
   ·rw [c] at d
    rw [if_neg fun e => by omega, if_neg fun e => by omega, ih]; omega
   ·rw [if_neg fun e => c e.1, if_neg fun e => c e.1, ih]; omega
theorem abv_keep {L : Ltr} {j s x : Int} : ∀ {out : List Gift}, (∀ g ∈ out, keepB L g = false → g.to = j → ¬ s < g.serial) → abv (out.filter (keepB L)) j s x = abv out j s x
 | [], _ => rfl
 | g :: r, h => by
  have ih := abv_keep (L := L) (j := j) (s := s) (x := x) (out := r) fun t ht => h t (by simp [ht])
  rw [vZ]
  cases hk : keepB L g with
  | true => simp only [if_true]; rw [abv_cons, abv_cons, ih]
  | false =>
   simp only [vS, if_false]
   rw [ih, abv_cons, if_neg fun c => h g (by simp) hk c.1 c.2]; omega
end Go.Fx.P
namespace Go.Fx.P
open Go Go.Fx Go.Proofs Go.Fx.R
set_option maxRecDepth 20000
def id1 : Dig := ⟨1, 0, 0, 0, 0, 0, 0, 0, 0, 0, 0, 0, 0, 0, 0, 0⟩
structure LOk (all : List Purse) (L : Ltr) : Prop where
 id : L.id = id1
 w : ∃ (i j : Nat) (hi : i < all.length) (hj : j < all.length), i ≠ j ∧ L.frm = i ∧ L.to = j ∧
  ((L.kind = 1 ∧ L.serial ≤ markOf all[i].sent j ∧ (markOf all[j].heard i < L.serial → ∃ g ∈ all[i].out, g.to = j ∧ g.serial = L.serial ∧ g.uses = L.uses)) ∨
    (L.kind = 2 ∧ L.serial ≤ markOf all[i].heard j))
structure Inv (n : Nat) (all : List Purse) (way : List Ltr) (spent : List Int) : Prop where
 len : all.length = 4
 rt : ∀ i (h : i < all.length), Rt all[i] ∧ all[i].id = id1 ∧ all[i].me = i
 gt : ∀ i (h : i < all.length), ∀ g ∈ all[i].out, 0 ≤ g.to ∧ g.to < 4
 hs : ∀ i j (hi : i < all.length) (hj : j < all.length), markOf all[j].heard i ≤ markOf all[i].sent j
 tt : ∀ x, tt all x = if 1 ≤ x ∧ x ≤ n then 1 else 0
 sp : ∀ x ∈ spent, ∃ i, ∃ h : i < all.length, inS all[i].spent x
 nd : spent.Nodup
 lt : ∀ L ∈ way, LOk all L
structure Stp (all : List Purse) (k : Nat) (hk : k < all.length) (p' : Purse) : Prop where
 rt : Rt p'
 id : p'.id = all[k].id
 me : p'.me = all[k].me
 gt : ∀ g ∈ p'.out, 0 ≤ g.to ∧ g.to < 4
 s : ∀ t, markOf all[k].sent t ≤ markOf p'.sent t
 h : ∀ t, markOf all[k].heard t ≤ markOf p'.heard t
 hs : ∀ i (hi : i < all.length), i ≠ k → markOf p'.heard i ≤ markOf all[i].sent k
 hk : markOf p'.heard k ≤ markOf p'.sent k
 o : ∀ j (hj : j < all.length), j ≠ k → ∀ g ∈ all[k].out, g.to = j → markOf all[j].heard k < g.serial → g ∈ p'.out
 tt : ∀ x, tt (all.set k p') x = tt all x
 sp : ∀ x, inS all[k].spent x → inS p'.spent x
theorem LOk.step {all : List Purse} {k : Nat} {hk : k < all.length} {p' : Purse} (h : Stp all k hk p') {L : Ltr} (hL : LOk all L) : LOk (all.set k p') L := by
 obtain ⟨h0, i, j, hi, hj, hne, h1, h2, h3⟩ := hL
 refine ⟨h0, i, j, by simpa using hi, by simpa using hj, hne, h1, h2, ?_⟩
 simp only [vC]
 rcases h3 with ⟨k1, a, b⟩ | ⟨k2, a⟩
 ·refine .inl ⟨k1, ?_, ?_⟩
  ·split
   ·rename_i e; subst e
    have := h.s j; omega
   ·exact a
  ·intro hlt
   have hlt2 : markOf all[j].heard i < L.serial := by
    split at hlt
    ·rename_i e; subst e
     have := h.h i; omega
    ·exact hlt
   obtain ⟨g, hg, g1, g2, g3⟩ := b hlt2
   refine ⟨g, ?_, g1, g2, g3⟩
   split
   ·rename_i e; subst e
    exact h.o j hj (fun e => hne e.symm) g hg g1 (by rw [g2]; exact hlt2)
   ·exact hg
 ·refine .inr ⟨k2, ?_⟩
  split
  ·rename_i e; subst e
   have := h.h j; omega
  ·exact a
theorem Inv.step {n : Nat} {all : List Purse} {way : List Ltr} {spent : List Int} (h : Inv n all way spent) {k : Nat} {hk : k < all.length} {p' : Purse} (s : Stp all k hk p') : Inv n (all.set k p') way spent := by
 refine ⟨by simpa using h.len, fun i hi => ?_, fun i hi => ?_, fun i j hi hj => ?_, fun x => by rw [s.tt, h.tt], fun x hx => ?_, h.nd, fun L hL => (h.lt L hL).step s⟩
 ·have hi' : i < all.length := by simpa using hi
  simp only [vC]
  split
  ·rename_i e; subst e
   have := h.rt k hk
   exact ⟨s.rt, s.id.trans this.2.1, s.me.trans this.2.2⟩
  ·exact h.rt i hi'
 ·have hi' : i < all.length := by simpa using hi
  simp only [vC]
  split
  ·exact s.gt
  ·exact h.gt i hi'
 ·have hi' : i < all.length := by simpa using hi
  have hj' : j < all.length := by simpa using hj
  simp only [vC]
  have h0 := h.hs i j hi' hj'
  split
  ·rename_i e; subst e
   split
   ·rename_i e; subst e
    exact s.hk
   ·rename_i e
    exact s.hs i hi' (fun c => e c.symm)
  ·split
   ·rename_i e; subst e
    have := s.s j; omega
   ·exact h0
 ·obtain ⟨i, hi, hx⟩ := h.sp x hx
  refine ⟨i, by simpa using hi, ?_⟩
  simp only [vC]
  split
  ·rename_i e; subst e
   exact s.sp x hx
  ·exact hx
theorem stp_spend {n : Nat} {all : List Purse} {way : List Ltr} {spent : List Int} (h : Inv n all way spent) {k : Nat} (hk : k < all.length) : Stp all k hk (spendP all[k]).1 := by
 obtain ⟨hr, _, _⟩ := h.rt k hk
 have e : (spendP all[k]).1.id = all[k].id ∧ (spendP all[k]).1.me = all[k].me ∧ (spendP all[k]).1.sent = all[k].sent ∧ (spendP all[k]).1.heard = all[k].heard ∧ (spendP all[k]).1.out = all[k].out := by
  unfold spendP
  split
  ·exact ⟨rfl, rfl, rfl, rfl, rfl⟩
  ·split <;> exact ⟨rfl, rfl, rfl, rfl, rfl⟩
 obtain ⟨e1, e2, e3, e4, e5⟩ := e
 refine ⟨rt_spend hr, e1, e2, by rw [e5]; exact h.gt k hk, fun t => by rw [e3]; exact yD _, fun t => by rw [e4]; exact yD _, fun i hi _ => by rw [e4]; exact h.hs i k hi hk, by rw [e3, e4]; exact h.hs k k hk hk, fun j hj _ g hg _ _ => by rw [e5]; exact hg, fun x => tt_row hk e2 e4 (plc_spend hr), fun x hx => ?_⟩
 unfold spendP
 split
 ·exact hx
 ·split
  ·exact hx
  ·exact (in_bothS hr.s.v.1).2 (.inl hx)
end Go.Fx.P
namespace Go.Fx.P
open Go Go.Fx Go.Proofs Go.Fx.R
set_option maxRecDepth 20000
theorem sum_zero {f : Purse → Nat} : ∀ {l : List Purse}, (∀ p ∈ l, f p = 0) → (l.map f).sum = 0
 | [], _ => rfl
 | p :: l, h => by rw [yI, yK, h p (by simp), sum_zero fun q hq => h q (by simp [hq])]
theorem sum_add {f g : Purse → Nat} : ∀ {l : List Purse}, (l.map fun p => f p + g p).sum = (l.map f).sum + (l.map g).sum
 | [] => rfl
 | p :: l => by simp only [yI, yK]; rw [sum_add]; omega
theorem sum_me {c : Nat} {t : Int} : ∀ {l : List Purse} {off : Nat}, (∀ i (h : i < l.length), l[i].me = ((off + i : Nat) : Int)) → (off : Int) ≤ t → t < (off + l.length : Nat) → (l.map fun p => if p.me = t then c else 0).sum = c
 | [], off, _, h1, h2 => by simp at h2; omega
 | p :: l, off, h, h1, h2 => by
  have hp := h 0 (by simp)
  simp only [vI, uC] at hp
  have hr : ∀ i (hi : i < l.length), l[i].me = ((off + 1 + i : Nat) : Int) := fun i hi => by
   have := h (i + 1) (by simpa using hi)
   simp only [yV] at this
   rw [this]; omega
  rw [yI, yK]
  by_cases e : p.me = t
  ·rw [if_pos e, sum_zero]
   ·rfl
   ·intro q hq
    obtain ⟨i, hi, rfl⟩ := yM hq
    have := hr i hi
    rw [if_neg]
    omega
  ·rw [if_neg e, sum_me hr (by omega) (by rw [vH] at h2; omega)]
   omega
theorem stp_give {n : Nat} {all : List Purse} {way : List Ltr} {spent : List Int} (h : Inv n all way spent) {k : Nat} (hk : k < all.length) {to m : Int} (ht : 0 ≤ to ∧ to < 4) : Stp all k hk (giveP all[k] to m).1 := by
 obtain ⟨hr, hid, hme⟩ := h.rt k hk
 have hrg := rt_give (to := to) (n := m) hr
 unfold giveP at hrg ⊢
 have same : Stp all k hk all[k] := ⟨hr, rfl, rfl, h.gt k hk, fun _ => yD _, fun _ => yD _, fun i hi _ => h.hs i k hi hk, h.hs k k hk hk, fun _ _ _ _ hg _ _ => hg, fun x => by rw [uL], fun _ hx => hx⟩
 by_cases c1 : ((!partyB to || to == all[k].me) || decide (m < 1)) = true
 ·rw [if_pos c1]; exact same
 ·rw [if_neg c1] at hrg ⊢
  by_cases c2 : tot all[k].left < m
  ·rw [if_pos c2]; exact same
  ·rw [if_neg c2] at hrg ⊢
   by_cases c3 : 64 ≤ all[k].out.length ∨ 1099511627776 ≤ markOf all[k].sent to
   ·rw [if_pos c3]; exact same
   ·rw [if_neg c3] at hrg ⊢
    have hne : to ≠ all[k].me := by simp at c1; omega
    have hmk : ∀ t, markOf (setM all[k].sent to (markOf all[k].sent to + 1)) t = if t = to then markOf all[k].sent to + 1 else markOf all[k].sent t := fun t => markOf_set hr.ms.mks
    refine ⟨hrg, rfl, rfl, ?_, ?_, fun _ => yD _, fun i hi _ => h.hs i k hi hk, ?_, fun j hj _ g hg _ _ => uD _ hg, fun x => tt_row hk rfl rfl ?_, fun _ hx => hx⟩
    ·intro g hg
     rcases yS.1 hg with hg | hg
     ·exact h.gt k hk g hg
     ·rw [yX] at hg; subst hg; exact ht
    ·intro t
     simp only
     rw [hmk]
     split
     ·rename_i e; subst e; omega
     ·exact yD _
    ·have := h.hs k k hk hk
     simp only
     rw [hmk]
     split
     ·rename_i e; rw [e] at this; omega
     ·exact this
    ·have e : ∀ q ∈ all, fl { all[k] with left := minusS all[k].left (takeS all[k].left m), sent := setM all[k].sent to (markOf all[k].sent to + 1), out := all[k].out ++ [⟨to, markOf all[k].sent to + 1, takeS all[k].left m⟩] } q x = fl all[k] q x + (if q.me = to then ind (takeS all[k].left m) x else 0) := by
      intro q hq
      obtain ⟨j, hj, rfl⟩ := yM hq
      obtain ⟨_, _, hmj⟩ := h.rt j hj
      by_cases c : all[k].me = all[j].me
      ·unfold fl
       rw [if_pos c, if_pos c, if_neg (by omega)]
      ·rw [fl_abv c, fl_abv (by exact c)]
       simp only
       rw [abv_app]
       congr 1
       unfold abv
       simp only [yI, uA, yK, List.sum_nil, uC]
       have hh := h.hs k j hk hj
       by_cases d : to = all[j].me
       ·have hlt : markOf all[j].heard all[k].me < markOf all[k].sent to + 1 := by
         rw [hme, d, hmj]
         omega
        rw [if_pos ⟨d, hlt⟩, if_pos d.symm]
       ·rw [if_neg fun e => d e.1, if_neg fun e => d e.symm]
     unfold plc
     rw [sum_same e, sum_add, sum_me (off := 0) (fun i hi => by rw [(h.rt i hi).2.2]; simp) (by omega) (by rw [h.len]; omega)]
     have := ind_minus (a := all[k].left) (b := takeS all[k].left m) (x := x) fun x hx => takeS_in hx
     simp only
     omega
theorem stp_ack {n : Nat} {all : List Purse} {way : List Ltr} {spent : List Int} (h : Inv n all way spent) {i k : Nat} (hi : i < all.length) (hk : k < all.length) {L : Ltr} (h1 : L.frm = i) (h2 : L.serial ≤ markOf all[i].heard k) : Stp all k hk (ackP all[k] L) := by
 obtain ⟨hr, hid, hme⟩ := h.rt k hk
 have hra := rt_ack (L := L) hr
 unfold ackP at hra ⊢
 have same : Stp all k hk all[k] := ⟨hr, rfl, rfl, h.gt k hk, fun _ => yD _, fun _ => yD _, fun i hi _ => h.hs i k hi hk, h.hs k k hk hk, fun _ _ _ _ hg _ _ => hg, fun x => by rw [uL], fun _ hx => hx⟩
 by_cases c : L.serial ≤ markOf all[k].sent L.frm
 ·rw [if_pos c] at hra ⊢
  have hno : ∀ g, keepB L g = false → g.to = i ∧ g.serial ≤ L.serial := fun g hg => by
   unfold keepB at hg
   simp at hg
   omega
  refine ⟨hra, rfl, rfl, fun g hg => h.gt k hk g (yL.1 hg).1, fun _ => yD _, fun _ => yD _, fun i hi _ => h.hs i k hi hk, h.hs k k hk hk, fun j hj _ g hg hto hlt => ?_, fun x => tt_row hk rfl rfl ?_, fun _ hx => hx⟩
  ·refine yL.2 ⟨hg, ?_⟩
   cases hb : keepB L g with
   | true => rfl
   | false =>
    obtain ⟨a, b⟩ := hno g hb
    have : j = i := by omega
    subst this
    omega
  ·unfold plc
   rw [sum_same (f := fun q => fl { all[k] with out := all[k].out.filter (keepB L) } q x) (g := fun q => fl all[k] q x)]
   intro q hq
   obtain ⟨j, hj, rfl⟩ := yM hq
   obtain ⟨_, _, hmj⟩ := h.rt j hj
   by_cases c : all[k].me = all[j].me
   ·unfold fl
    rw [if_pos c, if_pos c]
   ·rw [fl_abv c, fl_abv (by exact c)]
    refine abv_keep fun g hg hb hto hlt => ?_
    obtain ⟨a, b⟩ := hno g hb
    have : j = i := by omega
    subst this
    rw [hme] at hlt
    omega
 ·rw [if_neg c]; exact same
end Go.Fx.P
namespace Go.Fx.P
open Go Go.Fx Go.Proofs Go.Fx.R
set_option maxRecDepth 20000
theorem stp_same {n : Nat} {all : List Purse} {way : List Ltr} {spent : List Int} (h : Inv n all way spent) {k : Nat} (hk : k < all.length) : Stp all k hk all[k] := by
 obtain ⟨hr, hid, hme⟩ := h.rt k hk
 exact ⟨hr, rfl, rfl, h.gt k hk, fun _ => yD _, fun _ => yD _, fun i hi _ => h.hs i k hi hk, h.hs k k hk hk, fun _ _ _ _ hg _ _ => hg, fun x => by rw [uL], fun _ hx => hx⟩
theorem stp_gift {n : Nat} {all : List Purse} {way : List Ltr} {spent : List Int} (h : Inv n all way spent) {i k : Nat} (hi : i < all.length) (hk : k < all.length) (hne : i ≠ k) {L : Ltr} (h1 : L.frm = i) (h2 : L.serial ≤ markOf all[i].sent k)
  (h3 : markOf all[k].heard i < L.serial → ∃ g ∈ all[i].out, g.to = k ∧ g.serial = L.serial ∧ g.uses = L.uses) (hu : Us L.uses) (ho : outL all[k] L = false) : Stp all k hk (giftP all[k] L).1 ∧ (0 < (giftP all[k] L).2 → (giftP all[k] L).2 ≤ markOf (giftP all[k] L).1.heard i) := by
 obtain ⟨hr, hid, hme⟩ := h.rt k hk
 unfold outL at ho
 simp only [uR, Bool.not_eq_false'] at ho
 have hrg := rt_gift (L := L) hr hu ho.1.1.2 ho.1.2 ho.2
 unfold giftP at hrg ⊢
 have same := stp_same h hk
 by_cases c1 : L.serial ≤ markOf all[k].heard L.frm
 ·rw [if_pos c1]
  exact ⟨same, fun _ => by simp only; rw [h1]; exact yD _⟩
 ·rw [if_neg c1] at hrg ⊢
  by_cases c2 : gOk all[k] L = true
  ·rw [if_pos c2] at hrg ⊢
   unfold gOk at c2
   simp only [uK, decide_eq_true_eq, beq_iff_eq] at c2
   obtain ⟨⟨⟨d1, d2⟩, d3⟩, d4⟩ := c2
   have hmk : ∀ t, markOf (setM all[k].heard L.frm L.serial) t = if t = L.frm then L.serial else markOf all[k].heard t := fun t => markOf_set hr.mh.mks
   rw [h1] at c1 d1
   obtain ⟨g0, hg0, g1, g2, g3⟩ := h3 (by omega)
   refine ⟨⟨hrg, rfl, rfl, h.gt k hk, fun _ => yD _, ?_, ?_, ?_, fun j hj _ g hg _ _ => hg, ?_, fun x hx => hx⟩, fun _ => ?_⟩
   ·intro t
    simp only
    rw [hmk]
    split
    ·rename_i e; rw [e, h1]; omega
    ·exact yD _
   ·intro j hj hjk
    simp only
    rw [hmk]
    split
    ·rename_i e
     have : j = i := by omega
     subst this
     exact h2
    ·exact h.hs j k hj hk
   ·simp only
    rw [hmk, if_neg (by omega)]
    exact h.hs k k hk hk
   ·intro x
    have hap := (meet0 hu.v.1).1 d2
    have hd : ind all[k].left x + ind L.uses x ≤ 1 := by
     have a := ind_le (l := all[k].left) (x := x)
     have b := ind_le (l := L.uses) (x := x)
     by_cases c : inS L.uses x
     ·have := ind_zero.1 (hap x c); omega
     ·have := ind_zero.1 c; omega
    have hb := ind_both hr.l.v.1 hd
    generalize hP : ({ all[k] with left := bothS all[k].left L.uses, heard := setM all[k].heard L.frm L.serial } : Purse) = P
    have pme : P.me = k := by rw [← hP]; exact hme
    have pout : P.out = all[k].out := by rw [← hP]
    have ph : P.heard = setM all[k].heard L.frm L.serial := by rw [← hP]
    have hrow : plc all P x = plc all all[k] x + ind L.uses x := by
     unfold plc
     rw [sum_same (f := fun q => fl P q x) (g := fun q => fl all[k] q x) fun q _ => fl_p (pme.trans hme.symm) pout, ← hP]
     simp only
     omega
    have hfl : ∀ p ∈ all.set k P, fl p P x + (if p.me = i then ind L.uses x else 0) = fl p all[k] x := by
     intro p hp
     obtain ⟨j, hj, rfl⟩ := yM hp
     have hj' : j < all.length := by simpa using hj
     rw [vC]
     by_cases e : k = j
     ·subst e
      rw [if_pos rfl]
      unfold fl
      rw [if_pos rfl, if_pos (pme.trans hme.symm), if_neg (by rw [pme]; omega)]
     ·rw [if_neg e]
      obtain ⟨hrj, _, hmj⟩ := h.rt j hj'
      have c : all[j].me ≠ all[k].me := by omega
      have c' : all[j].me ≠ P.me := by omega
      rw [fl_abv c, fl_abv c', pme, hme, ph, hmk]
      by_cases d : all[j].me = i
      ·rw [if_pos d]
       have : j = i := by omega
       subst this
       rw [if_pos (by omega)]
       have := abv_one (x := x) hrj.g g0 hg0 g1 g2
       rw [g3] at this
       rw [← this, hmj]
       congr 1
       omega
      ·rw [if_neg d, if_neg (by omega), uC]
    have hcol : ∀ p ∈ all.set k P, plc (all.set k P) p x + (if p.me = i then ind L.uses x else 0) = plc all p x := by
     intro p hp
     have := sum_set (fun q => fl p q x) P all k hk
     have h4 := hfl p hp
     unfold plc
     omega
    have s1 := sum_same (l := all.set k P) (f := fun p => plc (all.set k P) p x + (if p.me = i then ind L.uses x else 0)) (g := fun p => plc all p x) hcol
    rw [sum_add, sum_me (off := 0) (fun j hj => by
     have hj' : j < all.length := by simpa using hj
     rw [vC]
     split
     ·rename_i e; subst e; rw [pme]; simp
     ·rw [(h.rt j hj').2.2]; simp) (by omega) (by rw [yT]; omega)] at s1
    have s2 := sum_set (fun p => plc all p x) P all k hk
    rw [hrow] at s2
    unfold tt
    show ((all.set k P).map fun p => plc (all.set k P) p x).sum = (all.map fun p => plc all p x).sum
    omega
   ·simp only
    rw [hmk, if_pos h1.symm]
    exact yD _
  ·rw [if_neg c2]
   exact ⟨same, fun h => by simp only at h; omega⟩
end Go.Fx.P
namespace Go.Fx.P
open Go Go.Fx Go.Proofs Go.Fx.R
set_option maxRecDepth 20000
theorem inv_hear {n : Nat} {all : List Purse} {way : List Ltr} {spent : List Int} (h : Inv n all way spent) {L : Ltr} (hL : L ∈ way) {k : Nat} (hk : k < all.length) (hto : L.to = k) : Inv n (all.set k (hearA all[k] L).1) (way ++ ansL all[k] L (hearA all[k] L).2) spent := by
 obtain ⟨h0, i, j, hi, hj, hne, h1, h2, h3⟩ := h.lt L hL
 obtain rfl : j = k := by omega
 obtain ⟨hr, hid, hme⟩ := h.rt j hj
 have key : Stp all j hj (hearA all[j] L).1 ∧ (0 < (hearA all[j] L).2 → (hearA all[j] L).2 ≤ markOf (hearA all[j] L).1.heard i) ∧ 0 ≤ (hearA all[j] L).2 := by
  unfold hearA
  split
  ·exact ⟨stp_same h hj, fun c => by simp only at c; omega, yD _⟩
  ·rename_i c
   have c' : outL all[j] L = false ∧ rightL L = true := by
    cases e1 : outL all[j] L <;> cases e2 : rightL L <;> simp_all
   split
   ·rename_i k1
    rcases h3 with ⟨_, a, b⟩ | ⟨k2, _⟩
    ·have hus : usB L.uses = true := by
      have := c'.2
      unfold rightL at this
      rw [if_pos k1] at this
      simp at this
      exact this.2
     obtain ⟨s1, s2⟩ := stp_gift h hi hj hne h1 a b (usB_iff.1 hus) c'.1
     refine ⟨s1, s2, ?_⟩
     have hc := c'.1
     unfold outL at hc
     simp only [uR, Bool.not_eq_false'] at hc
     have hs := hc.2
     unfold countsB at hs
     simp at hs
     unfold giftP
     split
     ·have := mark_b (who := L.frm) hr.mh
      simp only; omega
     ·split
      ·simp only; omega
      ·exact yD _
    ·omega
   ·rename_i k1
    rcases h3 with ⟨k2, _, _⟩ | ⟨k2, a⟩
    ·omega
    ·exact ⟨stp_ack h hi hj h1 a, fun c => by simp only at c; omega, yD _⟩
 obtain ⟨s1, s2, s3⟩ := key
 have hI := h.step s1
 refine ⟨hI.len, hI.rt, hI.gt, hI.hs, hI.tt, hI.sp, hI.nd, fun M hM => ?_⟩
 rcases yS.1 hM with hM | hM
 ·exact hI.lt M hM
 ·unfold ansL at hM
  split at hM
  ·cases hM
  ·rename_i hn
   rw [yX] at hM
   subst hM
   refine ⟨hid, j, i, by simpa using hj, by simpa using hi, fun e => hne e.symm, hme, h1, .inr ⟨rfl, ?_⟩⟩
   rw [vK]
   exact s2 (by omega)
theorem inv_send {n : Nat} {all : List Purse} {way : List Ltr} {spent : List Int} (h : Inv n all way spent) {k : Nat} (hk : k < all.length) : Inv n all (way ++ lettersP all[k]) spent := by
 obtain ⟨hr, hid, hme⟩ := h.rt k hk
 refine ⟨h.len, h.rt, h.gt, h.hs, h.tt, h.sp, h.nd, fun M hM => ?_⟩
 rcases yS.1 hM with hM | hM
 ·exact h.lt M hM
 ·unfold lettersP at hM
  obtain ⟨g, hg, rfl⟩ := List.mem_map.1 hM
  have hto := h.gt k hk g hg
  have hlen := h.len
  have hser : g.serial ≤ markOf all[k].sent g.to ∧ 1 ≤ g.serial ∧ isM all[k].sent g.to = true := by
   obtain ⟨j, hj, rfl⟩ := yM hg
   have := goodL_iff.1 hr.g j hj
   have hc := cnt_nn (l := all[k].out.drop (j + 1)) (t := all[k].out[j].to)
   exact ⟨by omega, this.2.2.2.2, this.1⟩
  have hne : g.to ≠ k := by
   obtain ⟨hp, hpe, _⟩ := posM_at hr.ms.mks hser.2.2
   have := (hr.ms.at hp).1.2.1
   omega
  refine ⟨hid, k, g.to.toNat, hk, by omega, by omega, hme, by show g.to = _; omega, .inl ⟨rfl, ?_, fun _ => ⟨g, hg, by omega, rfl, rfl⟩⟩⟩
  rw [show ((g.to.toNat : Nat) : Int) = g.to by omega]
  exact hser.1
theorem inv_spend {n : Nat} {all : List Purse} {way : List Ltr} {spent : List Int} (h : Inv n all way spent) {k : Nat} (hk : k < all.length) : Inv n (all.set k (spendP all[k]).1) way (if (spendP all[k]).2.2 = 0 then spent ++ [(spendP all[k]).2.1] else spent) := by
 have hI := h.step (stp_spend h hk)
 obtain ⟨hr, hid, hme⟩ := h.rt k hk
 split
 ·rename_i e
  have hin : inS all[k].left (spendP all[k]).2.1 ∧ inS (spendP all[k]).1.spent (spendP all[k]).2.1 := by
   unfold spendP at e ⊢
   split at e
   ·simp at e
   ·rename_i c
    rw [if_neg c]
    split at e
    ·simp at e
    ·rename_i c2
     rw [if_neg c2]
     have h1 := take1_ne hr.l.v c
     simp only
     rw [headD_get h1]
     have h2 := inS_lo (sep_takeS hr.l.v.1 (n := 1)) (yG h1)
     exact ⟨takeS_in h2, (in_bothS hr.s.v.1).2 (.inr h2)⟩
  have hnew : (spendP all[k]).2.1 ∉ spent := by
   intro hx
   obtain ⟨i, hi, hs⟩ := h.sp _ hx
   have ht := h.tt (spendP all[k]).2.1
   generalize (spendP all[k]).2.1 = x at *
   have h1 := ind_pos.1 hin.1
   have h2 := ind_pos.1 hs
   by_cases c : i = k
   ·subst c
    exact hr.a x hin.1 hs
   ·have s1 := sum_set (fun p => plc all p x) default all k hk
    have s2 := sum_set (fun p => plc all p x) default (all.set k default) i (by simpa using hi)
    rw [vL (fun e => c e.symm)] at s2
    have p1 : 1 ≤ plc all all[k] x := by unfold plc; omega
    have p2 : 1 ≤ plc all all[i] x := by unfold plc; omega
    have p3 : plc all default x = 0 := by
     unfold plc
     rw [sum_zero]
     ·rfl
     ·intro q _
      unfold fl
      split <;> rfl
    unfold tt at ht
    split at ht <;> omega
  refine ⟨hI.len, hI.rt, hI.gt, hI.hs, hI.tt, fun x hx => ?_, ?_, hI.lt⟩
  ·rcases yS.1 hx with hx | hx
   ·exact hI.sp x hx
   ·rw [yX] at hx
    subst hx
    exact ⟨k, by simpa using hk, by rw [vK]; exact hin.2⟩
  ·rw [List.nodup_append]
   exact ⟨h.nd, by simp, fun a ha b hb => by rw [yX] at hb; subst hb; intro e; subst e; exact hnew ha⟩
 ·exact hI
end Go.Fx.P
namespace Go.Fx.P
open Go Go.Fx Go.Proofs Go.Fx.R
set_option maxRecDepth 20000
theorem fl_nil {p q : Purse} {x : Int} (h : p.out = []) : fl p q x = 0 := by
 unfold fl
 rw [h]
 split <;> rfl
theorem Inv.way {n : Nat} {all : List Purse} {way way' : List Ltr} {spent : List Int} (h : Inv n all way spent) (hw : ∀ L ∈ way', L ∈ way) : Inv n all way' spent :=
 ⟨h.len, h.rt, h.gt, h.hs, h.tt, h.sp, h.nd, fun L hL => h.lt L (hw L hL)⟩
theorem Inv.range {n : Nat} {all : List Purse} {way : List Ltr} {spent : List Int} (h : Inv n all way spent) {x : Int} (hx : x ∈ spent) : 1 ≤ x ∧ x ≤ n := by
 obtain ⟨i, hi, hs⟩ := h.sp x hx
 have ht := h.tt x
 have h2 := ind_pos.1 hs
 have s1 := sum_set (fun p => plc all p x) default all i hi
 have p1 : 1 ≤ plc all all[i] x := by unfold plc; omega
 have p3 : plc all default x = 0 := by
  unfold plc
  rw [sum_zero]
  ·rfl
  ·intro q _
   unfold fl
   split <;> rfl
 unfold P.tt at ht
 split at ht <;> omega
def begP (n : Nat) (k : Nat) : Purse := (newP id1 k (if k = 0 then n else 0)).1
theorem begP_eq {n k : Nat} (hn : n ≤ 255) (hk : k < 4) : begP n k = ⟨id1, k, leftN (if k = 0 then n else 0), [], [], [], []⟩ := by
 unfold begP newP
 have h1 : partyB (k : Int) = true := by unfold partyB; simp; omega
 have h2 : decide ((if k = 0 then (n : Int) else 0) < 0) = false := by simp; split <;> omega
 have h2' : ¬ (1073741824 < if k = 0 then (n : Int) else 0) := by split <;> omega
 rw [h1, h2, if_neg (by simp), if_neg h2']
def begL (n : Nat) : List Purse := [begP n 0, begP n 1, begP n 2, begP n 3]
theorem leftN_us {n : Nat} (hn : n ≤ 255) : Us (leftN n) := by
 unfold leftN
 split
 ·exact us_of sep_nil (by simp) fun x hx => (inS_nil.1 hx).elim
 ·rename_i c
  refine us_of (sep_one.2 (by simp only; omega)) (by simp) fun x hx => ?_
  rw [inS_cons] at hx
  simp only [inS_nil, or_false] at hx
  omega
theorem beg_get {n i : Nat} (h : i < (begL n).length) : (begL n)[i] = begP n i := by
 match i, h with
 | 0, _ => rfl
 | 1, _ => rfl
 | 2, _ => rfl
 | 3, _ => rfl
 | i + 4, h => simp [begL] at h; omega
theorem inv_begin {n : Nat} (hn : n ≤ 255) : Inv n (begL n) [] [] := by
 have hl : (begL n).length = 4 := rfl
 have hg : ∀ i (h : i < (begL n).length), (begL n)[i] = ⟨id1, i, leftN (if i = 0 then n else 0), [], [], [], []⟩ := fun i h => by rw [beg_get h, begP_eq hn (by omega)]
 have hmk : MkOk [] = fun _ => True := by funext me; simp [MkOk]
 refine ⟨hl, fun i hi => ?_, fun i hi g hgg => ?_, fun i j hi hj => ?_, fun x => ?_, fun x hx => (by cases hx), .nil, fun L hL => (by cases hL)⟩
 ·rw [hg i hi]
  refine ⟨⟨by simp only; omega, ?_, us_of sep_nil (by simp) fun x hx => (inS_nil.1 hx).elim, fun x _ hx => inS_nil.1 hx, by rw [hmk]; trivial, by rw [hmk]; trivial, by simp, trivial⟩, rfl, rfl⟩
  by_cases c : i = 0
  ·simp only [if_pos c]; exact leftN_us hn
  ·simp only [if_neg c]; exact leftN_us (n := 0) (by omega)
 ·rw [hg i hi] at hgg; cases hgg
 ·rw [hg i hi, hg j hj]; exact yD _
 ·have e : ∀ i, i < 4 → plc (begL n) (begP n i) x = if i = 0 then ind (leftN n) x else 0 := fun i hi => by
   rw [begP_eq hn hi]
   unfold plc
   rw [sum_zero (f := fun q => fl _ q x) fun q _ => fl_nil rfl]
   by_cases c : i = 0
   ·simp [c, ind_nil]
   ·simp only [if_neg c]; rfl
  unfold tt
  simp only [begL, yI, uA, yK, List.sum_nil]
  have e0 := e 0 (by omega)
  have e1 := e 1 (by omega)
  have e2 := e 2 (by omega)
  have e3 := e 3 (by omega)
  simp only [begL] at e0 e1 e2 e3
  rw [e0, e1, e2, e3]
  simp only [if_true, uC]
  have hx := ind_pos (l := leftN n) (x := x)
  have := ind_le (l := leftN n) (x := x)
  have hin : inS (leftN n) x ↔ 1 ≤ x ∧ x ≤ n := by
   unfold leftN
   split
   ·rw [inS_nil]; constructor
    ·intro h; exact h.elim
    ·intro h; omega
   ·rw [inS_cons]
    simp only [inS_nil, or_false]
    omega
  rw [hin] at hx
  by_cases c : 1 ≤ x ∧ x ≤ n
  ·rw [if_pos c]
   have := hx.1 c
   simp; omega
  ·rw [if_neg c]
   have : ¬ ind (leftN n) x = 1 := fun h => c (hx.2 h)
   simp; omega
end Go.Fx.P
namespace Go.Fx.P
open Go Go.Fx Go.Proofs Go.Fx.R
set_option maxRecDepth 20000
def hW (all : List Purse) (way : List Ltr) (spent : List Int) : List Blk := [.var [.sl 1 0 all.length, .sl 2 0 way.length, .sl 3 0 spent.length], .arr 22 (all.map Purse.enc), .arr 21 (way.map Ltr.enc), .arr 1 (spent.map encI)]
end Go.Fx.P
namespace Go.Fx.P
open Go Go.Fx Go.Proofs Go.Fx.R
set_option maxRecDepth 20000
end Go.Fx.P
namespace Go.Fx.P
open Go Go.Fx Go.Proofs Go.Fx.R
set_option maxRecDepth 20000
def begT (n : Nat) (k : Nat) : List Purse := (vD k).map (begP n)
theorem begT_len {n k : Nat} : (begT n k).length = k := by simp [begT]
theorem begT_succ {n k : Nat} : begT n (k + 1) = begT n k ++ [begP n k] := by simp [begT, uM]
theorem ok5 (n : Nat) (hn : n ≤ 255) : Ok 5 [.i n] (IsA (.agg [.sl 2 0 4, .nil, .nil]) [.dead, .dead, .arr 22 ((begL n).map Purse.enc)]) := by
 refine ok_of lw5 (by simp) ?_
 unfold c5
 simp -implicitDefEqProofs only [rX,↓rY,ofConst,cells?,splice,↓reduceIte,Nat.reduceEqDiff,Nat.reduceAdd,freshP,buildP,isC,cxN,yC,yA,args0]
 refine loopP_ghost (.virt 1 22 (by decide) (.nilB 1 [.nil, .nil, .nil] [.sl 2 0 0, .nil, .nil] rfl ⟨rfl, fun i x y h1 h2 => by
  match i with
  | 0 => simp at h1 h2; subst h1 h2; exact .inr ⟨rfl, 2, rfl⟩
  | 1 => simp at h1 h2; subst h1 h2; exact .inl rfl
  | 2 => simp at h1 h2; subst h1 h2; exact .inl rfl
  | i + 3 => simp at h1⟩ (.refl _))) (fun k : Nat => ⟨[(4, .i k), (3, .ptr 1 0 0), (2, .ptr 0 0 0), (0, .i n)], [.var [.nil, .nil, .nil], .var [.sl 2 0 k, .nil, .nil], .arr 22 ((begT n k).map Purse.enc)], 2⟩) (fun k => k ≤ 4) (fun k => 4 - k) 0 (by omega) ?_ ?_
 ·simp -implicitDefEqProofs only [rX,↓reduceIte,Nat.reduceEqDiff,reduceCtorEq,leE,leH,leB,leV,leVs,keepP,liveP,wfE,wfB,wfV,wfL,yQ,yY]
  rfl
 rintro k hk
 unfold c5l0
 rcases yN k 4 with hk' | hk'
 ·have h1 : decide ((k : Int) < 4) = true := decide_eq_true (by omega)
  by_cases h0 : k = 0
  ·have h2 : ((k : Int) == 0) = true := by simp [h0]
   simp -implicitDefEqProofs only [rX,↓rY,ofConst,cells?,splice,↓reduceIte,Nat.reduceEqDiff,Nat.reduceAdd,reduceCtorEq,buildP,isC,Nat.reduceLeDiff,yC,yB,yA,h1,h2]
   have hb : (newP id1 k n).1 = begP n k := by unfold begP; rw [if_pos h0]
   refine call_is (ok10 id1 k n (by omega)) (by simp [lendsOk, lendOk, lends, lend, wkL, wk, wkR, id1]) rfl trivial ?_
   rw [hb]
   generalize hq : begP n k = q
   have htk : yE k ((begT n k).map Purse.enc) = (begT n k).map Purse.enc := yF (by simp [begT_len])
   simp -implicitDefEqProofs only [rX,↓rY,ofConst,cells?,splice,↓reduceIte,Nat.reduceEqDiff,Nat.reduceAdd,reduceCtorEq,freshP,litsP,leE,leH,leB,leV,leVs,keepP,liveP,wfE,wfB,wfV,wfL,killE,killB,kill,kills,St.kill,isD,isC,Nat.reduceLT,Nat.reduceLeDiff,zc22,yC,yB,yA,htk,↓op_litsf,↓frzP_n,↓frzP_c,↓frzQ_a]
   refine ⟨⟨by rw [begT_len]; exact yZ _, by omega⟩, by simp only [lo, hi]; omega, k + 1, ⟨by omega, by omega⟩, by simp, rfl, ?_⟩
   rw [begT_succ, hq, yJ]
   rfl
  ·have h2 : ((k : Int) == 0) = false := by simp [h0]
   simp -implicitDefEqProofs only [rX,↓rY,ofConst,cells?,splice,↓reduceIte,Nat.reduceEqDiff,Nat.reduceAdd,reduceCtorEq,buildP,isC,Nat.reduceLeDiff,yC,yB,yA,h1,h2]
   have hb : (newP id1 k 0).1 = begP n k := by unfold begP; rw [if_neg h0]
   refine call_is (ok10 id1 k 0 (by omega)) (by simp [lendsOk, lendOk, lends, lend, wkL, wk, wkR, id1]) rfl trivial ?_
   rw [hb]
   generalize hq : begP n k = q
   have htk : yE k ((begT n k).map Purse.enc) = (begT n k).map Purse.enc := yF (by simp [begT_len])
   simp -implicitDefEqProofs only [rX,↓rY,ofConst,cells?,splice,↓reduceIte,Nat.reduceEqDiff,Nat.reduceAdd,reduceCtorEq,freshP,litsP,leE,leH,leB,leV,leVs,keepP,liveP,wfE,wfB,wfV,wfL,killE,killB,kill,kills,St.kill,isD,isC,Nat.reduceLT,Nat.reduceLeDiff,zc22,yC,yB,yA,htk,↓op_litsf,↓frzP_n,↓frzP_c,↓frzQ_a]
   refine ⟨⟨by rw [begT_len]; exact yZ _, by omega⟩, by simp only [lo, hi]; omega, k + 1, ⟨by omega, by omega⟩, by simp, rfl, ?_⟩
   rw [begT_succ, hq, yJ]
   rfl
 ·have h1 : decide ((k : Int) < 4) = false := decide_eq_false (by omega)
  obtain rfl : k = 4 := by omega
  simp -implicitDefEqProofs only [rX,↓rY,ofConst,cells?,splice,↓reduceIte,Nat.reduceEqDiff,Nat.reduceAdd,reduceCtorEq,buildP,isC,Nat.reduceLeDiff,yC,yB,yA,h1]
  rw [retP_isA]
  simp -implicitDefEqProofs only [rX,↓rY,↓reduceIte,Nat.reduceEqDiff,Nat.reduceAdd,resP,tupV,leH,leB,keepP,liveP,wfB,wfV,wfL,Nat.reduceLeDiff,yB,yA]
  rfl
end Go.Fx.P
namespace Go.Fx.P
open Go Go.Fx Go.Proofs Go.Fx.R
set_option maxRecDepth 20000
theorem p_set {all : List Purse} {k : Nat} {q : Purse} : (all.map Purse.enc).set k q.enc = (all.set k q).map Purse.enc := by rw [List.map_set]
theorem do0 (all : List Purse) (way : List Ltr) (spent : List Int) (kind party to m : Int) (h1 : kind.tmod 5 = 0) (h2 : 0 ≤ party ∧ party ≤ 255) (h4 : all.length = 4) (hs : spent.length ≤ 1000)
  (k : Nat) (hk : k < all.length) (hkp : party.tmod 4 = k) (hr : Rt all[k]) : OkN Try.prog 6 [.ptr 0 0 0, .agg [u8 kind, u8 party, u8 to, u8 m]] (hW all way spent) [2, 3] (IsA (.tup []) (hW (all.set k (spendP all[k]).1) way (if (spendP all[k]).2.2 = 0 then spent ++ [(spendP all[k]).2.1] else spent))) := by
 refine okN_of pol [0, 1] lw6 (by simp) (by simp [keepP, liveP, hW]) (by simp [hW]; omega) ?_
 unfold c6 hW
 have e0 : ((0 : Int) == 0) = true := rfl
 simp -implicitDefEqProofs only [rX,↓rY,rdK,ofConst,cells?,splice,↓reduceIte,Nat.reduceEqDiff,arrSz,Nat.reduceAdd,reduceCtorEq,freshP,slcOk,litsP,killE,killB,kill,kills,St.kill,isC,Nat.reduceLeDiff,cxN,zc22,zc21,yC,yB,yA,args0,h1,hkp,e0]
 refine ⟨by simp only [lo, hi]; omega, by decide, by decide, by omega, hk, ?_⟩
 refine call_is (ok16 all[k] hr.l.v hr.s.v) (by simp [lendsOk, lendOk, lends, lend, wkL, wk, wkR]) rfl (by simp [keepP, liveP]) ?_
 generalize spendP all[k] = r
 obtain ⟨q, u, e⟩ := r
 simp -implicitDefEqProofs only [rX,↓rY,ofConst,cells?,splice,↓reduceIte,Nat.reduceEqDiff,arrSz,Nat.reduceAdd,reduceCtorEq,freshP,litsP,killE,killB,kill,kills,St.kill,isD,isC,Nat.reduceLT,zc22,yC,yB,yA]
 refine ⟨by omega, hk, ?_⟩
 have hset : (all.map Purse.enc).set k [u8 q.id.a0, u8 q.id.a1, u8 q.id.a2, u8 q.id.a3, u8 q.id.a4, u8 q.id.a5, u8 q.id.a6, u8 q.id.a7, u8 q.id.a8, u8 q.id.a9, u8 q.id.a10, u8 q.id.a11, u8 q.id.a12, u8 q.id.a13, u8 q.id.a14, u8 q.id.a15, .i q.me, spans q.left, spans q.spent, spans q.sent, spans q.heard, gifts q.out] = (all.set k q).map Purse.enc := p_set
 have htk : yE spent.length (spent.map encI) = spent.map encI := yF (by simp)
 refine ⟨fun he => ⟨by omega, ?_⟩, fun he => ?_⟩
 ·have he' : e = 0 := by simpa using he
  rw [if_pos he', hset, htk, retP_isA]
  simp -implicitDefEqProofs only [rX,Nat.reduceAdd,resP,tupV,leH,leB,leV,leVs,keepP,liveP,wfB,wfV,wfL,yA,yT]
  rw [yJ]
  rfl
 ·have he' : ¬ e = 0 := by simpa using he
  rw [if_neg he', hset, retP_isA]
  simp -implicitDefEqProofs only [rX,Nat.reduceAdd,resP,tupV,leH,leB,leV,leVs,keepP,liveP,wfB,wfV,wfL,yT]
end Go.Fx.P
namespace Go.Fx.P
open Go Go.Fx Go.Proofs Go.Fx.R
set_option maxRecDepth 20000
theorem do1 (all : List Purse) (way : List Ltr) (spent : List Int) (kind party to m : Int) (h1 : kind.tmod 5 = 1) (h2 : 0 ≤ party ∧ party ≤ 255) (h3 : 0 ≤ to ∧ to ≤ 255) (h5 : 0 ≤ m ∧ m ≤ 255)
  (k : Nat) (hk : k < all.length) (hkp : party.tmod 4 = k) (hr : Rt all[k]) : OkN Try.prog 6 [.ptr 0 0 0, .agg [u8 kind, u8 party, u8 to, u8 m]] (hW all way spent) [2, 3] (IsA (.tup []) (hW (all.set k (giveP all[k] (to.tmod 4) (m.tmod 8)).1) way spent)) := by
 refine okN_of pol [0, 1] lw6 (by simp) (by simp [keepP, liveP, hW]) (by simp [hW]; omega) ?_
 unfold c6 hW
 have e0 : ((1 : Int) == 0) = false := rfl
 have e1 : ((1 : Int) == 1) = true := rfl
 simp -implicitDefEqProofs only [rX,↓rY,rdK,ofConst,cells?,splice,↓reduceIte,Nat.reduceEqDiff,arrSz,Nat.reduceAdd,reduceCtorEq,freshP,slcOk,litsP,killE,killB,kill,kills,St.kill,isC,Nat.reduceLeDiff,cxN,zc22,zc21,yC,yB,yA,args0,h1,hkp,e0,e1]
 have hb : ∀ {x : Int}, 0 ≤ x ∧ x ≤ 255 → lo IntKind.i64 ≤ x ∧ x ≤ hi IntKind.i64 := fun h => by simp only [lo, hi]; omega
 refine ⟨hb h2, by decide, by decide, by omega, hk, hb h3, by decide, hb h5, by decide, ?_⟩
 refine call_is (ok11 all[k] (to.tmod 4) (m.tmod 8) hr.l.v hr.ms (hle hr)) (by simp [lendsOk, lendOk, lends, lend, wkL, wk, wkR]) rfl (by simp [keepP, liveP]) ?_
 generalize giveP all[k] (to.tmod 4) (m.tmod 8) = r
 obtain ⟨q, e⟩ := r
 have hset : ∀ q : Purse, (all.map Purse.enc).set k [u8 q.id.a0, u8 q.id.a1, u8 q.id.a2, u8 q.id.a3, u8 q.id.a4, u8 q.id.a5, u8 q.id.a6, u8 q.id.a7, u8 q.id.a8, u8 q.id.a9, u8 q.id.a10, u8 q.id.a11, u8 q.id.a12, u8 q.id.a13, u8 q.id.a14, u8 q.id.a15, .i q.me, spans q.left, spans q.spent, spans q.sent, spans q.heard, gifts q.out] = (all.set k q).map Purse.enc := fun q => p_set
 simp -implicitDefEqProofs only [rX,↓rY,cells?,splice,↓reduceIte,Nat.reduceEqDiff,arrSz,Nat.reduceAdd,isD,isC,yC,yA]
 refine ⟨by omega, hk, ?_⟩
 rw [p_set, retP_isA]
 simp -implicitDefEqProofs only [rX,Nat.reduceAdd,resP,tupV,leH,leB,leV,leVs,keepP,liveP,wfB,wfV,wfL,yT]
theorem do2 (all : List Purse) (way : List Ltr) (spent : List Int) (kind party to m : Int) (h1 : kind.tmod 5 = 2) (h2 : 0 ≤ party ∧ party ≤ 255) (hw : way.length ≤ 100000)
  (k : Nat) (hk : k < all.length) (hkp : party.tmod 4 = k) (hr : Rt all[k]) : OkN Try.prog 6 [.ptr 0 0 0, .agg [u8 kind, u8 party, u8 to, u8 m]] (hW all way spent) [2, 3] (IsA (.tup []) (hW all (if way.length < 200 then way ++ lettersP all[k] else way) spent)) := by
 refine okN_of pol [0, 1] lw6 (by simp) (by simp [keepP, liveP, hW]) (by simp [hW]; omega) ?_
 unfold c6 hW
 have e0 : ((2 : Int) == 0) = false := rfl
 have e1 : ((2 : Int) == 1) = false := rfl
 have e2 : ((2 : Int) == 2) = true := rfl
 simp -implicitDefEqProofs only [rX,↓rY,rdK,ofConst,cells?,splice,↓reduceIte,Nat.reduceEqDiff,arrSz,Nat.reduceAdd,reduceCtorEq,freshP,slcOk,litsP,killE,killB,kill,kills,St.kill,isC,Nat.reduceLeDiff,cxN,zc22,zc21,yC,yB,yA,args0,h1,hkp,e0,e1,e2]
 have hb : ∀ {x : Int}, 0 ≤ x ∧ x ≤ 255 → lo IntKind.i64 ≤ x ∧ x ≤ hi IntKind.i64 := fun h => by simp only [lo, hi]; omega
 refine ⟨hb h2, by decide, by decide, ?_⟩
 intro _
 have hlt : ∀ l : List Ltr, yE way.length (way.map Ltr.enc) = way.map Ltr.enc := fun _ => yF (by simp)
 have hlen : (lettersP all[k]).length ≤ 64 := by unfold lettersP; rw [uI]; exact hr.n
 by_cases hc : way.length < 200
 ·have hd : decide ((way.length : Int) < 200) = true := decide_eq_true (by omega)
  rw [hd, if_pos hc]
  refine ⟨fun _ => ⟨by omega, hk, ?_⟩, fun h => (by cases h)⟩
  refine call_is (ok7 all[k] (hle hr) fun g hg => vJ (hr.uv g hg).n (by omega)) (by simp [lendsOk, lendOk, lends, lend, wkL, wk, wkR]) rfl (by simp [keepP, liveP]) ?_
  generalize lettersP all[k] = A at hlen ⊢
  simp -implicitDefEqProofs only [rX,↓rY,cells?,splice,↓reduceIte,Nat.reduceEqDiff,Nat.reduceAdd,reduceCtorEq,killE,killB,kill,kills,St.kill,isC,Nat.reduceLeDiff,yC,yB,yA]
  refine ⟨.inr trivial, by omega, ?_⟩
  rw [hlt way, ← yJ, retP_isA]
  simp -implicitDefEqProofs only [rX,Nat.reduceAdd,resP,tupV,leH,leB,leV,leVs,keepP,liveP,wfB,wfV,wfL]
 ·have hd : decide ((way.length : Int) < 200) = false := decide_eq_false (by omega)
  rw [hd, if_neg hc]
  refine ⟨fun h => (by cases h), fun _ => ?_⟩
  rw [retP_isA]
  simp -implicitDefEqProofs only [rX,Nat.reduceAdd,resP,tupV,leH,leB,leV,leVs,keepP,liveP,wfB,wfV,wfL]
end Go.Fx.P
namespace Go.Fx.P
open Go Go.Fx Go.Proofs Go.Fx.R
set_option maxRecDepth 20000
theorem do34n (all : List Purse) (spent : List Int) (kind party to m : Int) (h1 : kind.tmod 5 = 3 ∨ kind.tmod 5 = 4) (h2 : 0 ≤ party ∧ party ≤ 255) : OkN Try.prog 6 [.ptr 0 0 0, .agg [u8 kind, u8 party, u8 to, u8 m]] (hW all [] spent) [2, 3] (IsA (.tup []) (hW all [] spent)) := by
 refine okN_of pol [0, 1] lw6 (by simp) (by simp [keepP, liveP, hW]) (by simp [hW]; omega) ?_
 unfold c6 hW
 have e0 : (kind.tmod 5 == 0) = false := by rw [beq_eq_false_iff_ne]; omega
 have e1 : (kind.tmod 5 == 1) = false := by rw [beq_eq_false_iff_ne]; omega
 have e2 : (kind.tmod 5 == 2) = false := by rw [beq_eq_false_iff_ne]; omega
 have e3 : (((0 : Nat) : Int) == 0) = true := rfl
 simp -implicitDefEqProofs only [rX,↓rY,rdK,ofConst,cells?,splice,↓reduceIte,Nat.reduceEqDiff,arrSz,Nat.reduceAdd,reduceCtorEq,freshP,slcOk,litsP,killE,killB,kill,kills,St.kill,isC,Nat.reduceLeDiff,cxN,zc22,zc21,yC,yB,yA,args0,e0,e1,e2,e3]
 have hb : ∀ {x : Int}, 0 ≤ x ∧ x ≤ 255 → lo IntKind.i64 ≤ x ∧ x ≤ hi IntKind.i64 := fun h => by simp only [lo, hi]; omega
 refine ⟨hb h2, by decide, by decide, fun _ => ?_⟩
 rw [retP_isA]
 simp -implicitDefEqProofs only [rX,Nat.reduceAdd,resP,tupV,leH,leB,leV,leVs,keepP,liveP,wfB,wfV,wfL]
end Go.Fx.P
namespace Go.Fx.P
open Go Go.Fx Go.Proofs Go.Fx.R
set_option maxRecDepth 20000
theorem do4 (all : List Purse) (way : List Ltr) (spent : List Int) (kind party to m : Int) (h1 : kind.tmod 5 = 4) (h2 : 0 ≤ party ∧ party ≤ 255) (h5 : 0 ≤ m ∧ m ≤ 255) (hw : way.length ≤ 100000) (hw0 : way.length ≠ 0)
  (i : Nat) (hi : i < way.length) (him : m.tmod way.length = i) (k : Nat) (hk : k < all.length) (hkp : way[i].to = k) (hr : Rt all[k]) : OkN Try.prog 6 [.ptr 0 0 0, .agg [u8 kind, u8 party, u8 to, u8 m]] (hW all way spent) [2, 3] (IsA (.tup []) (hW (all.set k (hearA all[k] way[i]).1) (way ++ ansL all[k] way[i] (hearA all[k] way[i]).2) spent)) := by
 refine okN_of pol [0, 1] lw6 (by simp) (by simp [keepP, liveP, hW]) (by simp [hW]; omega) ?_
 unfold c6 hW
 have e0 : (kind.tmod 5 == 0) = false := by rw [beq_eq_false_iff_ne]; omega
 have e1 : (kind.tmod 5 == 1) = false := by rw [beq_eq_false_iff_ne]; omega
 have e2 : (kind.tmod 5 == 2) = false := by rw [beq_eq_false_iff_ne]; omega
 have e3 : (kind.tmod 5 == 3) = false := by rw [beq_eq_false_iff_ne]; omega
 have e4 : ((way.length : Int) == 0) = false := by rw [beq_eq_false_iff_ne]; omega
 simp -implicitDefEqProofs only [rX,↓rY,rdK,ofConst,cells?,splice,↓reduceIte,Nat.reduceEqDiff,arrSz,Nat.reduceAdd,reduceCtorEq,freshP,slcOk,litsP,killE,killB,kill,kills,St.kill,isC,Nat.reduceLeDiff,cxN,zc22,zc21,yC,yB,yA,args0,e0,e1,e2,e3,e4,him,hkp,l_len,le_18,l_C,l_t,l_kill]
 have hb : ∀ {x : Int}, 0 ≤ x ∧ x ≤ 255 → lo IntKind.i64 ≤ x ∧ x ≤ Fx.hi IntKind.i64 := fun h => by simp only [lo, Fx.hi]; omega
 have h18 := ok8 all[k] way[i] hr.l.v hr.s.v hr.mh hr.ms (hle hr)
 have hA : (ansL all[k] way[i] (hearA all[k] way[i]).2).length ≤ 1 := by unfold ansL; split <;> simp
 refine ⟨hb h2, by decide, by decide, fun _ => ⟨hb h5, fun _ => ⟨by omega, by omega, hi, by decide, by omega, hk, ?_⟩⟩⟩
 generalize ansL all[k] way[i] (hearA all[k] way[i]).2 = A at h18 hA ⊢
 generalize (hearA all[k] way[i]).1 = q at h18 ⊢
 have hset : (all.map Purse.enc).set k [u8 q.id.a0, u8 q.id.a1, u8 q.id.a2, u8 q.id.a3, u8 q.id.a4, u8 q.id.a5, u8 q.id.a6, u8 q.id.a7, u8 q.id.a8, u8 q.id.a9, u8 q.id.a10, u8 q.id.a11, u8 q.id.a12, u8 q.id.a13, u8 q.id.a14, u8 q.id.a15, .i q.me, spans q.left, spans q.spent, spans q.sent, spans q.heard, gifts q.out] = (all.set k q).map Purse.enc := p_set
 have htk : yE way.length (way.map Ltr.enc) = way.map Ltr.enc := yF (by simp)
 constructor
 ·refine call_is h18 pl_lend rfl (by simp [keepP, liveP]) ?_
  simp -implicitDefEqProofs only [rX,↓rY,ofConst,cells?,splice,↓reduceIte,Nat.reduceEqDiff,arrSz,Nat.reduceAdd,reduceCtorEq,freshP,killE,killB,kill,kills,St.kill,isD,isC,Nat.reduceLeDiff,zc22,yC,yB,yA,hkp,le_18,l_kill]
  refine ⟨by omega, hk, .inr trivial, by omega, ?_⟩
  rw [hset, htk, ← yJ, retP_isA]
  simp -implicitDefEqProofs only [rX,Nat.reduceAdd,resP,tupV,leH,leB,leV,leVs,keepP,liveP,wfB,wfV,wfL,yT]
 ·refine call_is h18 pl_lend rfl (by simp [keepP, liveP]) ?_
  simp -implicitDefEqProofs only [rX,↓rY,cells?,splice,↓reduceIte,Nat.reduceEqDiff,arrSz,Nat.reduceAdd,reduceCtorEq,killE,killB,kill,kills,St.kill,isD,isC,Nat.reduceLeDiff,yC,yB,yA,hkp,le_18,l_kill]
  refine ⟨by omega, hk, .inr trivial, by omega, ?_⟩
  rw [hset, htk, ← yJ, retP_isA]
  simp -implicitDefEqProofs only [rX,Nat.reduceAdd,resP,tupV,leH,leB,leV,leVs,keepP,liveP,wfB,wfV,wfL,yT]
end Go.Fx.P
namespace Go.Fx.P
open Go Go.Fx Go.Proofs Go.Fx.R
set_option maxRecDepth 20000
def hV (all : List Purse) (way : List Ltr) (spent : List Int) : List Blk := [.var [.sl 1 0 all.length, .sl 6 0 way.length, .sl 3 0 spent.length], .arr 22 (all.map Purse.enc), .dead, .arr 1 (spent.map encI), .dead, .dead, .arr 21 (way.map Ltr.enc)]
theorem do3r (all : List Purse) (way : List Ltr) (spent : List Int) (kind party to m : Int) (h1 : kind.tmod 5 = 3) (h2 : 0 ≤ party ∧ party ≤ 255) (h5 : 0 ≤ m ∧ m ≤ 255) (hw : way.length ≤ 100000) (hw0 : way.length ≠ 0)
  (i : Nat) (hi : i < way.length) (him : m.tmod way.length = i) (k : Nat) (hk : k < all.length) (hkp : way[i].to = k) (hr : Rt all[k]) : OkN Try.prog 6 [.ptr 0 0 0, .agg [u8 kind, u8 party, u8 to, u8 m]] (hW all way spent) [2, 3] (IsA (.tup []) (hV (all.set k (hearA all[k] way[i]).1) ((way.take i ++ way.drop (i + 1)) ++ ansL all[k] way[i] (hearA all[k] way[i]).2) spent)) := by
 refine okN_of pol [0, 1] lw6 (by simp) (by simp [keepP, liveP, hW]) (by simp [hW]; omega) ?_
 unfold c6 hW
 have e0 : (kind.tmod 5 == 0) = false := by rw [beq_eq_false_iff_ne]; omega
 have e1 : (kind.tmod 5 == 1) = false := by rw [beq_eq_false_iff_ne]; omega
 have e2 : (kind.tmod 5 == 2) = false := by rw [beq_eq_false_iff_ne]; omega
 have e3 : (kind.tmod 5 == 3) = true := by rw [beq_iff_eq]; exact h1
 have e4 : ((way.length : Int) == 0) = false := by rw [beq_eq_false_iff_ne]; omega
 have hti : ((i : Int) + 1).toNat = i + 1 := by omega
 have htz : vP 0 = 0 := rfl
 simp -implicitDefEqProofs only [rX,↓rY,rdK,ofConst,cells?,splice,↓reduceIte,Nat.reduceEqDiff,arrSz,Nat.reduceAdd,reduceCtorEq,freshP,slcOk,litsP,killE,killB,kill,kills,St.kill,isC,Nat.reduceLeDiff,cxN,zc22,zc21,yC,yB,yA,args0,e0,e1,e2,e3,e4,him,hkp,hti,htz,Nat.sub_zero,l_len,le_18,l_C,l_t,l_kill]
 have hb : ∀ {x : Int}, 0 ≤ x ∧ x ≤ 255 → lo IntKind.i64 ≤ x ∧ x ≤ Fx.hi IntKind.i64 := fun h => by simp only [lo, Fx.hi]; omega
 have h18 := ok8 all[k] way[i] hr.l.v hr.s.v hr.mh hr.ms (hle hr)
 have hA : (ansL all[k] way[i] (hearA all[k] way[i]).2).length ≤ 1 := by unfold ansL; split <;> simp
 refine ⟨hb h2, by decide, by decide, fun _ => ⟨hb h5, fun _ => ⟨by omega, by omega, hi, by decide, by omega, by simp only [lo, Fx.hi]; omega, by omega, by omega, .inr trivial, by simp; omega, by omega, .inr trivial, by simp; omega, by omega, hk, ?_⟩⟩⟩
 generalize ansL all[k] way[i] (hearA all[k] way[i]).2 = A at h18 hA ⊢
 generalize (hearA all[k] way[i]).1 = q at h18 ⊢
 have hset : (all.map Purse.enc).set k [u8 q.id.a0, u8 q.id.a1, u8 q.id.a2, u8 q.id.a3, u8 q.id.a4, u8 q.id.a5, u8 q.id.a6, u8 q.id.a7, u8 q.id.a8, u8 q.id.a9, u8 q.id.a10, u8 q.id.a11, u8 q.id.a12, u8 q.id.a13, u8 q.id.a14, u8 q.id.a15, .i q.me, spans q.left, spans q.spent, spans q.sent, spans q.heard, gifts q.out] = (all.set k q).map Purse.enc := p_set
 have z1 : yE i (yO Ltr.enc way) = (way.take i).map Ltr.enc := List.map_take.symm
 have z2 : yE (way.length - (i + 1)) (List.drop (i + 1) (yO Ltr.enc way)) = (way.drop (i + 1)).map Ltr.enc := by rw [yF (by simp), List.map_drop]
 have z3 : (way.take i).length + (way.drop (i + 1)).length + 1 ≤ 100001 := by rw [vF, uG]; omega
 rw [z1, z2]
 generalize way.take i = B1 at z3 ⊢
 generalize way.drop (i + 1) = B2 at z3 ⊢
 have z4 : ∀ l : List Ltr, yE l.length (l.map Ltr.enc) = l.map Ltr.enc := fun l => yF (by simp)
 have z5 : ∀ l l' : List Ltr, yE (l.length + l'.length) (l.map Ltr.enc ++ l'.map Ltr.enc) = l.map Ltr.enc ++ l'.map Ltr.enc := fun l l' => yF (by simp)
 constructor
 ·refine call_is h18 pl_lend rfl (by simp [keepP, liveP]) ?_
  simp -implicitDefEqProofs only [rX,↓rY,ofConst,cells?,splice,↓reduceIte,Nat.reduceEqDiff,arrSz,Nat.reduceAdd,reduceCtorEq,freshP,killE,killB,kill,kills,St.kill,isD,isC,Nat.reduceLeDiff,zc22,yC,yB,yA,hkp,le_18,l_kill,z4,z5]
  refine ⟨by omega, hk, .inr trivial, by omega, ?_⟩
  rw [hset, retP_isA]
  simp -implicitDefEqProofs only [rX,Nat.reduceAdd,resP,tupV,leH,leB,leV,leVs,keepP,liveP,wfB,wfV,wfL,Nat.reduceLeDiff,hV,yT,yJ]
 ·refine call_is h18 pl_lend rfl (by simp [keepP, liveP]) ?_
  simp -implicitDefEqProofs only [rX,↓rY,cells?,splice,↓reduceIte,Nat.reduceEqDiff,arrSz,Nat.reduceAdd,reduceCtorEq,killE,killB,kill,kills,St.kill,isD,isC,Nat.reduceLeDiff,yC,yB,yA,hkp,le_18,l_kill,z4,z5]
  refine ⟨by omega, hk, .inr trivial, by omega, ?_⟩
  rw [hset, retP_isA]
  simp -implicitDefEqProofs only [rX,Nat.reduceAdd,resP,tupV,leH,leB,leV,leVs,keepP,liveP,wfB,wfV,wfL,Nat.reduceLeDiff,hV,yT,yJ]
theorem do3 (all : List Purse) (way : List Ltr) (spent : List Int) (kind party to m : Int) (h1 : kind.tmod 5 = 3) (h2 : 0 ≤ party ∧ party ≤ 255) (h5 : 0 ≤ m ∧ m ≤ 255) (hw : way.length ≤ 100000) (hw0 : way.length ≠ 0)
  (i : Nat) (hi : i < way.length) (him : m.tmod way.length = i) (k : Nat) (hk : k < all.length) (hkp : way[i].to = k) (hr : Rt all[k]) : OkN Try.prog 6 [.ptr 0 0 0, .agg [u8 kind, u8 party, u8 to, u8 m]] (hW all way spent) [2, 3] (IsA (.tup []) (hW (all.set k (hearA all[k] way[i]).1) ((way.take i ++ way.drop (i + 1)) ++ ansL all[k] way[i] (hearA all[k] way[i]).2) spent)) := by
 have h := do3r all way spent kind party to m h1 h2 h5 hw hw0 i hi him k hk hkp hr
 generalize ((way.take i ++ way.drop (i + 1)) ++ ansL all[k] way[i] (hearA all[k] way[i]).2) = W at h ⊢
 generalize all.set k (hearA all[k] way[i]).1 = A at h ⊢
 refine ⟨h.1, Fn_ghostN [0, 1] (by simp [hW]; omega) (by simp [hW]) h.2 ?_⟩
 rintro r hs ⟨rfl, rfl⟩
 refine ⟨by simp [keepP, liveP, hV], _, _, ⟨rfl, rfl⟩, by simp [hW], ?_⟩
 refine ⟨_, .mv 2 6 (.arr 21 (W.map Ltr.enc)) (by decide) rfl rfl (by simp) (.refl _), ?_⟩
 simp [hV, hW, mvE, mvV, mvL, mvB, leS, leE, leH, leB, leVs, leV, keepP, liveP, wfE, wfB, wfV, wfL, get]
end Go.Fx.P
namespace Go.Fx.P
open Go Go.Fx Go.Proofs Go.Fx.R
set_option maxRecDepth 20000
structure Act where
 kind : Int
 party : Int
 to : Int
 n : Int
abbrev Act.enc (a : Act) : List V := [u8 a.kind, u8 a.party, u8 a.to, u8 a.n]
structure Act.Ok (a : Act) : Prop where
 k : 0 ≤ a.kind ∧ a.kind ≤ 255
 p : 0 ≤ a.party ∧ a.party ≤ 255
 t : 0 ≤ a.to ∧ a.to ≤ 255
 n : 0 ≤ a.n ∧ a.n ≤ 255
structure Wld where
 all : List Purse
 way : List Ltr
 spent : List Int
def Wld.I (n : Nat) (w : Wld) : Prop := Inv n w.all w.way w.spent
abbrev Wld.h (w : Wld) : List Blk := hW w.all w.way w.spent
def pOf (w : Wld) (k : Nat) : Purse := w.all.getD k default
def lOf (w : Wld) (i : Nat) : Ltr := w.way.getD i default
def doW (w : Wld) (a : Act) : Wld :=
 if a.kind.tmod 5 = 0 then ⟨w.all.set (a.party.tmod 4).toNat (spendP (pOf w (a.party.tmod 4).toNat)).1, w.way, if (spendP (pOf w (a.party.tmod 4).toNat)).2.2 = 0 then w.spent ++ [(spendP (pOf w (a.party.tmod 4).toNat)).2.1] else w.spent⟩
 else if a.kind.tmod 5 = 1 then ⟨w.all.set (a.party.tmod 4).toNat (giveP (pOf w (a.party.tmod 4).toNat) (a.to.tmod 4) (a.n.tmod 8)).1, w.way, w.spent⟩
 else if a.kind.tmod 5 = 2 then ⟨w.all, if w.way.length < 200 then w.way ++ lettersP (pOf w (a.party.tmod 4).toNat) else w.way, w.spent⟩
 else if w.way.length = 0 then w
 else
  let i := (a.n.tmod w.way.length).toNat
  let L := lOf w i
  let q := pOf w L.to.toNat
  ⟨w.all.set L.to.toNat (hearA q L).1, (if a.kind.tmod 5 = 3 then w.way.take i ++ w.way.drop (i + 1) else w.way) ++ ansL q L (hearA q L).2, w.spent⟩
theorem tm {a m : Int} (h : 0 ≤ a) (hm : 0 < m) : 0 ≤ a.tmod m ∧ a.tmod m < m := ⟨Int.tmod_nonneg _ h, Int.tmod_lt_of_pos _ hm⟩
theorem pOf_eq {w : Wld} {k : Nat} (h : k < w.all.length) : pOf w k = w.all[k] := by unfold pOf; rw [uN, yW h]; rfl
theorem lOf_eq {w : Wld} {k : Nat} (h : k < w.way.length) : lOf w k = w.way[k] := by unfold lOf; rw [uN, yW h]; rfl
theorem ok6 {n : Nat} (w : Wld) (a : Act) (ha : a.Ok) (hI : w.I n) (hw : w.way.length ≤ 100000) (hs : w.spent.length ≤ 1000) : OkN Try.prog 6 [.ptr 0 0 0, .agg a.enc] w.h [2, 3] (IsA (.tup []) (doW w a).h) := by
 have hl := hI.len
 have hp := tm (m := 4) ha.p.1 (by omega)
 have hk := tm (m := 5) ha.k.1 (by omega)
 generalize hpk : (a.party.tmod 4).toNat = k
 have hkl : k < w.all.length := by omega
 have hkp : a.party.tmod 4 = k := by omega
 have hr := (hI.rt k hkl).1
 have e := pOf_eq hkl
 unfold doW
 rw [hpk, e]
 by_cases c0 : a.kind.tmod 5 = 0
 ·rw [if_pos c0]
  exact do0 w.all w.way w.spent a.kind a.party a.to a.n c0 ha.p hl hs k hkl hkp hr
 rw [if_neg c0]
 by_cases c1 : a.kind.tmod 5 = 1
 ·rw [if_pos c1]
  exact do1 w.all w.way w.spent a.kind a.party a.to a.n c1 ha.p ha.t ha.n k hkl hkp hr
 rw [if_neg c1]
 by_cases c2 : a.kind.tmod 5 = 2
 ·rw [if_pos c2]
  exact do2 w.all w.way w.spent a.kind a.party a.to a.n c2 ha.p hw k hkl hkp hr
 rw [if_neg c2]
 by_cases c3 : w.way.length = 0
 ·rw [if_pos c3]
  have hnil : w.way = [] := vX.1 c3
  have := do34n w.all w.spent a.kind a.party a.to a.n (by omega) ha.p
  unfold Wld.h
  rw [hnil]
  exact this
 rw [if_neg c3]
 have hi := tm (m := w.way.length) ha.n.1 (by omega)
 generalize hii : (a.n.tmod w.way.length).toNat = i
 have hil : i < w.way.length := by omega
 have him : a.n.tmod w.way.length = i := by omega
 simp only [lOf_eq hil]
 obtain ⟨_, _, j, _, hj, _, _, hto, hz⟩ := hI.lt _ (yG hil)
 clear hz
 have hjn : w.way[i].to.toNat = j := by rw [hto]; exact vT j
 rw [hjn, pOf_eq hj]
 have hrj := (hI.rt j hj).1
 by_cases c4 : a.kind.tmod 5 = 3
 ·rw [if_pos c4]
  exact do3 w.all w.way w.spent a.kind a.party a.to a.n c4 ha.p ha.n hw c3 i hil him j hj hto hrj
 ·rw [if_neg c4]
  have c5 : a.kind.tmod 5 = 4 := by omega
  exact do4 w.all w.way w.spent a.kind a.party a.to a.n c5 ha.p ha.n hw c3 i hil him j hj hto hrj
theorem inv_do {n : Nat} {w : Wld} {a : Act} (ha : a.Ok) (hI : w.I n) : (doW w a).I n := by
 have hl := hI.len
 have hp := tm (m := 4) ha.p.1 (by omega)
 have hk := tm (m := 5) ha.k.1 (by omega)
 generalize hpk : (a.party.tmod 4).toNat = k
 have hkl : k < w.all.length := by omega
 have e := pOf_eq hkl
 unfold doW
 rw [hpk, e]
 split
 ·exact inv_spend hI hkl
 split
 ·exact hI.step (stp_give hI hkl (tm ha.t.1 (by omega)))
 split
 ·unfold Wld.I
  simp only
  split
  ·exact inv_send hI hkl
  ·exact hI
 split
 ·exact hI
 rename_i c3
 have hi := tm (m := w.way.length) ha.n.1 (by omega)
 generalize hii : (a.n.tmod w.way.length).toNat = i
 have hil : i < w.way.length := by omega
 simp only [lOf_eq hil]
 obtain ⟨_, _, j, _, hj, _, _, hto, hz⟩ := hI.lt _ (yG hil)
 clear hz
 have hjn : w.way[i].to.toNat = j := by rw [hto]; exact vT j
 rw [hjn, pOf_eq hj]
 have h1 := inv_hear hI (yG hil) hj hto
 refine h1.way fun L hL => ?_
 rcases yS.1 hL with hL | hL
 ·refine uD _ ?_
  split at hL
  ·rcases yS.1 hL with hL | hL
   ·exact uJ hL
   ·exact List.mem_of_mem_drop hL
  ·exact hL
 ·exact vM _ hL
theorem do_len {n : Nat} {w : Wld} {a : Act} {m : Nat} (ha : a.Ok) (hI : w.I n) (h1 : w.way.length ≤ 264 + m) (h2 : w.spent.length ≤ m) : (doW w a).way.length ≤ 264 + (m + 1) ∧ (doW w a).spent.length ≤ m + 1 := by
 have hl := hI.len
 have hp := tm (m := 4) ha.p.1 (by omega)
 generalize hpk : (a.party.tmod 4).toNat = k
 have hkl : k < w.all.length := by omega
 have e := pOf_eq hkl
 have hr := (hI.rt k hkl).1
 unfold doW
 rw [hpk, e]
 split
 ·simp only
  refine ⟨by omega, ?_⟩
  split
  ·rw [vA]; simp; omega
  ·omega
 split
 ·simp only; omega
 split
 ·simp only
  refine ⟨?_, by omega⟩
  split
  ·have : (lettersP w.all[k]).length ≤ 64 := by unfold lettersP; rw [uI]; exact hr.n
   rw [vA]; omega
  ·omega
 split
 ·omega
 simp only
 refine ⟨?_, by omega⟩
 generalize lOf w _ = L
 generalize pOf w _ = q
 have hA : (ansL q L (hearA q L).2).length ≤ 1 := by unfold ansL; split <;> simp
 rw [vA]
 split
 ·rw [vA, vF, uG]; omega
 ·omega
end Go.Fx.P
namespace Go.Fx.P
open Go Go.Fx Go.Proofs Go.Fx.R
set_option maxRecDepth 20000
def Wnt (all : List Purse) : Prop := ∀ i j (hi : i < all.length) (hj : j < all.length), i ≠ j → ∀ s, markOf all[j].heard i < s → s ≤ markOf all[i].sent j → ∃ g ∈ all[i].out, g.to = j ∧ g.serial = s
theorem Wnt.step {all : List Purse} (h : Wnt all) {k : Nat} {hk : k < all.length} {p' : Purse} (s : Stp all k hk p')
  (hn : ∀ j, j ≠ k → ∀ t, markOf all[k].sent j < t → t ≤ markOf p'.sent j → ∃ g ∈ p'.out, g.to = j ∧ g.serial = t) : Wnt (all.set k p') := by
 intro i j hi hj hne t
 have hi' : i < all.length := by simpa using hi
 have hj' : j < all.length := by simpa using hj
 by_cases ei : k = i
 ·subst ei
  rw [vK, vL hne]
  intro h1 h2
  by_cases c : t ≤ markOf all[k].sent j
  ·obtain ⟨g, g1, g2, g3⟩ := h k j hk hj' hne t h1 c
   exact ⟨g, s.o j hj' (fun e => hne e.symm) g g1 g2 (by omega), g2, g3⟩
  ·exact hn j (fun e => hne e.symm) t (by omega) h2
 ·rw [vL ei]
  by_cases ej : k = j
  ·subst ej
   rw [vK]
   intro h1 h2
   have := s.h i
   exact h i k hi' hk hne t (by omega) h2
  ·rw [vL ej]
   exact h i j hi' hj' hne t
theorem Wnt.same {all : List Purse} (h : Wnt all) {k : Nat} {hk : k < all.length} {p' : Purse} (s : Stp all k hk p') (e : p'.sent = all[k].sent) : Wnt (all.set k p') :=
 h.step s fun j _ t h1 h2 => by rw [e] at h2; omega
theorem sent_spend {p : Purse} : (spendP p).1.sent = p.sent := by
 unfold spendP
 split
 ·rfl
 ·split <;> rfl
theorem sent_hear {p : Purse} {L : Ltr} : (hearA p L).1.sent = p.sent := by
 unfold hearA
 split
 ·rfl
 ·split
  ·unfold giftP
   split
   ·rfl
   ·split <;> rfl
  ·unfold ackP
   split <;> rfl
theorem stp_hear {n : Nat} {all : List Purse} {way : List Ltr} {spent : List Int} (h : Inv n all way spent) {L : Ltr} (hL : L ∈ way) {k : Nat} (hk : k < all.length) (hto : L.to = k) : Stp all k hk (hearA all[k] L).1 := by
 obtain ⟨h0, i, j, hi, hj, hne, h1, h2, h3⟩ := h.lt L hL
 obtain rfl : j = k := by omega
 obtain ⟨hr, hid, hme⟩ := h.rt j hj
 unfold hearA
 split
 ·exact stp_same h hj
 ·rename_i c
  have c' : outL all[j] L = false ∧ rightL L = true := by
   cases e1 : outL all[j] L <;> cases e2 : rightL L <;> simp_all
  split
  ·rename_i k1
   rcases h3 with ⟨_, a, b⟩ | ⟨k2, _⟩
   ·have hus : usB L.uses = true := by
     have := c'.2
     unfold rightL at this
     rw [if_pos k1] at this
     simp at this
     exact this.2
    exact (stp_gift h hi hj hne h1 a b (usB_iff.1 hus) c'.1).1
   ·omega
  ·rename_i k1
   rcases h3 with ⟨k2, _, _⟩ | ⟨k2, a⟩
   ·omega
   ·exact stp_ack h hi hj h1 a
theorem wnt_give {n : Nat} {all : List Purse} {way : List Ltr} {spent : List Int} (h : Inv n all way spent) (hw : Wnt all) {k : Nat} (hk : k < all.length) {to m : Int} (ht : 0 ≤ to ∧ to < 4) : Wnt (all.set k (giveP all[k] to m).1) := by
 refine hw.step (stp_give h hk ht) ?_
 obtain ⟨hr, hid, hme⟩ := h.rt k hk
 intro j hj t h1
 unfold giveP
 split
 ·intro h2; simp only at h2; omega
 split
 ·intro h2; simp only at h2; omega
 split
 ·intro h2; simp only at h2; omega
 simp only
 rw [markOf_set hr.ms.mks]
 intro h2
 split at h2
 ·rename_i e
  refine ⟨_, vM _ (yX.2 rfl), e.symm, ?_⟩
  simp only
  rw [← e] at h2 ⊢
  omega
 ·omega
theorem wnt_do {n : Nat} {w : Wld} {a : Act} (ha : a.Ok) (hI : w.I n) (hw : Wnt w.all) : Wnt (doW w a).all := by
 have hl := hI.len
 have hp := tm (m := 4) ha.p.1 (by omega)
 generalize hpk : (a.party.tmod 4).toNat = k
 have hkl : k < w.all.length := by omega
 have e := pOf_eq hkl
 unfold doW
 rw [hpk, e]
 split
 ·exact hw.same (stp_spend hI hkl) sent_spend
 split
 ·exact wnt_give hI hw hkl (tm ha.t.1 (by omega))
 split
 ·exact hw
 split
 ·exact hw
 rename_i c3
 have hi := tm (m := w.way.length) ha.n.1 (by omega)
 generalize hii : (a.n.tmod w.way.length).toNat = i
 have hil : i < w.way.length := by omega
 simp only [lOf_eq hil]
 obtain ⟨_, _, j, _, hj, _, _, hto, hz⟩ := hI.lt _ (yG hil)
 clear hz
 have hjn : w.way[i].to.toNat = j := by rw [hto]; exact vT j
 rw [hjn, pOf_eq hj]
 exact hw.same (stp_hear hI (yG hil) hj hto) sent_hear
theorem wnt_begin {n : Nat} (hn : n ≤ 255) : Wnt (begL n) := by
 intro i j hi hj _ t h1 h2
 have hl : (begL n).length = 4 := rfl
 rw [beg_get hi, begP_eq hn (by omega)] at h2
 rw [beg_get hj, begP_eq hn (by omega)] at h1
 exfalso
 have : markOf [] (i : Int) = 0 := rfl
 have : markOf [] (j : Int) = 0 := rfl
 simp only at h1 h2
 omega
end Go.Fx.P
namespace Go.Fx.P
open Go Go.Fx Go.Proofs Go.Fx.R
set_option maxRecDepth 20000
theorem le_sum (f : Purse → Nat) : ∀ (l : List Purse) (i : Nat) (hi : i < l.length), f l[i] ≤ (l.map f).sum
 | [], _, h => by simp at h
 | p :: l, 0, _ => by simp
 | p :: l, i + 1, h => by
  have := le_sum f l i (by simpa using h)
  simp only [yI, yK, yV]; omega
theorem two_sum (f : Purse → Nat) : ∀ (l : List Purse) (i j : Nat) (hi : i < l.length) (hj : j < l.length), i ≠ j → f l[i] + f l[j] ≤ (l.map f).sum
 | [], _, _, h, _, _ => by simp at h
 | p :: l, 0, 0, _, _, h => absurd rfl h
 | p :: l, 0, j + 1, _, hj, _ => by
  have := le_sum f l j (by simpa using hj)
  simp only [yI, yK, yV, vI]; omega
 | p :: l, i + 1, 0, hi, _, _ => by
  have := le_sum f l i (by simpa using hi)
  simp only [yI, yK, yV, vI]; omega
 | p :: l, i + 1, j + 1, hi, hj, h => by
  have := two_sum f l i j (by simpa using hi) (by simpa using hj) (by omega)
  simp only [yI, yK, yV]; omega
theorem abv_mem {j s x : Int} : ∀ {l : List Gift} {g : Gift}, g ∈ l → g.to = j → s < g.serial → ind g.uses x ≤ abv l j s x
 | a :: l, g, hg, h1, h2 => by
  rw [abv_cons]
  rcases yH.1 hg with rfl | hg
  ·rw [if_pos ⟨h1, h2⟩]; omega
  ·have := abv_mem (x := x) hg h1 h2; omega
theorem sep_len : ∀ {l : List Sp}, Sep l → (l.length : Int) ≤ tot l
 | [], _ => by rw [tot_nil]; simp
 | s :: l, h => by
  obtain ⟨h1, h2, h3⟩ := sep_cons.1 h
  have := sep_len h3
  rw [tot_cons, vH]
  omega
theorem sep_few {l : List Sp} {n : Nat} (h : Sep l) (hx : ∀ x, inS l x → 1 ≤ x ∧ x ≤ n) : l.length ≤ n := by
 have h1 := sep_len h
 have h2 := tot_le (l := l) (a := 1) (b := (n : Int) + 1) h (fun s hs => ?_) (by omega)
 ·omega
 ·have a := hx _ (inS_lo h hs)
  have b := hx _ (inS_hi h hs)
  omega
theorem gift_heard {n : Nat} (hn : n ≤ 255) {all : List Purse} {W : List Ltr} {spent : List Int} (h : Inv n all W spent) (hw : Wnt all) {L : Ltr} (hL : LOk all L) {i j : Nat} (hi : i < all.length) (hj : j < all.length) (e1 : L.frm = i) (e2 : L.to = j) (hk : L.kind = 1)
  (hu : Us L.uses) (hu0 : L.uses.length ≠ 0) (hs : 1 ≤ L.serial) (hm : ∀ g ∈ all[i].out, g.to = j → L.serial ≤ g.serial) :
  L.serial ≤ (hearA all[j] L).2 ∧ (hearA all[j] L).2 ≤ markOf all[i].sent j := by
 obtain ⟨h0, i', j', hi', hj', hne, h1, h2, h3⟩ := hL
 obtain rfl : i' = i := by omega
 obtain rfl : j' = j := by omega
 obtain ⟨hr, hid, hme⟩ := h.rt j' hj
 obtain ⟨hri, hidi, hmei⟩ := h.rt i' hi
 have hlen := h.len
 obtain ⟨a, b⟩ : L.serial ≤ markOf all[i'].sent j' ∧ (∀ _ : Unit, markOf all[j'].heard i' < L.serial → ∃ g ∈ all[i'].out, g.to = j' ∧ g.serial = L.serial ∧ g.uses = L.uses) := by
  rcases h3 with ⟨_, a, b⟩ | ⟨k2, _⟩
  ·exact ⟨a, fun _ => b⟩
  ·rw [hk] at k2; cases k2
 have hmb := mark_b (who := (j' : Int)) hri.ms
 have ho : outL all[j'] L = false := by
  unfold outL partyB countsB
  rw [h0, hid, e2, hme, e1]
  simp
  omega
 have hrl : rightL L = true := by
  unfold rightL
  rw [if_pos hk, usB_iff.2 hu]
  simp; omega
 have hhs := h.hs i' j' hi hj
 unfold hearA
 rw [ho, hrl]
 simp only [Bool.not_true, Bool.or_self, vS, if_false, if_pos hk]
 unfold giftP
 rw [e1]
 by_cases c : L.serial ≤ markOf all[j'].heard i'
 ·rw [if_pos c]
  exact ⟨c, hhs⟩
 ·rw [if_neg c]
  obtain ⟨g, g1, g2, g3⟩ := hw i' j' hi hj hne (markOf all[j'].heard i' + 1) (by omega) (by omega)
  have hge := hm g g1 g2
  have hser : L.serial = markOf all[j'].heard i' + 1 := by omega
  obtain ⟨g0, p1, p2, p3, p4⟩ := b () (by omega)
  have hfl : ∀ x, ind L.uses x ≤ fl all[i'] all[j'] x := fun x => by
   rw [fl_abv (by omega), ← p4, hme, hmei]
   exact abv_mem p1 p2 (by omega)
  have hpl : ∀ x, ind L.uses x ≤ plc all all[i'] x := fun x => by
   have := hfl x
   have := le_sum (fun q => fl all[i'] q x) all j' hj
   unfold plc
   omega
  have htt : ∀ x, ind L.uses x + (ind all[j'].left x + ind all[j'].spent x) ≤ tt all x := fun x => by
   have := hpl x
   have := two_sum (fun p => plc all p x) all i' j' hi hj hne
   unfold tt
   have : ind all[j'].left x + ind all[j'].spent x ≤ plc all all[j'] x := by unfold plc; omega
   omega
  have hin : ∀ x, inS L.uses x → ¬ inS all[j'].left x ∧ ¬ inS all[j'].spent x := fun x hx => by
   have := htt x
   have := ind_pos.1 hx
   have h4 := h.tt x
   rw [ind_zero, ind_zero]
   split at h4 <;> omega
  have hg : gOk all[j'] L = true := by
   unfold gOk
   simp only [uK, decide_eq_true_eq, beq_iff_eq]
   refine ⟨⟨⟨by rw [e1]; exact hser, (meet0 hu.v.1).2 fun x hx => (hin x hx).1⟩, (meet0 hu.v.1).2 fun x hx => (hin x hx).2⟩, ?_⟩
   have : (bothS all[j'].left L.uses).length ≤ n := sep_few (sep_bothS hr.l.v.1) fun x hx => by
    have h5 := htt x
    have h4 := h.tt x
    rcases (in_bothS hr.l.v.1).1 hx with hx | hx <;> have h6 := ind_pos.1 hx <;> split at h4 <;> omega
   omega
  rw [if_pos hg]
  exact ⟨yD _, a⟩
end Go.Fx.P
namespace Go.Fx.P
open Go Go.Fx Go.Proofs Go.Fx.R
set_option maxRecDepth 20000
def pk (all : List Purse) (k : Nat) : Purse := all.getD k default
theorem pk_eq {all : List Purse} {k : Nat} (h : k < all.length) : pk all k = all[k] := by unfold pk; rw [uN, yW h]; rfl
def ackW (k : Nat) (all : List Purse) (a : Ltr) : List Purse := all.set k (hearA (pk all k) a).1
def ltrW (k : Nat) (all : List Purse) (L : Ltr) : List Purse :=
 (ansL (pk all L.to.toNat) L (hearA (pk all L.to.toNat) L).2).foldl (ackW k) (all.set L.to.toNat (hearA (pk all L.to.toNat) L).1)
def parW (all : List Purse) (k : Nat) : List Purse := (lettersP (pk all k)).foldl (ltrW k) all
def rdW (all : List Purse) : List Purse := (vD 4).foldl parW all
def rdsW (all : List Purse) : Nat → List Purse
 | 0 => all
 | m + 1 => rdW (rdsW all m)
theorem out_hear {p : Purse} {L : Ltr} {g : Gift} (h : g ∈ (hearA p L).1.out) : g ∈ p.out := by
 unfold hearA at h
 split at h
 ·exact h
 ·split at h
  ·unfold giftP at h
   split at h
   ·exact h
   ·split at h <;> exact h
  ·unfold ackP at h
   split at h
   ·exact (yL.1 h).1
   ·exact h
def Les (a b : List Purse) : Prop := a.length = b.length ∧ ∀ i (h : i < a.length) (h' : i < b.length), ∀ g ∈ a[i].out, g ∈ b[i].out
theorem Les.refl (a : List Purse) : Les a a := ⟨rfl, fun _ _ _ _ h => h⟩
theorem Les.trans {a b c : List Purse} (h1 : Les a b) (h2 : Les b c) : Les a c := ⟨h1.1.trans h2.1, fun i h h' g hg => h2.2 i (by have := h1.1; omega) h' g (h1.2 i h (by have := h1.1; omega) g hg)⟩
theorem les_hear {all : List Purse} {k : Nat} (hk : k < all.length) {L : Ltr} : Les (all.set k (hearA (pk all k) L).1) all := by
 refine ⟨by simp, fun i h h' g hg => ?_⟩
 by_cases e : k = i
 ·subst e
  rw [vK] at hg
  rw [pk_eq hk] at hg
  exact out_hear hg
 ·rwa [vL e] at hg
structure Rd (n : Nat) (spent : List Int) (W : List Ltr) (all : List Purse) : Prop where
 i : Inv n all W spent
 w : Wnt all
theorem Rd.hear {n : Nat} {spent : List Int} {W : List Ltr} {all : List Purse} (h : Rd n spent W all) {L : Ltr} (hL : LOk all L) {k : Nat} (hk : k < all.length) (hto : L.to = k) :
  Rd n spent (ansL (pk all k) L (hearA (pk all k) L).2 ++ W) (all.set k (hearA (pk all k) L).1) := by
 have hI : Inv n all (L :: W) spent := ⟨h.i.len, h.i.rt, h.i.gt, h.i.hs, h.i.tt, h.i.sp, h.i.nd, fun M hM => by
  rcases yH.1 hM with rfl | hM
  ·exact hL
  ·exact h.i.lt M hM⟩
 rw [pk_eq hk]
 refine ⟨(inv_hear hI vU hk hto).way fun M hM => ?_, h.w.same (stp_hear hI vU hk hto) sent_hear⟩
 rcases yS.1 hM with hM | hM
 ·exact vM _ hM
 ·exact uD _ (uE _ hM)
theorem Rd.way {n : Nat} {spent : List Int} {W W' : List Ltr} {all : List Purse} (h : Rd n spent W all) (hw : ∀ L ∈ W', L ∈ W) : Rd n spent W' all := ⟨h.i.way hw, h.w⟩
theorem ltr_ok {n : Nat} (hn : n ≤ 255) {spent : List Int} {W : List Ltr} {all : List Purse} (h : Rd n spent W all) {L : Ltr} (hL : LOk all L) {i : Nat} (hi : i < all.length) (e1 : L.frm = i) (hk : L.kind = 1)
  (hu : Us L.uses) (hu0 : L.uses.length ≠ 0) (hs : 1 ≤ L.serial) (hm : ∀ g ∈ all[i].out, g.to = L.to → L.serial ≤ g.serial) :
  Rd n spent W (ltrW i all L) ∧ Les (ltrW i all L) all ∧ ∀ g ∈ (pk (ltrW i all L) i).out, g.to = L.to → L.serial < g.serial := by
 obtain ⟨hid0, i', j, hi', hj, hne, h1, h2, hz⟩ := id hL
 clear hz
 obtain rfl : i' = i := by omega
 have hjn : L.to.toNat = j := by rw [h2]; exact vT j
 obtain ⟨g1, g2⟩ := gift_heard hn h.i h.w hL hi hj e1 h2 hk hu hu0 hs (by rw [h2] at hm; exact hm)
 have hR := h.hear hL hj h2
 have hles := les_hear hj (L := L)
 unfold ltrW
 rw [hjn]
 rw [pk_eq hj] at hR hles ⊢
 obtain ⟨hr, hid, hme⟩ := h.i.rt j hj
 obtain ⟨hri, hidi, hmei⟩ := h.i.rt i' hi
 have hlen := h.i.len
 have hmb := mark_b (who := (j : Int)) hri.ms
 generalize hearA all[j] L = r at g1 g2 hR hles ⊢
 have hne0 : r.2 ≠ 0 := by omega
 have ea : ansL all[j] L r.2 = [ackL all[j] L.frm r.2] := by unfold ansL; rw [if_neg hne0]
 rw [ea] at hR ⊢
 have hi1 : i' < (all.set j r.1).length := by simpa using hi
 have hat : (all.set j r.1)[i'] = all[i'] := vL (fun e => hne e.symm) _
 have hR2 := hR.hear (hR.i.lt _ vU) hi1 (by show L.frm = _; exact e1)
 have hles2 := les_hear hi1 (L := ackL all[j] L.frm r.2)
 simp only [yU, vB]
 unfold ackW
 refine ⟨hR2.way fun M hM => vM _ (uE _ hM), hles2.trans hles, ?_⟩
 intro g hg hto
 rw [pk_eq (by simpa using hi1), vK, pk_eq hi1, hat] at hg
 have ho : outL all[i'] (ackL all[j] L.frm r.2) = false := by
  unfold outL partyB countsB ackL
  rw [hid, hidi, e1, hme, hmei]
  simp
  omega
 have hrl : rightL (ackL all[j] L.frm r.2) = true := rfl
 unfold hearA at hg
 rw [ho, hrl] at hg
 have hk2 : ¬ (ackL all[j] L.frm r.2).kind = 1 := by unfold ackL; simp
 simp only [Bool.not_true, Bool.or_self, vS, if_false, if_neg hk2] at hg
 unfold ackP at hg
 have e3 : (ackL all[j] L.frm r.2).serial = r.2 ∧ (ackL all[j] L.frm r.2).frm = j := ⟨rfl, hme⟩
 rw [e3.1, e3.2, if_pos g2] at hg
 have hkp := (yL.1 hg).2
 unfold keepB at hkp
 rw [e3.1, e3.2] at hkp
 simp at hkp
 omega
theorem goodL_up {sent : List Sp} {a : Gift} {r : List Gift} (h : goodL sent (a :: r)) : ∀ g ∈ r, g.to = a.to → a.serial < g.serial := by
 obtain ⟨⟨_, _, _, d, _⟩, hr⟩ := h
 intro g hg hto
 have := goodL_lt hr g hg hto
 omega
theorem par_fold {n : Nat} (hn : n ≤ 255) {spent : List Int} {W : List Ltr} {i : Nat} {p : Purse} {sent : List Sp} (hme : p.me = i) : ∀ (r : List Gift) {all : List Purse}, goodL sent r → Rd n spent W all → (∀ g ∈ r, letP p g ∈ W) → (hi : i < all.length) → (∀ g ∈ all[i].out, g ∈ r) →
  Rd n spent W ((r.map (letP p)).foldl (ltrW i) all) ∧ Les ((r.map (letP p)).foldl (ltrW i) all) all ∧ (pk ((r.map (letP p)).foldl (ltrW i) all) i).out = []
 | [], all, _, h, _, hi, ho => ⟨h, Les.refl _, by
   rw [uA, vB, pk_eq hi]
   cases e : all[i].out with
   | nil => rfl
   | cons a l => have := ho a (by rw [e]; simp); cases this⟩
 | a :: r, all, hg, h, hW, hi, ho => by
  have hup := goodL_up hg
  obtain ⟨⟨a1, a2, a3, a4, a5⟩, hgr⟩ := hg
  have hLW := hW a vU
  obtain ⟨q1, q2, q3⟩ := ltr_ok hn h (h.i.lt _ hLW) hi (show (letP p a).frm = i from hme) rfl a3 a2 a5 (fun g hgo hto => by
   rcases yH.1 (ho g hgo) with rfl | hr
   ·exact yD _
   ·exact Int.le_of_lt (hup g hr hto))
  rw [yI, yU]
  have hi2 : i < (ltrW i all (letP p a)).length := by rw [q2.1]; exact hi
  have ih := par_fold hn hme r hgr q1 (fun g hg => hW g (uE _ hg)) hi2 (fun g hgo => by
   rcases yH.1 (ho g (q2.2 i hi2 hi g hgo)) with rfl | hr
   ·rw [pk_eq hi2] at q3
    have := q3 g hgo rfl
    exact absurd this (Int.lt_irrefl _)
   ·exact hr)
  exact ⟨ih.1, ih.2.1.trans q2, ih.2.2⟩
theorem par_ok {n : Nat} (hn : n ≤ 255) {spent : List Int} {all : List Purse} (h : Rd n spent [] all) {i : Nat} (hi : i < all.length) : Rd n spent [] (parW all i) ∧ Les (parW all i) all ∧ (pk (parW all i) i).out = [] := by
 have hI : Inv n all ([] ++ lettersP all[i]) spent := inv_send h.i hi
 obtain ⟨hr, _, hme⟩ := h.i.rt i hi
 unfold parW
 rw [pk_eq hi]
 obtain ⟨p1, p2, p3⟩ := par_fold hn (p := all[i]) hme all[i].out (W := lettersP all[i]) (all := all) hr.g ⟨hI, h.w⟩ (fun g hg => List.mem_map_of_mem hg) hi (fun g hg => hg)
 exact ⟨p1.way fun L hL => (by cases hL), p2, p3⟩
end Go.Fx.P
namespace Go.Fx.P
open Go Go.Fx Go.Proofs Go.Fx.R
set_option maxRecDepth 20000
def Emp (all : List Purse) (m : Nat) : Prop := ∀ i (h : i < all.length), i < m → all[i].out = []
theorem Les.emp {a b : List Purse} (h : Les a b) {i : Nat} (hi : i < a.length) (hb : (b[i]'(by have := h.1; omega)).out = []) : a[i].out = [] := by
 cases e : a[i].out with
 | nil => rfl
 | cons x l => have := h.2 i hi (by have := h.1; omega) x (by rw [e]; simp); rw [hb] at this; cases this
theorem rd_fold {n : Nat} (hn : n ≤ 255) {spent : List Int} {all : List Purse} (h : Rd n spent [] all) : ∀ m, m ≤ 4 → Rd n spent [] ((vD m).foldl parW all) ∧ Les ((vD m).foldl parW all) all ∧ Emp ((vD m).foldl parW all) m
 | 0, _ => ⟨h, Les.refl _, fun i _ h => by omega⟩
 | m + 1, hm => by
  obtain ⟨h1, h2, h3⟩ := rd_fold hn h m (by omega)
  rw [uM, uB, yU, vB]
  have hml : m < ((vD m).foldl parW all).length := by rw [h1.i.len]; omega
  obtain ⟨g1, g2, g3⟩ := par_ok hn h1 hml
  refine ⟨g1, g2.trans h2, fun i hi him => ?_⟩
  by_cases e : i = m
  ·subst e
   rw [pk_eq hi] at g3; exact g3
  ·exact g2.emp hi (h3 i (by have := g2.1; omega) (by omega))
theorem rds_ok {n : Nat} (hn : n ≤ 255) {spent : List Int} {all : List Purse} (h : Rd n spent [] all) : ∀ m, Rd n spent [] (rdsW all m) ∧ (m ≠ 0 → Emp (rdsW all m) 4)
 | 0 => ⟨h, fun h => absurd rfl h⟩
 | m + 1 => by
  obtain ⟨h1, _⟩ := rds_ok hn h m
  obtain ⟨g1, g2, g3⟩ := rd_fold hn h1 4 (by omega)
  exact ⟨g1, fun _ => g3⟩
theorem rd_ltr {n : Nat} {spent : List Int} {W : List Ltr} {all : List Purse} (h : Rd n spent W all) {L : Ltr} (hL : L ∈ W) {i j : Nat} (hi : i < all.length) (hj : j < all.length) (e1 : L.frm = i) (e2 : L.to = j) :
  Rd n spent (ansL (pk all j) L (hearA (pk all j) L).2 ++ W) (all.set j (hearA (pk all j) L).1) := h.hear (h.i.lt _ hL) hj e2
theorem rd_acks {n : Nat} {spent : List Int} {i : Nat} : ∀ (A : List Ltr) {W : List Ltr} {all : List Purse}, Rd n spent W all → (∀ a ∈ A, a ∈ W ∧ a.to = i) → i < all.length → Rd n spent W (A.foldl (ackW i) all)
 | [], _, _, h, _, _ => h
 | a :: A, W, all, h, ha, hi => by
  obtain ⟨h1, h2⟩ := ha a vU
  rw [yU]
  have := h.hear (h.i.lt _ h1) hi h2
  exact rd_acks A (this.way fun M hM => vM _ hM) (fun b hb => ha b (uE _ hb)) (by simpa [ackW] using hi)
theorem ans_to {p : Purse} {L : Ltr} {m : Int} : ∀ a ∈ ansL p L m, a.to = L.frm := by
 unfold ansL
 split
 ·intro a h; cases h
 ·intro a h; rw [yX] at h; subst h; rfl
theorem rd_ltr2 {n : Nat} {spent : List Int} {W : List Ltr} {all : List Purse} (h : Rd n spent W all) {L : Ltr} (hL : L ∈ W) {i j : Nat} (hi : i < all.length) (hj : j < all.length) (e1 : L.frm = i) (e2 : L.to = j) : Rd n spent W (ltrW i all L) := by
 unfold ltrW
 have hjn : L.to.toNat = j := by rw [e2]; exact vT j
 rw [hjn]
 exact (rd_acks _ (rd_ltr h hL hi hj e1 e2) (fun a ha => ⟨uD _ ha, (ans_to a ha).trans e1⟩) (by simpa using hi)).way fun M hM => vM _ hM
def csum (N : Nat) (f : Int → Nat) : Nat := ((vD N).map fun x : Nat => f ((x : Int) + 1)).sum
theorem csum_s {N : Nat} {f : Int → Nat} : csum (N + 1) f = csum N f + f ((N : Int) + 1) := by
 unfold csum
 rw [uM, yJ, List.sum_append]
 simp
theorem csum_add {f g : Int → Nat} : ∀ {N : Nat}, csum N (fun x => f x + g x) = csum N f + csum N g
 | 0 => rfl
 | N + 1 => by rw [csum_s, csum_s, csum_s, csum_add]; omega
theorem csum_zero {f : Int → Nat} : ∀ {N : Nat}, (∀ x, f x = 0) → csum N f = 0
 | 0, _ => rfl
 | N + 1, h => by rw [csum_s, csum_zero h, h]
theorem csum_eq {f g : Int → Nat} : ∀ {N : Nat}, (∀ x : Int, 1 ≤ x → x ≤ N → f x = g x) → csum N f = csum N g
 | 0, _ => rfl
 | N + 1, h => by rw [csum_s, csum_s, csum_eq fun x h1 h2 => h x h1 (by omega), h _ (by omega) (by omega)]
theorem csum_one : ∀ {N : Nat}, csum N (fun _ => 1) = N
 | 0 => rfl
 | N + 1 => by rw [csum_s, csum_one]
theorem csum_iv {a b : Int} (ha : 1 ≤ a) (hab : a ≤ b) : ∀ {N : Nat}, (csum N (fun x => if a ≤ x ∧ x < b then 1 else 0) : Int) = max 0 (min b (N + 1) - a)
 | 0 => by simp [csum]; omega
 | N + 1 => by
  rw [csum_s]
  have := csum_iv ha hab (N := N)
  push_cast
  rw [this]
  split <;> omega
theorem ind_cons {s : Sp} {l : List Sp} {x : Int} (h : Sep (s :: l)) : ind (s :: l) x = (if s.1 ≤ x ∧ x < s.2 then 1 else 0) + ind l x := by
 obtain ⟨h1, h2, h3⟩ := sep_cons.1 h
 have e := ind_pos (l := s :: l) (x := x)
 rw [inS_cons, ind_pos (l := l)] at e
 have := ind_le (l := s :: l) (x := x)
 have hl := ind_le (l := l) (x := x)
 by_cases c : s.1 ≤ x ∧ x < s.2
 ·have h0 : ind l x = 0 := ind_zero.1 fun hx => by have := inS_gt h2 hx; omega
  rw [if_pos c, h0]
  exact e.1 (.inl c)
 ·rw [if_neg c]
  by_cases d : ind l x = 1
  ·rw [e.1 (.inr d), d]
  ·have : ¬ ind (s :: l) x = 1 := fun q => by
    rcases e.2 q with q | q
    ·exact c q
    ·exact d q
   omega
theorem tot_csum {N : Nat} : ∀ {l : List Sp}, Sep l → (∀ x, inS l x → 1 ≤ x ∧ x ≤ N) → tot l = csum N (ind l)
 | [], _, _ => by rw [tot_nil, csum_zero fun x => ind_nil]; rfl
 | s :: l, h, hx => by
  obtain ⟨h1, h2, h3⟩ := sep_cons.1 h
  have ih := tot_csum h3 fun x hx' => hx x (inS_cons.2 (.inr hx'))
  have a := hx _ (inS_cons.2 (.inl ⟨yD _, h1⟩))
  have b := hx (s.2 - 1) (inS_cons.2 (.inl ⟨by omega, by omega⟩))
  have e : csum N (ind (s :: l)) = csum N (fun x => if s.1 ≤ x ∧ x < s.2 then 1 else 0) + csum N (ind l) := by
   rw [← csum_add]
   exact csum_eq fun x _ _ => ind_cons h
  have c := csum_iv (a := s.1) (b := s.2) a.1 (by omega) (N := N)
  rw [tot_cons, ih, e]
  push_cast
  rw [c]
  omega
def purT (p : Purse) : Int := tot p.left + tot p.spent
def sumT (all : List Purse) : Int := (all.map purT).sum
theorem sumT_csum {N : Nat} : ∀ {l : List Purse}, (∀ p ∈ l, Sep p.left ∧ Sep p.spent ∧ ∀ x, inS p.left x ∨ inS p.spent x → 1 ≤ x ∧ x ≤ N) → sumT l = csum N fun x => (l.map fun p => ind p.left x + ind p.spent x).sum
 | [], _ => by
  show (0 : Int) = _
  rw [csum_zero]
  ·rfl
  ·intro x; rfl
 | p :: l, h => by
  obtain ⟨a, b, c⟩ := h p (by simp)
  have ih := sumT_csum (N := N) (l := l) fun q hq => h q (by simp [hq])
  have t1 := tot_csum a fun x hx => c x (.inl hx)
  have t2 := tot_csum b fun x hx => c x (.inr hx)
  have e : csum N (fun x => ((p :: l).map fun p => ind p.left x + ind p.spent x).sum) = csum N (ind p.left) + csum N (ind p.spent) + csum N fun x => (l.map fun p => ind p.left x + ind p.spent x).sum := by
   rw [← csum_add, ← csum_add]
   exact csum_eq fun x _ _ => by rw [yI, yK]
  rw [e]
  show purT p + sumT l = _
  unfold purT
  rw [ih, t1, t2]
  push_cast
  rfl
theorem sum_end {n : Nat} {spent : List Int} {W : List Ltr} {all : List Purse} (h : Inv n all W spent) (he : ∀ i (hi : i < all.length), all[i].out = []) : sumT all = n := by
 have hpl : ∀ p ∈ all, ∀ x, plc all p x = ind p.left x + ind p.spent x := fun p hp x => by
  obtain ⟨i, hi, rfl⟩ := yM hp
  unfold plc
  rw [sum_zero fun q _ => fl_nil (he i hi)]
  rfl
 have htt : ∀ x, tt all x = (all.map fun p => ind p.left x + ind p.spent x).sum := fun x => by
  unfold tt
  exact sum_same fun p hp => hpl p hp x
 rw [sumT_csum (N := n) fun p hp => ?_]
 ·rw [csum_eq (g := fun _ => 1) fun x h1 h2 => by rw [← htt, h.tt, if_pos ⟨h1, h2⟩], csum_one]
 ·obtain ⟨i, hi, rfl⟩ := yM hp
  obtain ⟨hr, _⟩ := h.rt i hi
  refine ⟨hr.l.v.1, hr.s.v.1, fun x hx => ?_⟩
  have h1 := hpl _ hp x
  have h2 := le_sum (fun p => plc all p x) all i hi
  have h3 := h.tt x
  unfold P.tt at h3
  rcases hx with hx | hx <;> have h4 := ind_pos.1 hx <;> split at h3 <;> omega
end Go.Fx.P
namespace Go.Fx.P
open Go Go.Fx Go.Proofs Go.Fx.R
set_option maxRecDepth 20000
theorem call_isMA {cx : Cx} {f : FuncId} {args : List V} {e : Env} {h : List Blk} {b : Nat} {K : V → St → Prop} (ι mv M : List Nat) (xs : List V) (x x' : V) (h0 h1 h' : List Blk) (e' : Env) (hC : cx.C f xs h0 mv (IsA x h1))
  (hι : ι.Nodup ∧ ∀ k ∈ ι, k < h.length ∧ k ∉ cx.bn) (hM : mv.filterMap (ι[·]?) = M ∧ ∀ j ∈ mv, ∀ k, ι[j]? = some k → k ∉ cx.fx) (r0 : ι.map (fun k => renB (pos ι) (blk h k)) = h0) (ha : lendsOk h (pos ι) args ∧ wkL xs (lends h (pos ι) args))
  (hh : setAll ι (h1.map (renB (back ι h.length))) (h.map (killB M)) = h') (hx : ren (back ι h.length) x = x') (he : killE M e = e') (keep : keepP cx.fx h') (h3 : K x' ⟨e', h', b⟩) : callP cx f args ⟨e, h, b⟩ K := by
 refine ⟨ι, xs, mv, IsA x h1, ⟨hι, hM.2⟩, ha.1, ha.2, by rw [r0]; exact hC, ?_⟩
 rintro r h2 ⟨rfl, rfl⟩ _
 rw [hM.1, hh, hx, he]
 exact ⟨keep, h3⟩
def runW (n : Nat) (acts : List Act) (k : Nat) : Wld := (acts.take k).foldl doW ⟨begL n, [], []⟩
theorem runW_0 {n : Nat} {acts : List Act} : runW n acts 0 = ⟨begL n, [], []⟩ := rfl
theorem runW_s {n : Nat} {acts : List Act} {k : Nat} (h : k < acts.length) : runW n acts (k + 1) = doW (runW n acts k) acts[k] := by
 unfold runW
 rw [List.take_succ_eq_append_getElem h, uB]; rfl
structure Run (n k : Nat) (w : Wld) : Prop where
 i : w.I n
 wl : w.way.length ≤ 264 + k
 sl : w.spent.length ≤ k
theorem run_ok {n : Nat} (hn : n ≤ 255) {acts : List Act} (ha : ∀ a ∈ acts, a.Ok) : ∀ k, k ≤ acts.length → Run n k (runW n acts k)
 | 0, _ => ⟨inv_begin hn, Nat.zero_le _, yZ _⟩
 | k + 1, h => by
  have ih := run_ok hn ha k (by omega)
  rw [runW_s (by omega)]
  have hm := ha _ (yG (show k < acts.length by omega))
  obtain ⟨h1, h2⟩ := do_len hm ih.i ih.wl ih.sl
  exact ⟨inv_do hm ih.i, h1, h2⟩
end Go.Fx.P
