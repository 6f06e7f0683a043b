import Derived.Test.YtemlboicdekgbaaTC23
import Derived.Test.YtemlboicdekgbaaFxRunSound
set_option linter.unusedVariables false
set_option linter.unusedSimpArgs false
set_option linter.unusedSectionVars false
open List renaming replicate → yA, take → yE, getD_eq_getElem?_getD → yF, getElem_mem → yG, take_of_length_le → yI, append_nil → yJ, length_cons → yK, getElem_of_mem → yL, length_append → yM, mem_singleton → yN, range → yP, ext_getElem → yS, getElem_map → yT, append_assoc → yU, getElem?_replicate → yV, getElem?_eq_getElem → yW, length_set → vC, any_eq_true → vF, any_eq_false → vG, length_nil → vI, drop_replicate → vJ, length_replicate → vK, mem_range → vL, filter_append → vM, filter_nil → vN, length_map → vO, map_append → vP, mem_cons → vQ, count_cons → vU, getElem?_eq_none → vV, map_set → vW, mem_append → vX, length_singleton → vY, getElem_append_left → vZ, take_succ_eq_append_getElem → uB, length_drop → uC, getElem?_append_right → uD, set_append_right → uE, getElem?_cons_zero → uF, getElem_append_right → uG, filter_eq_self → uH
open Int renaming toNat_natCast → yB, natCast_zero → yC, le_refl → yD, min_le_right → yQ, le_trans → yY, natCast_add → yZ, add_mul → vA, mul_le_mul_of_nonneg_right → vB, min_eq_left → vD, toNat_of_nonneg → vE, lt_irrefl → vR, min_le_left → vS
open BitVec renaming ofInt → yH
open Nat renaming zero_le → yO, lt_or_ge → yX, le_refl → uA
open Bool renaming false_eq_true → vH
open Option renaming getD_some → vT
namespace Go.Fx.P.K
open Go Go.Fx Go.Proofs
set_option maxRecDepth 20000
theorem bi_an {k : IntKind} {a c : Int} {K : V → Prop} {x : Bool} : binInt .and x k a c K = K (.v (.int k (k.wrap ((yH k.bits a &&& yH k.bits c).toNat : Int)))) := rfl
theorem sh_r {k : IntKind} {a c : Int} {K : V → Prop} : shiftInt .shr k a c K = (0 ≤ c ∧ K (.v (.int k (a.fdiv (2 ^ (min c.toNat k.bits)))))) := rfl
theorem and_mask {a : Nat} (h : a < 4294967296) : IntKind.wrap .u64 (((yH (IntKind.bits .u64) (a : Int) &&& yH (IntKind.bits .u64) 4294967295).toNat : Nat) : Int) = (a : Int) := by
 have h1 : (yH (IntKind.bits .u64) (a : Int) &&& yH (IntKind.bits .u64) 4294967295).toNat = a := by
  rw [BitVec.toNat_and]
  have e1 : (yH (IntKind.bits .u64) (a : Int)).toNat = a := by
   rw [BitVec.toNat_ofInt]
   show (((a : Int) % ((2 ^ 64 : Nat) : Int)).toNat) = a
   omega
  have e2 : (yH (IntKind.bits .u64) 4294967295).toNat = 2 ^ 32 - 1 := by decide
  rw [e1, e2, Nat.and_two_pow_sub_one_eq_mod]
  omega
 rw [h1]
 exact wrap_in .u64 _ (by simp only [lo, hi]; omega)
theorem shr32 {a : Nat} (h : a < 4294967296) : (a : Int).fdiv (2 ^ (min (Int.toNat 32) (IntKind.bits .u64))) = 0 := by
 show (a : Int).fdiv (2 ^ 32) = 0
 rw [Int.fdiv_eq_ediv_of_nonneg _ (by decide)]
 omega
theorem ok110 (n : Nat) (h : n < 1000000) : Ok 110 [.v (.int .u64 ((1 : Nat) : Int)), .v (.int .u64 n)] (Is (.tup [.v (.int .u64 ((0 : Nat) : Int)), .v (.int .u64 n)])) := by
 refine ok_of lw110 (by simp) ?_
 unfold c110
 have e1 := and_mask (a := 1) (by omega)
 have e0 := and_mask (a := 0) (by omega)
 have en := and_mask (a := n) (by omega)
 have s1 := shr32 (a := 1) (by omega)
 have s0 := shr32 (a := 0) (by omega)
 have sn := shr32 (a := n) (by omega)
 have m1 : ((1 : Nat) : Int) * (n : Int) = n := by simp
 have m0 : (0 : Int) * (n : Int) = 0 := Int.zero_mul _
 have mz : ((1 : Nat) : Int) * 0 = 0 := rfl
 have zz : (0 : Int) * 0 = 0 := rfl
 have za : (0 : Int) + 0 = 0 := rfl
 have ez : IntKind.wrap .u64 (((yH (IntKind.bits .u64) (0 : Int) &&& yH (IntKind.bits .u64) 4294967295).toNat : Nat) : Int) = (0 : Int) := e0
 have sz : (0 : Int).fdiv (2 ^ (min (Int.toNat 32) (IntKind.bits .u64))) = 0 := s0
 have h32 : (0 : Int) ≤ 32 := by omega
 have b0 : (lo .u64 ≤ (0 : Int) ∧ (0 : Int) ≤ hi .u64) := by simp only [lo, hi]; omega
 have bn : (lo .u64 ≤ (n : Int) ∧ (n : Int) ≤ hi .u64) := by simp only [lo, hi]; omega
 simp -implicitDefEqProofs only [rX,↓rY,ofConst,↓reduceIte,Nat.reduceEqDiff,reduceCtorEq,resP,tupV,wfV,wfL,cxN,args0,↓bi_an,↓sh_r,e1,en,s1,sn,m1,m0,mz,zz,za,ez,sz,eq_true h32,eq_true b0,eq_true bn]
 first | rfl | trivial
theorem ok106 (n : Nat) (h : n < 1000000) : Ok 106 [.v (.int .u64 ((1 : Nat) : Int)), .v (.int .u64 n)] (Is (.tup [.v (.int .u64 ((0 : Nat) : Int)), .v (.int .u64 n)])) := by
 refine ok_of lw106 (by simp) ?_
 unfold c106
 simp -implicitDefEqProofs only [rX,↓rY,ofConst,↓reduceIte,Nat.reduceEqDiff,reduceCtorEq,cxN,args0]
 refine call_is (ok110 n h) ?_ rfl trivial ?_
 ·simp [lendsOk, lendOk, lends, lend, wkL, wk, pos]
 simp -implicitDefEqProofs only [rX,↓rY,↓reduceIte,Nat.reduceEqDiff,resP,tupV,wfV,wfL]
theorem rep_app {n m : Nat} {x : List V} : yA n x ++ yA m x = yA (n + m) x := by
 rw [List.replicate_append_replicate]
theorem ok87 (N : Nat) (x : Int) (h1 : 1 ≤ N) (h2 : N ≤ 1000) : Ok 87 [.bro 1 [encI x], .i N] (IsA (.sl 0 0 N) [.arr 1 (yA N (encI x))]) := by
 refine ok_of lw87 (by simp) ?_
 unfold c87
 have w1 : IntKind.wrap .u64 (((1 : Nat) : Int)) = ((1 : Nat) : Int) := wrap_in .u64 _ (by simp only [lo, hi]; omega)
 have wn : IntKind.wrap .u64 (N : Int) = N := wrap_in .u64 _ (by simp only [lo, hi]; omega)
 have wi : IntKind.wrap .i64 (N : Int) = N := wrap_in .i64 _ (by simp only [lo, hi]; omega)
 have hneg : decide ((N : Int) < 0) = false := decide_eq_false (by omega)
 have hz : decide ((0 : Int) < ((0 : Nat) : Int)) = false := rfl
 have hbig : decide ((9223372036854775807 : Int) < (N : Int)) = false := decide_eq_false (by omega)
 have hff : (if false = true then (lo .u64 ≤ 0 ∧ 0 ≤ hi .u64) else False) = False := by simp
 simp -implicitDefEqProofs only [rX,↓rY,ofConst,↓reduceIte,Nat.reduceEqDiff,reduceCtorEq,cxN,args0,hneg]
 intro _
 simp -implicitDefEqProofs only [w1,wn]
 refine call_is (ok106 N (by omega)) ?_ rfl trivial ?_
 ·simp [lendsOk, lendOk, lends, lend, wkL, wk, pos, w1]
 simp -implicitDefEqProofs only [rX,↓rY,ofConst,↓reduceIte,Nat.reduceEqDiff,reduceCtorEq,freshP,hz,hbig,wi]
 refine ⟨⟨⟨by omega, by omega⟩, by omega, by omega⟩, ?_⟩
 have hmin : min 1 N = 1 := by omega
 refine loopP_intro (fun n : Nat => ⟨[(8, .i n), (7, .sl 0 0 N)], [.arr 1 (yA n (encI x) ++ yA (N - n) (encI 0))], 0⟩) (fun n => 1 ≤ n ∧ n ≤ N) (fun n => N - n) 1 (by omega) ?_ ?_
 ·simp -implicitDefEqProofs only [rX,↓reduceIte,Nat.reduceEqDiff,leE,leH,leB,keepP,liveP,wfE,wfB,wfV,hmin]
  have : yE N [encI x] = [encI x] := yI (by simp; omega)
  rw [this, vJ]
  simp
  exact .inr rfl
 rintro n ⟨hn1, hn2⟩
 simp -implicitDefEqProofs only [rX,↓rY,↓reduceIte,Nat.reduceEqDiff,arrSz,slcOk,resP,tupV,leE,leH,leB,keepP,liveP,wfE,wfB,wfV,Nat.reduceLeDiff,retP_isA]
 intro hmx
 simp only [br, decide_eq_true_eq, decide_eq_false_iff_not]
 refine ⟨fun h => ?_, fun h => ?_⟩
 ·have h00 : Int.toNat 0 = 0 := rfl
  have e1 : yE n (yA n (encI x) ++ yA (N - n) (encI 0)) = yA n (encI x) := by
   rw [List.take_append_of_le_length (by simp), yI (by simp)]
  simp only [h00, Nat.sub_zero, List.drop_zero, Nat.zero_add, e1, vK]
  refine ⟨⟨⟨by omega, by omega⟩, by omega⟩, ⟨⟨by omega, by omega⟩, by omega, by omega⟩, by omega, .inr trivial, ⟨by simp only [lo]; omega, by simp only [hi]; omega⟩, n + min n (N - n), ⟨⟨by omega, by omega⟩, by omega⟩, by omega, ?_⟩
  have e2 : List.drop (n + min n (N - n)) (yA n (encI x) ++ yA (N - n) (encI 0)) = yA (N - (n + min n (N - n))) (encI 0) := by
   rw [List.drop_append, vJ, vJ, vK, show n - (n + min n (N - n)) = 0 by omega, show N - n - (n + min n (N - n) - n) = N - (n + min n (N - n)) by omega]
   rfl
  rw [e2, List.take_replicate, rep_app, show min (N - n) n = min n (N - n) by omega]
 ·have : N - n = 0 := by omega
  have : n = N := by omega
  subst this
  simp
end Go.Fx.P.K
namespace Go.Fx.P.K
open Go Go.Fx Go.Proofs
set_option maxRecDepth 20000
theorem get5 {α : Type} {a b c d f : α} {l : List α} {q : Nat} : (a :: b :: c :: d :: f :: l)[q + 5]? = l[q]? := rfl
theorem set5 {α : Type} {a b c d f x : α} {l : List α} {q : Nat} : (a :: b :: c :: d :: f :: l).set (q + 5) x = a :: b :: c :: d :: f :: l.set q x := rfl
def encR (l : List Nat) : List (List V) := l.map encN
theorem encR_len {l : List Nat} : (encR l).length = l.length := by simp [encR]
def rowsS (N : Nat) (L : Nat → List Nat) : List (List V) := (yP N).map fun (v : Nat) => [.sl (v + 5) 0 (L v).length]
def rowsB (N : Nat) (L : Nat → List Nat) : List Blk := (yP N).map fun (v : Nat) => .arr 1 (encR (L v))
section
variable {N : Nat} {L : Nat → List Nat}
theorem rowsS_len : (rowsS N L).length = N := by simp [rowsS]
theorem rowsB_len : (rowsB N L).length = N := by simp [rowsB]
theorem rowsS_get {v : Nat} (h : v < (rowsS N L).length) : (rowsS N L)[v] = [.sl (v + 5) 0 (L v).length] := by simp [rowsS]
theorem rowsB_in {v : Nat} {l : List Blk} (h : v < N) : (rowsB N L ++ l)[v]? = some (.arr 1 (encR (L v))) := by
 rw [List.getElem?_append_left (by rw [rowsB_len]; exact h)]
 simp [rowsB, h]
theorem rowsB_out {q : Nat} {l : List Blk} : (rowsB N L ++ l)[N + q]? = l[q]? := by
 rw [uD (by rw [rowsB_len]; omega), rowsB_len]; congr 1; omega
theorem rowsB_out0 {l : List Blk} : (rowsB N L ++ l)[N]? = l[0]? := rowsB_out (q := 0)
theorem rowsB_set {q : Nat} {l : List Blk} {x : Blk} : (rowsB N L ++ l).set (N + q) x = rowsB N L ++ l.set q x := by
 rw [uE _ _ (by rw [rowsB_len]; omega), rowsB_len]; congr 2; omega
theorem rowsB_set0 {l : List Blk} {x : Blk} : (rowsB N L ++ l).set N x = rowsB N L ++ l.set 0 x := rowsB_set (q := 0)
theorem rowsB_put {v : Nat} {l : List Blk} {x : Blk} (h : v < N) : (rowsB N L ++ l).set v x = (rowsB N L).set v x ++ l := by
 rw [List.set_append_left _ _ (by rw [rowsB_len]; exact h)]
theorem rowsB_kill {M : List Nat} : (rowsB N L).map (killB M) = rowsB N L := by
 unfold rowsB
 rw [List.map_map]
 rfl
def app (L : Nat → List Nat) (v k : Nat) : Nat → List Nat := fun u => if u = v then L u ++ [k] else L u
theorem rowsS_next {v : Nat} (k : Nat) (hv : v < N) : ((rowsS N L).map (kills [v + 5])).set v [.sl (v + 5) 0 ((L v).length + 1)] = rowsS N (app L v k) := by
 apply yS
 ·simp [rowsS]
 ·intro q h1 h2
  have hq : q < N := by simpa [rowsS] using h2
  rw [List.getElem_set, rowsS_get]
  by_cases e : v = q
  ·subst e
   simp [app]
  ·rw [if_neg e, yT, rowsS_get]
   have : ¬ (q + 5 = v + 5) := by omega
   simp [kills, kill, this, app, Ne.symm e]
theorem rowsB_next {v : Nat} (k : Nat) (hv : v < N) : (rowsB N L).set v (.arr 1 (encR (L v) ++ [encN k])) = rowsB N (app L v k) := by
 apply yS
 ·simp [rowsB]
 ·intro q h1 h2
  have hq : q < N := by simpa [rowsB] using h2
  rw [List.getElem_set]
  simp only [rowsB, yT, List.getElem_range]
  by_cases e : v = q
  ·subst e
   rw [if_pos rfl]
   simp [encR, app]
  ·rw [if_neg e]; simp [app, Ne.symm e]
theorem rowsB_all {Q : List Blk → Prop} (h0 : Q []) (h1 : ∀ els r, Q r → Q (.arr 1 els :: r)) : Q (rowsB N L) := by
 have : ∀ l : List Blk, (∀ b ∈ l, ∃ els, b = .arr 1 els) → Q l := by
  intro l
  induction l with
  | nil => intro _; exact h0
  | cons b r ih =>
   intro h
   obtain ⟨els, rfl⟩ := h b List.mem_cons_self
   exact h1 _ _ (ih fun b hb => h b (List.mem_cons_of_mem _ hb))
 refine this _ fun b hb => ?_
 unfold rowsB at hb
 rw [List.mem_map] at hb
 obtain ⟨v, _, rfl⟩ := hb
 exact ⟨_, rfl⟩
theorem rowsB_wf {q : List Blk} : wfB q (rowsB N L) := rowsB_all trivial fun _ _ h => h
theorem rowsB_leH {l : List Blk} : leH (rowsB N L ++ l) (rowsB N L) := rowsB_all (Q := fun m => leH (m ++ l) m) (by unfold leH; trivial) fun _ _ h => ⟨rfl, h⟩
theorem rowsS_wf {a b c d f : Blk} : wfL (a :: b :: c :: d :: f :: rowsB N L) (rowsS N L).flatten := by
 refine wfL_all fun x hx => ?_
 rw [List.mem_flatten] at hx
 obtain ⟨l, h1, h2⟩ := hx
 unfold rowsS at h1
 rw [List.mem_map] at h1
 obtain ⟨v, hv, rfl⟩ := h1
 rw [vL] at hv
 rw [yN] at h2
 subst h2
 simp only [wfV, liveP, get5]
 have := rowsB_in (L := L) (l := []) hv
 rw [yJ] at this
 rw [this]
 trivial
end
def hp27 (N : Nat) (arcs : List Arc) (x : List Int) (L : Nat → List Nat) : List Blk :=
 .arr 1 (x.map encI) :: .var [.i N, .ro 4 (arcs.map Arc.enc)] :: .arv 1 (rowsS N L) :: .arr 1 (yA N (encI 0)) :: wB N x.length arcs 0 2 3 :: rowsB N L
def pat27 (N : Nat) (arcs : List Arc) (x : List Int) (k : Nat) : St :=
 ⟨[(21, .i k), (20, .i arcs.length), (19, .ro 4 (arcs.map Arc.enc)), (5, .ptr 4 0 0), (2, .ptr 1 0 0)], hp27 N arcs x (fun v => outs arcs v k), 0⟩
theorem outs_len {arcs : List Arc} {v k : Nat} : (outs arcs v k).length ≤ k := by
 have := List.length_filter_le (fun i => decide ((gA arcs i).from_ = v ∨ (gA arcs i).to = v)) (yP k)
 rwa [List.length_range] at this
theorem outs_next {arcs : List Arc} {k f t : Nat} (hf : (gA arcs k).from_ = f) (ht : (gA arcs k).to = t) (hft : f ≠ t) : (fun v => outs arcs v (k + 1)) = app (app (fun v => outs arcs v k) f k) t k := by
 funext v
 have h1 : outs arcs v (k + 1) = outs arcs v k ++ (if (gA arcs k).from_ = v ∨ (gA arcs k).to = v then [k] else []) := by
  unfold outs
  rw [List.range_succ, vM]
  congr 1
  by_cases h : (gA arcs k).from_ = v ∨ (gA arcs k).to = v
  ·rw [if_pos h]; simp only [List.filter_cons, vN, h, decide_true]; rfl
  ·rw [if_neg h]; simp only [List.filter_cons, vN, h, decide_false]; rfl
 rw [h1, hf, ht]
 unfold app
 by_cases e1 : v = t
 ·subst e1
  rw [if_pos rfl, if_neg (Ne.symm hft)]
  simp
 ·rw [if_neg e1]
  by_cases e2 : v = f
  ·subst e2; simp
  ·rw [if_neg e2]
   have : ¬ ((f : Int) = v ∨ (t : Int) = v) := by omega
   rw [if_neg this]; simp
theorem body27 (N : Nat) (arcs : List Arc) (x : List Int) (hV : Val N arcs) {RR : St → Prop} {X : Nat → St → Prop}
  (hX : ∀ e b, get e 5 = .ptr 4 0 0 → X 0 ⟨e, hp27 N arcs x (fun v => outs arcs v arcs.length), b⟩) (k : Nat) (hk : k ≤ arcs.length) :
  aw (cxN Try.prog [0]) c63l0 (fun s' => ∃ g' : Nat, (g' ≤ arcs.length ∧ arcs.length - g' < arcs.length - k) ∧ leS [0] s' (pat27 N arcs x g')) X RR (pat27 N arcs x k) := by
 have hL := hV.hl
 have hfl := fun v => outs_len (arcs := arcs) (k := k) (v := v)
 have hnext := fun f t => outs_next (arcs := arcs) (k := k) (f := f) (t := t)
 unfold c63l0 pat27 hp27 wB
 simp -implicitDefEqProofs only [rX,↓rY,rZ,rdK,ofConst,cells?,splice,↓reduceIte,Nat.reduceEqDiff,arrSz,Nat.reduceAdd,reduceCtorEq,freshP,litsP,isD,Nat.reduceLT,cxN,get5,set5,rowsB_len,rowsB_out,rowsB_out0,rowsB_set,rowsB_set0,rowsS_len,yU]
 simp only [br, decide_eq_true_eq, decide_eq_false_iff_not]
 refine ⟨fun h => ?_, fun h => ?_⟩
 ·have hk1 : k < arcs.length := by omega
  have hgk : gA arcs k = arcs[k] := gA_at hk1
  have hva := hV.at hk1
  rw [hgk] at hva hnext
  have hnx := hnext arcs[k].from_.toNat arcs[k].to.toNat (by omega) (by omega) (by omega)
  have hf : arcs[k].from_.toNat < N := by omega
  have ht : arcs[k].to.toNat < N := by omega
  have if5 : ∀ (L : Nat → List Nat) (l : List Blk), (rowsB N L ++ l)[arcs[k].from_.toNat]? = some (.arr 1 (encR (L arcs[k].from_.toNat))) := fun L l => rowsB_in hf
  have it5 : ∀ (L : Nat → List Nat) (l : List Blk), (rowsB N L ++ l)[arcs[k].to.toNat]? = some (.arr 1 (encR (L arcs[k].to.toNat))) := fun L l => rowsB_in ht
  have tk : ∀ l : List Nat, yE l.length (encR l) = encR l := fun l => yI (by rw [encR_len]; omega)
  have ek : [V.v (Value.int IntKind.i64 (k : Int))] = encN k := rfl
  have ke : ∀ M : List Nat, kills M arcs[k].enc = arcs[k].enc := fun M => rfl
  have n0 : (N = arcs[k].from_.toNat) = False := eq_false (by omega)
  have n1 : (N + 1 = arcs[k].from_.toNat) = False := eq_false (by omega)
  have n2 : (N = arcs[k].to.toNat) = False := eq_false (by omega)
  have n3 : (N + 1 = arcs[k].to.toNat) = False := eq_false (by omega)
  have n4 : (arcs[k].from_.toNat = N) = False := eq_false (by omega)
  have n5 : (arcs[k].to.toNat = N) = False := eq_false (by omega)
  have n6 : (N + 3 = arcs[k].to.toNat) = False := eq_false (by omega)
  have n7 : (arcs[k].from_.toNat = arcs[k].to.toNat) = False := eq_false (by omega)
  have n8 : (arcs[k].to.toNat = arcs[k].from_.toNat) = False := eq_false (by omega)
  have eN : (encN k).length = 1 := rfl
  have eD : (encN k).all isD = true := rfl
  have hap : ∀ (L : Nat → List Nat), app L arcs[k].from_.toNat k arcs[k].to.toNat = L arcs[k].to.toNat := fun L => by simp [app, n8]
  have mk : ∀ (L : Nat → List Nat) (M : List Nat), ((rowsS N L).map (kills M)).length = N := fun L M => by rw [vO, rowsS_len]
  refine ⟨⟨by omega, h⟩, by omega, by omega, by omega, ?_⟩
  simp -implicitDefEqProofs only [rX,↓rY,rZ,rdK,ofConst,cells?,splice,↓reduceIte,Nat.reduceEqDiff,arrSz,Nat.reduceAdd,reduceCtorEq,freshP,litsP,leE,leH,leB,leV,leVs,keepP,liveP,wfE,wfB,wfV,wfL,killE,killB,kill,kills,St.kill,isC,Nat.reduceLT,get5,set5,rowsB_len,rowsB_out,rowsB_out0,rowsB_set,rowsS_len,rowsS_get,yU,if5,it5,tk,ek,mk,encR_len,ke,n0,n1,n2,n3,n4,n5,n6,n7,eN,eD,hap,vP,rowsB_kill,rowsB_put hf,rowsB_put ht,fun L => rowsS_next (L := L) k hf,fun L => rowsS_next (L := L) k ht,fun L => rowsB_next (L := L) k hf,fun L => rowsB_next (L := L) k ht]
  have r1 := rowsS_next (L := app (fun v => outs arcs v k) arcs[k].from_.toNat k) k ht
  have r2 := rowsB_next (L := app (fun v => outs arcs v k) arcs[k].from_.toNat k) k ht
  rw [hap] at r1 r2
  have o1 := hfl arcs[k].from_.toNat
  have o2 := hfl arcs[k].to.toNat
  refine ⟨by omega, hva.1, by omega, hva.2.1, by omega, by omega, hva.2.1, by omega, by simp only [lo, hi]; omega, k + 1, ⟨by omega, by omega⟩, by omega, ?_⟩
  rw [r1, r2, ← hnx]
  exact ⟨⟨rfl, rowsB_leH⟩, rowsS_wf, rowsB_wf⟩
 ·have hke : k = arcs.length := by omega
  subst hke
  exact hX _ _ rfl
theorem raw27 (N : Nat) (arcs : List Arc) (x : List Int) (hV : Val N arcs) : OkN Try.prog 63 [net N arcs, .sl 0 0 x.length] [.arr 1 (x.map encI)] [] (IsA (.ptr 4 0 0) (hp27 N arcs x (fun v => outs arcs v arcs.length))) := by
 refine okN_of pol [0] lw63 (by simp) ⟨trivial, trivial⟩ (by simp) ?_
 have hL := hV.hl
 have hN := hV.hn
 unfold c63 net
 simp -implicitDefEqProofs only [rX,↓rY,rdK,ofConst,cells?,splice,↓reduceIte,Nat.reduceEqDiff,Nat.reduceAdd,reduceCtorEq,freshP,buildP,Nat.reduceLeDiff,cxN,args0]
 have hrows : ∀ v, outs arcs v 0 = [] := fun v => rfl
 have e0 : rowsB N (fun v => outs arcs v 0) = yA N (.arr 1 []) := by
  apply yS
  ·simp [rowsB]
  ·intro q h1 h2
   simp [rowsB, hrows, encR]
 have hnil : nilRows (yA N [V.nil]) (rowsS N (fun v => outs arcs v 0)) := by
  refine ⟨by simp [rowsS_len], fun i a b h1 h2 => ?_⟩
  have hi : i < N := by
   have := (List.getElem?_eq_some_iff.1 h1).1
   simpa using this
  have ha : a = [V.nil] := by
   rw [yV, if_pos hi] at h1
   simpa using h1.symm
  have hb : b = [.sl (i + 5) 0 0] := by
   rw [yW (by rw [rowsS_len]; exact hi), rowsS_get] at h2
   simpa [hrows] using h2.symm
  subst ha hb
  refine ⟨rfl, fun j x y q1 q2 => ?_⟩
  cases j with
  | zero =>
   simp only [uF, Option.some.injEq] at q1 q2
   subst q1 q2
   exact .inr ⟨rfl, _, rfl⟩
  | succ j => simp at q1
 have hfin : ∀ e b, get e 5 = .ptr 4 0 0 → aw (cxN Try.prog [0]) ((LCode.reg 0 [{ dst := some 63, op := LOp.mov (Operand.tmp 5) }, { dst := some 4, op := LOp.mov (Operand.tmp 63) }]).seq LCode.ret)
   (retP [0] 1 [LRes.tmp 4] (IsA (V.ptr 4 0 0) (hp27 N arcs x fun v => outs arcs v arcs.length))) (fun x x_1 => False) (retP [0] 1 [LRes.tmp 4] (IsA (V.ptr 4 0 0) (hp27 N arcs x fun v => outs arcs v arcs.length))) ⟨e, hp27 N arcs x fun v => outs arcs v arcs.length, b⟩ := by
  intro e b he
  have hle := rowsB_leH (N := N) (L := fun v => outs arcs v arcs.length) (l := [])
  rw [yJ] at hle
  unfold hp27 wB
  simp -implicitDefEqProofs only [rX,↓reduceIte,resP,tupV,leH,leB,leV,leVs,keepP,liveP,wfB,wfV,wfL,Nat.reduceLeDiff,cxN,he,retP_isA,eq_true hle,eq_true rowsB_wf,eq_true rowsS_wf]
 refine ⟨⟨⟨by omega, by omega, by omega⟩, ⟨by omega, by omega, by omega⟩, fun hm => ?_⟩, ⟨by omega, by omega, by omega⟩, ⟨by omega, by omega, by omega⟩, fun hm => ?_⟩
 all_goals
  refine loopP_ghost (.virt N 1 (by decide) (.nilW 2 1 _ (rowsS N fun v => outs arcs v 0) rfl hnil (.refl _))) (pat27 N arcs x) (fun k => k ≤ arcs.length) (fun k => arcs.length - k) 0 (yO _) ?_ (body27 N arcs x hV (fun e b he => hfin e b he))
  unfold pat27 hp27 wB
  rw [e0]
  have hle := rowsB_leH (N := N) (L := fun v => outs arcs v 0) (l := [])
  rw [yJ, e0] at hle
  have hwf := fun q => rowsB_wf (N := N) (L := fun v => outs arcs v 0) (q := q)
  rw [e0] at hwf
  have hws := fun a b c d f => rowsS_wf (N := N) (L := fun v => outs arcs v 0) (a := a) (b := b) (c := c) (d := d) (f := f)
  rw [e0] at hws
  simp -implicitDefEqProofs only [rX,↓reduceIte,Nat.reduceEqDiff,leE,leH,leB,leV,leVs,keepP,liveP,wfE,wfB,wfV,wfL,yC,eq_true hle,fun q => eq_true (hwf q),fun a b c d f => eq_true (hws a b c d f)]
  rfl
theorem rowsS_give {N : Nat} {L : Nat → List Nat} {a b c d f : Blk} : (rowsS N L).map (gvL (fun k => decide (5 ≤ k)) (a :: b :: c :: d :: f :: rowsB N L)) = (yP N).map fun (v : Nat) => [.ro 1 (encR (L v))] := by
 apply yS
 ·simp [rowsS]
 ·intro v h1 h2
  have hv : v < N := by simpa using h2
  rw [yT, rowsS_get]
  have hb : blk (a :: b :: c :: d :: f :: rowsB N L) (v + 5) = .arr 1 (encR (L v)) := by
   unfold blk
   have := rowsB_in (L := L) (l := []) hv
   rw [yJ] at this
   rw [yF, get5, this]; rfl
  simp only [gvL, gvV, hb]
  have : yE (L v).length (encR (L v)) = encR (L v) := yI (by rw [encR_len]; omega)
  simp [encR_len, this]
theorem ok63 (N : Nat) (arcs : List Arc) (x : List Int) (hV : Val N arcs) : OkN Try.prog 63 [net N arcs, .sl 0 0 x.length] [.arr 1 (x.map encI)] [] (IsA (.ptr 4 0 0) [.arr 1 (x.map encI), .dead, .arv 1 (outR arcs N), .arr 1 (yA N (encI 0)), wB N x.length arcs 0 2 3]) := by
 refine ⟨(raw27 N arcs x hV).1, Fn_ghostN [0] (by simp) (by simp) (raw27 N arcs x hV).2 ?_⟩
 rintro r hs ⟨rfl, rfl⟩
 refine ⟨by simp [keepP, liveP, hp27], _, _, ⟨rfl, rfl⟩, by simp, ?_⟩
 refine ⟨_, .give (fun k => decide (5 ≤ k)) (by simp) (.refl _), ?_⟩
 have hg := fun a b c d f => rowsS_give (N := N) (L := fun v => outs arcs v arcs.length) (a := a) (b := b) (c := c) (d := d) (f := f)
 have hO : ((yP N).map fun (v : Nat) => [V.ro 1 (encR (outs arcs v arcs.length))]) = outR arcs N := rfl
 unfold hp27 wB
 simp only [St.give, gvH, gvB, gvE, gvV]
 simp -implicitDefEqProofs only [rX,↓reduceIte,Nat.reduceAdd,leE,leH,leB,leV,leVs,keepP,liveP,wfE,wfB,wfV,wfL,Nat.reduceLeDiff,gvL,gvV,hg,hO,outR_wfT,Nat.reduceLeDiff,decide_false]
end Go.Fx.P.K
namespace Go.Fx.P.K
open Go Go.Fx Go.Proofs
set_option maxRecDepth 20000
theorem encN_0 (i : Nat) : (encN i)[0]? = some (.i i) := rfl
def roomOf (arcs : List Arc) (x : List Int) (v k : Nat) : Int := if (gA arcs k).from_ = v then (gA arcs k).cap - x.getD k 0 else x.getD k 0
def wayOf (arcs : List Arc) (x : List Int) (v k : Nat) : V :=
 if (gA arcs k).from_ = v then .agg [.i k, .i (gA arcs k).to, .i ((gA arcs k).cap - x.getD k 0), .i (gA arcs k).cost, .b false]
 else .agg [.i k, .i (gA arcs k).from_, .i (x.getD k 0), .i (-(gA arcs k).cost), .b true]
def wayC (arcs : List Arc) (x : List Int) (v k : Nat) : List V :=
 if (gA arcs k).from_ = v then [.i k, .i (gA arcs k).to, .i ((gA arcs k).cap - x.getD k 0), .i (gA arcs k).cost, .b false]
 else [.i k, .i (gA arcs k).from_, .i (x.getD k 0), .i (-(gA arcs k).cost), .b true]
theorem enc_wf {a : Arc} {q : List Blk} : wfL q a.enc := by simp [Arc.enc, wfL, wfV]
structure EI (arcs : List Arc) (v k a b i : Nat) (e : Env) : Prop where
 e0 : get e 0 = .itr k
 e1 : get e 1 = .ptr a 0 0
 e2 : get e 2 = .ptr b 0 0
 e14 : get e 14 = .ro 1 (encR (outs arcs v arcs.length))
 e15 : get e 15 = .i (outs arcs v arcs.length).length
 e16 : get e 16 = .i i
 e65 : get e 65 = .b true
structure ItH {G : Type} (hp : G → List Blk) (fl : G → List Int) (L N v : Nat) (arcs : List Arc) (k a b w fb ob pb : Nat) (fx : List Nat) : Prop where
 hV : Val N arcs
 hv : v < N
 len : ∀ g, (hp g).length = L
 ha : ∀ g tl, (hp g ++ tl)[a]? = some (.var [.ptr w 0 0])
 hb : ∀ g tl, (hp g ++ tl)[b]? = some (.var [.i v])
 hw : ∀ g tl, (hp g ++ tl)[w]? = some (wB N arcs.length arcs fb ob pb)
 hf : ∀ g tl, (hp g ++ tl)[fb]? = some (.arr 1 ((fl g).map encI))
 ho : ∀ g tl, (hp g ++ tl)[ob]? = some (.arv 1 (outR arcs N))
 kp : ∀ g, keepP fx (hp g)
 wf : ∀ g, wfB (hp g) (hp g)
 lk : ∀ g, ∃ t e, (hp g)[k]? = some (.rcd t e)
 fk : ∀ g, (fl g).length = arcs.length ∧ ∀ j, 0 ≤ (fl g).getD j 0 ∧ (fl g).getD j 0 ≤ 1073741824
theorem leH_app : ∀ (h l : List Blk), leH (h ++ l) h
 | [], _ => by unfold leH; trivial
 | b :: h, l => ⟨leB_refl b, leH_app h l⟩
abbrev pat50 {G : Type} (hp : G → List Blk) (arcs : List Arc) (v k a b : Nat) (g : Nat × G) : St :=
 ⟨[(16, .i g.1), (15, .i (outs arcs v arcs.length).length), (14, .ro 1 (encR (outs arcs v arcs.length))), (2, .ptr b 0 0), (1, .ptr a 0 0), (0, .itr k)], hp g.2, 0⟩
section
variable {G : Type} {hp : G → List Blk} {fl : G → List Int} {L N v : Nat} {arcs : List Arc} {k a b w fb ob pb : Nat} {fx : List Nat} {Y : Yt} {K : List Blk → Prop} {Inv : Nat → G → Prop}
theorem outs_in {i : Nat} (h : i < (outs arcs v arcs.length).length) : (outs arcs v arcs.length)[i] < arcs.length ∧ ((gA arcs (outs arcs v arcs.length)[i]).from_ = v ∨ (gA arcs (outs arcs v arcs.length)[i]).to = v) := by
 have := yG h
 unfold outs at this
 rw [List.mem_filter, vL, decide_eq_true_eq] at this
 exact this
theorem body50 (H : ItH hp fl L N v arcs k a b w fb ob pb fx)
  (hskip : ∀ i g (hi : i < (outs arcs v arcs.length).length), Inv i g → roomOf arcs (fl g) v (outs arcs v arcs.length)[i] ≤ 0 → Inv (i + 1) g)
  (hY : ∀ i g (hi : i < (outs arcs v arcs.length).length), Inv i g → 0 < roomOf arcs (fl g) v (outs arcs v arcs.length)[i] → ∀ (e : Env) (bb : Nat) (Z : V → St → Prop), EI arcs v k a b i e →
   (∀ e' g' tl, EI arcs v k a b i e' → Inv (i + 1) g' → Z (.b true) ⟨e', hp g' ++ tl, bb⟩) → (∀ e' hh, EI arcs v k a b i e' → K hh → Z (.b false) ⟨e', hh, bb⟩) → Y [wayOf arcs (fl g) v (outs arcs v arcs.length)[i]] ⟨e, hp g ++ [.var (gA arcs (outs arcs v arcs.length)[i]).enc, .var (wayC arcs (fl g) v (outs arcs v arcs.length)[i])], bb⟩ Z)
  (hK : ∀ g, Inv (outs arcs v arcs.length).length g → K (hp g))
  (g : Nat × G) (hg : g.1 ≤ (outs arcs v arcs.length).length ∧ Inv g.1 g.2) :
  aw ⟨C0 Try.prog, fx, [], I0 Try.prog, fun k' xs s Z => k' = k ∧ Y xs s Z, none⟩ c108l0 (fun s' => ∃ g' : Nat × G, ((g'.1 ≤ (outs arcs v arcs.length).length ∧ Inv g'.1 g'.2) ∧ (outs arcs v arcs.length).length - g'.1 < (outs arcs v arcs.length).length - g.1) ∧ leS fx s' (pat50 hp arcs v k a b g'))
   (fun j s' => if j = 0 then K s'.h else False) (fun s => K s.h) (pat50 hp arcs v k a b g) := by
 obtain ⟨i, g⟩ := g
 obtain ⟨hi, hI⟩ := hg
 simp only at hi hI
 have hL := H.hV.hl
 have ha := H.ha g
 have hb := H.hb g
 have hw := H.hw g
 have hf := H.hf g
 have ho := H.ho g
 have hlen := H.len g
 have hk0 := hK g
 have go : ∀ j tl, (hp g ++ tl)[L + j]? = tl[j]? := fun j tl => by
  rw [uD (by omega), hlen]; congr 1; omega
 have go0 : ∀ tl, (hp g ++ tl)[L]? = tl[0]? := go 0
 have gs : ∀ j tl B, (hp g ++ tl).set (L + j) B = hp g ++ tl.set j B := fun j tl B => by
  rw [uE _ _ (by omega), hlen]; congr 2; omega
 have gs0 : ∀ tl B, (hp g ++ tl).set L B = hp g ++ tl.set 0 B := gs 0
 have a0 := ha []
 have b0 := hb []
 have w0 := hw []
 have f0 := hf []
 have o0 := ho []
 rw [yJ] at a0 b0 w0 f0 o0
 generalize hrow : outs arcs v arcs.length = row at *
 unfold c108l0 pat50
 rcases yX i row.length with hi1 | hi1
 ·have hd : decide ((i : Int) < (row.length : Int)) = true := decide_eq_true (by omega)
  have hin : row[i] < arcs.length ∧ ((gA arcs row[i]).from_ = v ∨ (gA arcs row[i]).to = v) := by have := outs_in (v := v) (arcs := arcs) (i := i) (by rw [hrow]; exact hi1); simp only [hrow] at this; exact this
  have hga : gA arcs row[i] = arcs[row[i]]'hin.1 := gA_at hin.1
  simp -implicitDefEqProofs only [rX,↓rY,rZ,rdK,ofConst,cells?,splice,↓reduceIte,Nat.reduceEqDiff,arrSz,Nat.reduceAdd,reduceCtorEq,freshP,buildP,leE,liveP,wfE,wfV,isC,Nat.reduceLeDiff,hrow,hd,encR,encN_0,hlen,yU,ha,hb,hw,hf,wB,go,go0,gs,gs0]
  have hrk : ((row[i] : Nat) : Int) < arcs.length := by omega
  have hfk := H.fk g
  have hfx : row[i] < (fl g).length := by rw [hfk.1]; exact hin.1
  have hfb := hfk.2 row[i]
  have hva := H.hV.at hin.1
  have hxe : (fl g).getD row[i] 0 = (fl g)[row[i]] := getD_nat hfx
  have hlrow : row.length ≤ 2048 := by rw [← hrow]; exact Nat.le_trans outs_len hL
  rw [hga] at hva
  have hwrap : IntKind.wrap .i64 (-arcs[row[i]].cost) = -arcs[row[i]].cost := wrap_in .i64 _ (by simp only [lo, Fx.hi]; omega)
  rw [hxe] at hfb
  have hroom : roomOf arcs (fl g) v row[i] = if arcs[row[i]].from_ = v then arcs[row[i]].cap - (fl g)[row[i]] else (fl g)[row[i]] := by unfold roomOf; rw [hga, hxe]
  have hway : wayOf arcs (fl g) v row[i] = if arcs[row[i]].from_ = v then .agg [.i row[i], .i arcs[row[i]].to, .i (arcs[row[i]].cap - (fl g)[row[i]]), .i arcs[row[i]].cost, .b false] else .agg [.i row[i], .i arcs[row[i]].from_, .i (fl g)[row[i]], .i (-arcs[row[i]].cost), .b true] := by unfold wayOf; rw [hga, hxe]
  have hwc : wayC arcs (fl g) v row[i] = if arcs[row[i]].from_ = v then [.i row[i], .i arcs[row[i]].to, .i (arcs[row[i]].cap - (fl g)[row[i]]), .i arcs[row[i]].cost, .b false] else [.i row[i], .i arcs[row[i]].from_, .i (fl g)[row[i]], .i (-arcs[row[i]].cost), .b true] := by unfold wayC; rw [hga, hxe]
  have hsk := hskip i g hi1 hI
  have hy := hY i g hi1 hI
  rw [hroom] at hsk hy
  rw [hway, hwc, hga] at hy
  simp only [hwrap]
  refine ⟨⟨by omega, by omega⟩, hi1, ⟨by omega, hrk⟩, hin.1, ⟨by omega, by omega⟩, hfx, by simp only [lo, Fx.hi]; omega, ?_⟩
  have hnext : ∀ (g' : G) (tl : List Blk) (e' : Env), EI arcs v k a b i e' → Inv (i + 1) g' → leS fx ⟨(16, .i ((i : Int) + 1)) :: (71, .i ((i : Int) + 1)) :: (70, .b false) :: (69, .b false) :: (65, .b true) :: (68, .b true) :: e', hp g' ++ tl, 0⟩ (pat50 hp arcs v k a b (i + 1, g')) := by
   intro g' tl e' he' hI'
   have la := H.ha g' []
   have lb := H.hb g' []
   obtain ⟨tk, ek, lk⟩ := H.lk g'
   rw [yJ] at la lb
   have e1 := he'.e0; have e2 := he'.e1; have e3 := he'.e2; have e4 := he'.e14; have e5 := he'.e15
   unfold pat50
   simp -implicitDefEqProofs only [rX,↓reduceIte,Nat.reduceEqDiff,reduceCtorEq,leE,liveP,wfE,wfV,e1,e2,e3,e4,e5,eq_true (leH_app (hp g') tl),eq_true (H.kp g'),eq_true (H.wf g'),la,lb,lk]
   rfl
  by_cases hv : arcs[row[i]].from_ = v
  ·have hb1 : (arcs[row[i]].from_ != (v : Int)) = false := by simpa using hv
   simp only [if_pos hv] at hsk hy
   simp only [hb1, kU]
   simp only [br, decide_eq_true_eq, decide_eq_false_iff_not]
   refine ⟨fun hr => ?_, fun hr => ?_⟩
   ·refine ⟨rfl, ?_⟩
    refine hy hr _ _ _ ⟨rfl, rfl, rfl, by rw [hrow]; rfl, by rw [hrow]; rfl, rfl, rfl⟩ ?_ ?_
    ·intro e' g' tl he' hI'
     simp -implicitDefEqProofs only [rX,↓rY,ofConst,↓reduceIte,Nat.reduceEqDiff,reduceCtorEq,leE,liveP,wfE,wfV,he'.e65,he'.e16]
     refine ⟨by simp only [lo, Fx.hi]; omega, (i + 1, g'), ⟨⟨by show i + 1 ≤ row.length; omega, hI'⟩, by show row.length - (i + 1) < row.length - i; omega⟩, ?_⟩
     have := hnext g' tl e' he' hI'
     unfold pat50 at this
     simp -implicitDefEqProofs only [rX,↓reduceIte,Nat.reduceEqDiff,reduceCtorEq,leE,liveP,wfE,wfV,hrow] at this ⊢
     exact this
    ·intro e' hh he' hK'
     simp -implicitDefEqProofs only [rX,↓rY,↓reduceIte,Nat.reduceEqDiff,he'.e65]
     exact hK'
   ·refine ⟨by simp only [lo, Fx.hi]; omega, (i + 1, g), ⟨⟨by show i + 1 ≤ row.length; omega, hsk (by omega)⟩, by show row.length - (i + 1) < row.length - i; omega⟩, ?_⟩
    obtain ⟨tk, ek, lk⟩ := H.lk g
    simp only [a0, b0, lk]
    exact ⟨rfl, leH_app _ _, H.kp g, ⟨trivial, trivial, trivial⟩, H.wf g⟩
  ·have hb1 : (arcs[row[i]].from_ != (v : Int)) = true := by simpa using hv
   simp only [if_neg hv] at hsk hy
   simp only [hb1, kT]
   simp only [br, decide_eq_true_eq, decide_eq_false_iff_not]
   refine ⟨⟨by omega, hrk⟩, hfx, fun hr => ?_, fun hr => ?_⟩
   ·refine ⟨rfl, ?_⟩
    refine hy hr _ _ _ ⟨rfl, rfl, rfl, by rw [hrow]; rfl, by rw [hrow]; rfl, rfl, rfl⟩ ?_ ?_
    ·intro e' g' tl he' hI'
     simp -implicitDefEqProofs only [rX,↓rY,ofConst,↓reduceIte,Nat.reduceEqDiff,reduceCtorEq,leE,liveP,wfE,wfV,he'.e65,he'.e16]
     refine ⟨by simp only [lo, Fx.hi]; omega, (i + 1, g'), ⟨⟨by show i + 1 ≤ row.length; omega, hI'⟩, by show row.length - (i + 1) < row.length - i; omega⟩, ?_⟩
     have := hnext g' tl e' he' hI'
     unfold pat50 at this
     simp -implicitDefEqProofs only [rX,↓reduceIte,Nat.reduceEqDiff,reduceCtorEq,leE,liveP,wfE,wfV,hrow] at this ⊢
     exact this
    ·intro e' hh he' hK'
     simp -implicitDefEqProofs only [rX,↓rY,↓reduceIte,Nat.reduceEqDiff,he'.e65]
     exact hK'
   ·refine ⟨by simp only [lo, Fx.hi]; omega, (i + 1, g), ⟨⟨by show i + 1 ≤ row.length; omega, hsk (by omega)⟩, by show row.length - (i + 1) < row.length - i; omega⟩, ?_⟩
    obtain ⟨tk, ek, lk⟩ := H.lk g
    simp only [a0, b0, lk]
    exact ⟨rfl, leH_app _ _, H.kp g, ⟨trivial, trivial, trivial⟩, H.wf g⟩
 ·have hd : decide ((i : Int) < (row.length : Int)) = false := decide_eq_false (by omega)
  have hie : i = row.length := by omega
  subst hie
  have := hk0 (by rw [← hrow] at *; exact hI)
  simp -implicitDefEqProofs only [rX,↓rY,↓reduceIte,Nat.reduceEqDiff,hd,hrow]
  first | exact this | simpa using this
theorem it108 (H : ItH hp fl L N v arcs k a b w fb ob pb fx)
  (hskip : ∀ i g (hi : i < (outs arcs v arcs.length).length), Inv i g → roomOf arcs (fl g) v (outs arcs v arcs.length)[i] ≤ 0 → Inv (i + 1) g)
  (hY : ∀ i g (hi : i < (outs arcs v arcs.length).length), Inv i g → 0 < roomOf arcs (fl g) v (outs arcs v arcs.length)[i] → ∀ (e : Env) (bb : Nat) (Z : V → St → Prop), EI arcs v k a b i e →
   (∀ e' g' tl, EI arcs v k a b i e' → Inv (i + 1) g' → Z (.b true) ⟨e', hp g' ++ tl, bb⟩) → (∀ e' hh, EI arcs v k a b i e' → K hh → Z (.b false) ⟨e', hh, bb⟩) → Y [wayOf arcs (fl g) v (outs arcs v arcs.length)[i]] ⟨e, hp g ++ [.var (gA arcs (outs arcs v arcs.length)[i]).enc, .var (wayC arcs (fl g) v (outs arcs v arcs.length)[i])], bb⟩ Z)
  (hK : ∀ g, Inv (outs arcs v arcs.length).length g → K (hp g)) (g : G) (hg : Inv 0 g) :
  I0 Try.prog 108 [.itr k, .ptr a 0 0, .ptr b 0 0] fx k Y (hp g) K := by
 refine itN_of pol fx lw108 (by simp) ?_
 have hL := H.hV.hl
 have hlen := H.len g
 have a0 := H.ha g []
 have b0 := H.hb g []
 have w0 := H.hw g []
 have o0 := H.ho g []
 rw [yJ] at a0 b0 w0 o0
 obtain ⟨tk, ek, lk⟩ := H.lk g
 have hv := H.hv
 have hg2 : v < (outR arcs N).length := by rw [outR_len]; exact hv
 have hlrow : (outs arcs v arcs.length).length ≤ 2048 := Nat.le_trans outs_len hL
 unfold c108
 simp -implicitDefEqProofs only [rX,↓rY,ofConst,↓reduceIte,Nat.reduceEqDiff,arrSz,Nat.reduceAdd,reduceCtorEq,args0,a0,b0,w0,o0,wB,outR_len,outR_get]
 refine ⟨by omega, hv, fun _ => ?_⟩
 refine loopP_intro (pat50 hp arcs v k a b) (fun g => g.1 ≤ (outs arcs v arcs.length).length ∧ Inv g.1 g.2) (fun g => (outs arcs v arcs.length).length - g.1) (0, g) ⟨yO _, hg⟩ ?_ (body50 H hskip hY hK)
 unfold pat50
 simp -implicitDefEqProofs only [rX,↓reduceIte,Nat.reduceEqDiff,reduceCtorEq,leE,liveP,wfE,wfV,a0,b0,lk,yC,eq_true (H.kp g),eq_true (H.wf g),eq_true (leH_refl (hp g)),encR]
end
end Go.Fx.P.K
namespace Go.Fx.Lb
theorem nodup_le : ∀ (N : Nat) (l : List Nat), l.Nodup → (∀ x ∈ l, x < N) → l.length ≤ N
 | 0, l, _, h => by
  cases l with
  | nil => simp
  | cons x r => exact absurd (h x (by simp)) (by omega)
 | N + 1, l, hn, h => by
  have h1 : (l.erase N).Nodup := hn.erase N
  have h2 : ∀ x ∈ l.erase N, x < N := by
   intro x hx
   have h3 := h x (List.mem_of_mem_erase hx)
   have h4 : x ≠ N := fun e => by subst e; exact (hn.mem_erase_iff.1 hx).1 rfl
   omega
  have h5 := nodup_le N _ h1 h2
  have h6 : l.length ≤ (l.erase N).length + 1 := by
   rw [List.length_erase]; split <;> omega
  omega
def upd {α : Type} (f : Nat → α) (v : Nat) (x : α) : Nat → α := fun u => if u = v then x else f u
theorem upd_at {α : Type} (f : Nat → α) (v : Nat) (x : α) : upd f v x v = x := by simp [upd]
theorem upd_ne {α : Type} (f : Nat → α) {v u : Nat} (x : α) (h : u ≠ v) : upd f v x u = f u := by simp [upd, h]
structure Gr where
 N : Nat
 s : Nat
 src : Nat → Nat
 dst : Nat → Nat
 c : Nat → Int
 res : Nat → Prop
 π : Nat → Int
 hs : s < N
 hN : ∀ i, res i → src i < N ∧ dst i < N
 hπ : ∀ i, res i → 0 ≤ c i + π (src i) - π (dst i)
section
variable (G : Gr)
def PR : Nat → List Nat → Prop
 | v, [] => v = G.s
 | v, i :: r => G.res i ∧ G.dst i = v ∧ PR (G.src i) r
def cs : List Nat → Int
 | [] => 0
 | i :: r => G.c i + cs r
def vs : Nat → List Nat → List Nat
 | v, [] => [v]
 | v, i :: r => v :: vs (G.src i) r
def Dom (D : Nat → Int) : Nat → List Nat → Prop
 | v, [] => D v ≤ 0
 | v, i :: r => D v ≤ cs G (i :: r) ∧ Dom D (G.src i) r
variable {G}
theorem vs_len : ∀ (v : Nat) (r : List Nat), (vs G v r).length = r.length + 1
 | _, [] => rfl
 | v, i :: r => by simp [vs, vs_len (G.src i) r]
theorem vs_lt : ∀ (v : Nat) (r : List Nat), PR G v r → ∀ u ∈ vs G v r, u < G.N
 | v, [], h, u, hu => by
  simp only [vs, yN] at hu
  subst hu
  rw [show u = G.s from h]; exact G.hs
 | v, i :: r, h, u, hu => by
  rcases vQ.1 hu with rfl | hu
  ·rw [← h.2.1]; exact (G.hN i h.1).2
  ·exact vs_lt _ r h.2.2 u hu
theorem Dom.le {D D' : Nat → Int} (hle : ∀ u, D' u ≤ D u) : ∀ {v : Nat} {r : List Nat}, Dom G D v r → Dom G D' v r
 | v, [], h => yY (hle v) h
 | v, i :: r, h => ⟨yY (hle v) h.1, Dom.le hle h.2⟩
theorem dom_in {D : Nat → Int} {v : Nat} : ∀ {u : Nat} {r : List Nat}, PR G u r → Dom G D u r → v ∈ vs G u r → D v + (G.π u - G.π v) ≤ cs G r
 | u, [], _, hd, hv => by
  simp only [vs, yN] at hv
  subst hv
  have : D v ≤ 0 := hd
  simp only [cs]; omega
 | u, i :: r, hp, hd, hv => by
  rcases vQ.1 hv with rfl | hv
  ·have := hd.1; omega
  ·have ih := dom_in hp.2.2 hd.2 hv
   have := G.hπ i hp.1
   have hdst := hp.2.1
   rw [hdst] at this
   simp only [cs]; omega
theorem pr_cost : ∀ {u : Nat} {r : List Nat}, PR G u r → 0 ≤ cs G r + G.π G.s - G.π u
 | u, [], h => by rw [show u = G.s from h]; simp only [cs]; omega
 | u, i :: r, h => by
  have ih := pr_cost h.2.2
  have := G.hπ i h.1
  rw [h.2.1] at this
  simp only [cs]; omega
structure Wp (G : Gr) (D : Nat → Int) (v : Nat) (r : List Nat) : Prop where
 pr : PR G v r
 co : cs G r = D v
 nd : (vs G v r).Nodup
 dm : Dom G D v r
theorem Wp.len {D : Nat → Int} {v : Nat} {r : List Nat} (h : Wp G D v r) : r.length < G.N := by
 have := nodup_le G.N _ h.nd (vs_lt v r h.pr)
 rw [vs_len] at this
 omega
theorem cs_bound {B C : Int} (hB : ∀ i, G.res i → B ≤ G.c i ∧ G.c i ≤ C) : ∀ {v : Nat} {r : List Nat}, PR G v r → (r.length : Int) * B ≤ cs G r ∧ cs G r ≤ (r.length : Int) * C
 | v, [], _ => by simp [cs]
 | v, i :: r, h => by
  have ih := cs_bound hB h.2.2
  have := hB i h.1
  simp only [cs, yK]
  have e1 : ((r.length + 1 : Nat) : Int) * B = (r.length : Int) * B + B := by rw [yZ, vA]; simp
  have e2 : ((r.length + 1 : Nat) : Int) * C = (r.length : Int) * C + C := by rw [yZ, vA]; simp
  rw [e1, e2]
  omega
structure Lab (G : Gr) (F : Int) (D : Nat → Int) : Prop where
 h0 : D G.s = 0
 hw : ∀ v, v < G.N → D v = F ∨ (D v < F ∧ ∃ r, Wp G D v r)
theorem Lab.start {F : Int} (hF : 0 < F) : Lab G F (fun v => if v = G.s then 0 else F) := by
 refine ⟨by simp, fun v _ => ?_⟩
 by_cases h : v = G.s
 ·right
  simp only [h, if_true]
  exact ⟨hF, [], rfl, by simp [cs], by simp [vs], by simp [Dom]⟩
 ·left; simp [h]
theorem Lab.relax {F : Int} {D : Nat → Int} (h : Lab G F D) {i : Nat} (hr : G.res i) (hu : D (G.src i) < F) (hlt : D (G.src i) + G.c i < D (G.dst i)) : Lab G F (upd D (G.dst i) (D (G.src i) + G.c i)) ∧ G.dst i ≠ G.s := by
 obtain ⟨hsN, hdN⟩ := G.hN i hr
 obtain ⟨ru, hWu⟩ : ∃ r, Wp G D (G.src i) r := by
  rcases h.hw _ hsN with he | ⟨_, h⟩
  ·omega
  ·exact h
 have hπi := G.hπ i hr
 have hle : ∀ u, upd D (G.dst i) (D (G.src i) + G.c i) u ≤ D u := by
  intro u
  unfold upd
  split
  ·rename_i e; rw [e]; omega
  ·exact yD _
 have hds : G.dst i ≠ G.s := by
  intro e
  have h1 := pr_cost hWu.pr
  rw [hWu.co] at h1
  rw [e] at hπi hlt
  rw [h.h0] at hlt
  omega
 have hnot : G.dst i ∉ vs G (G.src i) ru := by
  intro hm
  have := dom_in hWu.pr hWu.dm hm
  rw [hWu.co] at this
  omega
 have hdF : D (G.dst i) ≤ F := by
  rcases h.hw _ hdN with he | ⟨h1, _⟩ <;> omega
 refine ⟨⟨by rw [upd_ne _ _ (Ne.symm hds)]; exact h.h0, fun v hv => ?_⟩, hds⟩
 by_cases e : v = G.dst i
 ·subst e
  right
  rw [upd_at]
  refine ⟨by omega, i :: ru, ⟨hr, rfl, hWu.pr⟩, ?_, ?_, ?_⟩
  ·simp only [cs, upd_at, hWu.co]; omega
  ·exact List.nodup_cons.2 ⟨hnot, hWu.nd⟩
  ·refine ⟨?_, hWu.dm.le hle⟩
   rw [upd_at]; simp only [cs, hWu.co]; omega
 ·rw [upd_ne _ _ e]
  rcases h.hw v hv with he | ⟨h1, r, hW⟩
  ·exact .inl he
  ·exact .inr ⟨h1, r, hW.pr, by rw [upd_ne _ _ e]; exact hW.co, hW.nd, hW.dm.le hle⟩
def Cl (G : Gr) (F : Int) (D : Nat → Int) : Prop := ∀ i, G.res i → D (G.src i) < F → D (G.dst i) ≤ D (G.src i) + G.c i
theorem cl_path {F : Int} {D : Nat → Int} (h0 : D G.s = 0) (hF : 0 < F) (hc : Cl G F D) (hfin : ∀ i, G.res i → D (G.src i) < F → D (G.dst i) < F) : ∀ {v : Nat} {r : List Nat}, PR G v r → D v ≤ cs G r ∧ D v < F
 | v, [], h => by rw [show v = G.s from h, h0]; simp only [cs]; omega
 | v, i :: r, h => by
  have ih := cl_path h0 hF hc hfin h.2.2
  have h1 := hc i h.1 ih.2
  have h2 := hfin i h.1 ih.2
  rw [h.2.1] at h1 h2
  simp only [cs]; omega
def Tight (G : Gr) (D : Nat → Int) : Nat → List Nat → Prop
 | _, [] => True
 | _, i :: r => D (G.dst i) = D (G.src i) + G.c i ∧ Tight G D (G.src i) r
theorem tight_of {F : Int} {D : Nat → Int} (h0 : D G.s = 0) (hF : 0 < F) (hc : Cl G F D) (hfin : ∀ i, G.res i → D (G.src i) < F → D (G.dst i) < F) : ∀ {v : Nat} {r : List Nat}, PR G v r → cs G r = D v → Tight G D v r
 | v, [], _, _ => trivial
 | v, i :: r, h, he => by
  have h1 := cl_path h0 hF hc hfin h.2.2
  have h2 := hc i h.1 h1.2
  have h3 : cs G (i :: r) = G.c i + cs G r := rfl
  have hd := h.2.1
  rw [h3] at he
  rw [hd] at h2
  refine ⟨by rw [hd]; omega, tight_of h0 hF hc hfin h.2.2 (by omega)⟩
end
end Go.Fx.Lb
namespace Go.Fx.P.K
open Go Go.Fx Go.Proofs
def wsrc (arcs : List Arc) (i : Nat) : Nat := if i % 2 = 0 then (gA arcs (i / 2)).from_.toNat else (gA arcs (i / 2)).to.toNat
def wdst (arcs : List Arc) (i : Nat) : Nat := if i % 2 = 0 then (gA arcs (i / 2)).to.toNat else (gA arcs (i / 2)).from_.toNat
def wcst (arcs : List Arc) (i : Nat) : Int := if i % 2 = 0 then (gA arcs (i / 2)).cost else -(gA arcs (i / 2)).cost
def wrm (arcs : List Arc) (x : List Int) (i : Nat) : Int := if i % 2 = 0 then (gA arcs (i / 2)).cap - x.getD (i / 2) 0 else x.getD (i / 2) 0
def wres (arcs : List Arc) (x : List Int) (i : Nat) : Prop := i / 2 < arcs.length ∧ 0 < wrm arcs x i
def rcst (arcs : List Arc) (p : Nat → Int) (i : Nat) : Int := wcst arcs i + p (wsrc arcs i) - p (wdst arcs i)
def NN (arcs : List Arc) (x : List Int) (p : Nat → Int) : Prop := ∀ i, wres arcs x i → 0 ≤ rcst arcs p i
theorem w_in {N : Nat} {arcs : List Arc} (hV : Val N arcs) {i : Nat} (h : i / 2 < arcs.length) : wsrc arcs i < N ∧ wdst arcs i < N ∧ wsrc arcs i ≠ wdst arcs i := by
 have := hV.at h
 unfold wsrc wdst
 split <;> omega
theorem wcst_b {N : Nat} {arcs : List Arc} (hV : Val N arcs) {i : Nat} (h : i / 2 < arcs.length) : -1048576 ≤ wcst arcs i ∧ wcst arcs i ≤ 1048576 := by
 have := hV.at h
 unfold wcst
 split <;> omega
theorem nn_slack {arcs : List Arc} {x : List Int} {p : Nat → Int} : NN arcs x p ↔ Slack arcs x p := by
 constructor
 ·intro h k hk
  refine ⟨fun h1 => ?_, fun h1 => ?_⟩
  ·apply Classical.byContradiction
   intro h2
   have := h (2 * k) ⟨by omega, by
    unfold wrm
    rw [if_pos (by omega), show 2 * k / 2 = k by omega]; omega⟩
   unfold rcst wcst wsrc wdst at this
   rw [if_pos (by omega), if_pos (by omega), if_pos (by omega), show 2 * k / 2 = k by omega] at this
   omega
  ·apply Classical.byContradiction
   intro h2
   have := h (2 * k + 1) ⟨by omega, by
    unfold wrm
    rw [if_neg (by omega), show (2 * k + 1) / 2 = k by omega]; omega⟩
   unfold rcst wcst wsrc wdst at this
   rw [if_neg (by omega), if_neg (by omega), if_neg (by omega), show (2 * k + 1) / 2 = k by omega] at this
   omega
 ·intro h i ⟨hi, hr⟩
  have := h _ hi
  unfold wrm at hr
  unfold rcst wcst wsrc wdst
  split at hr
  ·rename_i h0
   rw [if_pos h0, if_pos h0, if_pos h0]
   have := this.1
   apply Classical.byContradiction
   intro h3
   have := this (by omega)
   omega
  ·rename_i h0
   rw [if_neg h0, if_neg h0, if_neg h0]
   have := this.2
   apply Classical.byContradiction
   intro h3
   have := this (by omega)
   omega
def wix (arcs : List Arc) (v k : Nat) : Nat := if (gA arcs k).from_ = v then 2 * k else 2 * k + 1
theorem wix_half {arcs : List Arc} {v k : Nat} : wix arcs v k / 2 = k := by unfold wix; split <;> omega
theorem wix_src {N : Nat} {arcs : List Arc} (hV : Val N arcs) {v k : Nat} (hk : k < arcs.length) (h : (gA arcs k).from_ = v ∨ (gA arcs k).to = v) : wsrc arcs (wix arcs v k) = v := by
 have := hV.at hk
 unfold wsrc
 rw [wix_half]
 unfold wix
 split
 ·rw [if_pos (by omega)]; omega
 ·rw [if_neg (by omega)]; omega
theorem wix_room {arcs : List Arc} {x : List Int} {v k : Nat} : wrm arcs x (wix arcs v k) = roomOf arcs x v k := by
 unfold wrm roomOf
 rw [wix_half]
 unfold wix
 split
 ·rw [if_pos (by omega)]
 ·rw [if_neg (by omega)]
theorem wix_all {N : Nat} {arcs : List Arc} (hV : Val N arcs) {i v : Nat} (hi : i / 2 < arcs.length) (hs : wsrc arcs i = v) : i / 2 ∈ outs arcs v arcs.length ∧ wix arcs v (i / 2) = i := by
 have := hV.at hi
 unfold wsrc at hs
 constructor
 ·unfold outs
  rw [List.mem_filter, vL, decide_eq_true_eq]
  refine ⟨hi, ?_⟩
  split at hs
  ·left; omega
  ·right; omega
 ·unfold wix
  split at hs
  ·rw [if_pos (by omega)]; omega
  ·rw [if_neg (by omega)]; omega
def grD (N : Nat) (arcs : List Arc) (x : List Int) (p : Nat → Int) (s : Nat) (hV : Val N arcs) (hs : s < N) (hn : NN arcs x p) : Lb.Gr :=
 ⟨N, s, wsrc arcs, wdst arcs, rcst arcs p, wres arcs x, fun _ => 0, hs, fun i h => ⟨(w_in hV h.1).1, (w_in hV h.1).2.1⟩, fun i h => by have := hn i h; show 0 ≤ rcst arcs p i + 0 - 0; omega⟩
def far : Int := 4611686018427387904
def KB : Int := 67711795200
def cn (d : Int) : Int := if d < far then KB + 1 - d else 0
structure DI (N : Nat) (G : Lb.Gr) (n : Nat) (ks vs D : List Int) : Prop where
 lab : Lb.Lab G far (fun u => D.getD u 0)
 len : D.length = N
 ent : ∀ a b, EntH n ks vs a b → (0 ≤ b ∧ b < N) ∧ (0 ≤ a ∧ a ≤ KB) ∧ D.getD b.toNat 0 ≤ a
 cnt : (n : Int) ≤ sm (fun u => cn (D.getD u 0)) N
 h1 : n ≤ ks.length
 h2 : n ≤ vs.length
def clN (G : Lb.Gr) (D : List Int) (u : Nat) : Prop := ∀ i, G.res i → G.src i = u → D.getD (G.dst i) 0 ≤ D.getD u 0 + G.c i
def Pend (N : Nat) (G : Lb.Gr) (n : Nat) (ks vs D : List Int) (Q : Nat → Prop) : Prop := ∀ u, u < N → Q u → D.getD u 0 < far → EntH n ks vs (D.getD u 0) u ∨ clN G D u
section
variable {N : Nat} {arcs : List Arc} {x : List Int} {p : Nat → Int} {s : Nat} {hV : Val N arcs} {hs : s < N} {hn : NN arcs x p}
theorem lab_b (hN : N ≤ 64) (hp : ∀ j, 0 ≤ p j ∧ p j ≤ 1073741824) {D : Nat → Int} (h : Lb.Lab (grD N arcs x p s hV hs hn) far D) {u : Nat} (hu : u < N) : 0 ≤ D u ∧ (D u = far ∨ D u ≤ KB) := by
 rcases h.hw u hu with he | ⟨_, r, hW⟩
 ·rw [he]; exact ⟨by decide, .inl rfl⟩
 ·have h1 := Lb.cs_bound (G := grD N arcs x p s hV hs hn) (B := 0) (C := 1074790400) (fun i hr => by
   refine ⟨hn i hr, ?_⟩
   have := wcst_b hV hr.1
   have h2 := hp (wsrc arcs i)
   have h3 := hp (wdst arcs i)
   show wcst arcs i + p (wsrc arcs i) - p (wdst arcs i) ≤ _
   omega) hW.pr
  have hl : r.length < N := hW.len
  rw [hW.co] at h1
  have : (r.length : Int) * 1074790400 ≤ 63 * 1074790400 := vB (by omega) (by omega)
  exact ⟨by omega, .inr (by unfold KB; omega)⟩
theorem n_b (hN : N ≤ 64) {D : List Int} (hD : ∀ u, u < N → 0 ≤ D.getD u 0) {n : Nat} (h : (n : Int) ≤ sm (fun u => cn (D.getD u 0)) N) : n ≤ 8796093022207 := by
 have h1 : sm (fun u => cn (D.getD u 0)) N ≤ sm (fun _ => KB + 1) N := sm_le N fun u hu => by
  have := hD u hu
  unfold cn
  split
  ·omega
  ·unfold KB; omega
 have h2 : ∀ m : Nat, sm (fun _ => KB + 1) m = (m : Int) * (KB + 1) := by
  intro m
  induction m with
  | zero => simp [sm]
  | succ m ih =>
   simp only [sm, ih]
   rw [yZ, vA]; simp
 rw [h2] at h1
 have : (N : Int) * (KB + 1) ≤ 64 * (KB + 1) := vB (by omega) (by decide)
 have e : (64 : Int) * (KB + 1) = 4333554892864 := by decide
 omega
theorem sm_upd {g h : Nat → Int} {v : Nat} : ∀ n, v < n → (∀ u, u < n → u ≠ v → g u = h u) → sm g n = sm h n + (g v - h v)
 | 0, hv, _ => by omega
 | n + 1, hv, hh => by
  simp only [sm]
  by_cases e : v = n
  ·subst e
   rw [sm_congr v fun u hu => hh u (by omega) (by omega)]; omega
  ·rw [sm_upd n (by omega) fun u hu hne => hh u (by omega) hne, hh n (by omega) (Ne.symm e)]; omega
end
end Go.Fx.P.K
namespace Go.Fx.P.K
open Go Go.Fx Go.Proofs
theorem getD_set {l : List Int} {i j : Nat} {x : Int} (h : i < l.length) : (l.set i x).getD j 0 = if j = i then x else l.getD j 0 := getD_set0 h
def meas (N n : Nat) (D : List Int) : Nat := 2 * (sm (fun u => D.getD u 0) N).toNat + n
section
variable {N : Nat} {arcs : List Arc} {x : List Int} {p : Nat → Int} {s : Nat} {hV : Val N arcs} {hs : s < N} {hn : NN arcs x p}
theorem DI.nn {n : Nat} {ks vs D : List Int} (hN : N ≤ 64) (hp : ∀ j, 0 ≤ p j ∧ p j ≤ 1073741824) (h : DI N (grD N arcs x p s hV hs hn) n ks vs D) {u : Nat} (hu : u < N) : 0 ≤ D.getD u 0 ∧ (D.getD u 0 = far ∨ D.getD u 0 ≤ KB) := lab_b hN hp h.lab hu
theorem DI.n_le {n : Nat} {ks vs D : List Int} (hN : N ≤ 64) (hp : ∀ j, 0 ≤ p j ∧ p j ≤ 1073741824) (h : DI N (grD N arcs x p s hV hs hn) n ks vs D) : n ≤ 8796093022207 := n_b hN (fun u hu => (h.nn hN hp hu).1) h.cnt
theorem DI.push {n : Nat} {ks vs D ks' vs' : List Int} (hN : N ≤ 64) (hp : ∀ j, 0 ≤ p j ∧ p j ≤ 1073741824) (h : DI N (grD N arcs x p s hV hs hn) n ks vs D) {i : Nat} (hr : wres arcs x i) (hu : D.getD (wsrc arcs i) 0 < far) (hlt : D.getD (wsrc arcs i) 0 + rcst arcs p i < D.getD (wdst arcs i) 0)
  (hq : PushQ n ks vs (D.getD (wsrc arcs i) 0 + rcst arcs p i) (wdst arcs i : Nat) (ks', vs')) :
  DI N (grD N arcs x p s hV hs hn) (n + 1) ks' vs' (D.set (wdst arcs i) (D.getD (wsrc arcs i) 0 + rcst arcs p i)) ∧ meas N (n + 1) (D.set (wdst arcs i) (D.getD (wsrc arcs i) 0 + rcst arcs p i)) < meas N n D := by
 obtain ⟨w1, w2, w3⟩ := w_in hV hr.1
 obtain ⟨hl, hds⟩ := h.lab.relax (i := i) hr hu hlt
 have hdl : wdst arcs i < D.length := by rw [h.len]; exact w2
 have efn : (fun u => (D.set (wdst arcs i) (D.getD (wsrc arcs i) 0 + rcst arcs p i)).getD u 0) = Lb.upd (fun u => D.getD u 0) (wdst arcs i) (D.getD (wsrc arcs i) 0 + rcst arcs p i) := by
  funext u
  rw [getD_set hdl]; rfl
 have hl' : Lb.Lab (grD N arcs x p s hV hs hn) far (fun u => (D.set (wdst arcs i) (D.getD (wsrc arcs i) 0 + rcst arcs p i)).getD u 0) := by rw [efn]; exact hl
 have hnew : 0 ≤ D.getD (wsrc arcs i) 0 + rcst arcs p i := by
  have := (h.nn hN hp w1).1
  have := hn i hr
  omega
 have hold := h.nn hN hp w2
 have hlow : D.getD (wsrc arcs i) 0 + rcst arcs p i < far := by
  rcases hold.2 with e | e
  ·omega
  ·have : KB < far := by decide
   omega
 have hkb : D.getD (wsrc arcs i) 0 + rcst arcs p i ≤ KB := by
  have := lab_b hN hp hl' w2
  rw [getD_set hdl, if_pos rfl] at this
  rcases this.2 with e | e
  ·omega
  ·exact e
 generalize hnv : D.getD (wsrc arcs i) 0 + rcst arcs p i = nv at *
 have hge : ∀ u, (D.set (wdst arcs i) nv).getD u 0 = if u = wdst arcs i then nv else D.getD u 0 := fun u => getD_set hdl
 refine ⟨⟨hl', by rw [vC]; exact h.len, fun a b hab => ?_, ?_, by have := hq.h1; simp only at this; omega, by have := hq.h2; simp only at this; omega⟩, ?_⟩
 ·rw [hge]
  rcases (hq.he a b).1 hab with h1 | ⟨rfl, rfl⟩
  ·obtain ⟨q1, q2, q3⟩ := h.ent a b h1
   refine ⟨q1, q2, ?_⟩
   split
   ·rename_i e; rw [e] at q3; omega
   ·exact q3
  ·refine ⟨⟨by omega, by omega⟩, ⟨hnew, hkb⟩, ?_⟩
   rw [if_pos (by omega)]; exact yD _
 ·have hc := h.cnt
  rw [sm_upd (v := wdst arcs i) (h := fun u => cn (D.getD u 0)) N w2 (fun u _ hne => by simp only [hge, if_neg hne])]
  simp only [hge, if_true]
  have : cn (D.getD (wdst arcs i) 0) + 1 ≤ cn nv := by
   unfold cn
   rw [if_pos hlow]
   split
   ·omega
   ·omega
  omega
 ·unfold meas
  rw [sm_upd (v := wdst arcs i) (h := fun u => D.getD u 0) N w2 (fun u _ hne => by simp only [hge, if_neg hne])]
  simp only [hge, if_true]
  have h1 : 0 ≤ sm (fun u => (D.set (wdst arcs i) nv).getD u 0) N := sm_nonneg N fun u hu => (lab_b hN hp hl' hu).1
  rw [sm_upd (v := wdst arcs i) (h := fun u => D.getD u 0) N w2 (fun u _ hne => by simp only [hge, if_neg hne])] at h1
  simp only [hge, if_true] at h1
  omega
theorem Pend.push {n : Nat} {ks vs D ks' vs' : List Int} {Q : Nat → Prop} {G : Lb.Gr} (h : Pend N G n ks vs D Q) {t : Nat} {nv : Int} (ht : t < D.length) (hlt : nv < D.getD t 0) (hq : PushQ n ks vs nv (t : Nat) (ks', vs')) : Pend N G (n + 1) ks' vs' (D.set t nv) Q := by
 intro u hu hQ hf
 have hge : ∀ u, (D.set t nv).getD u 0 = if u = t then nv else D.getD u 0 := fun u => getD_set ht
 rw [hge] at hf ⊢
 by_cases e : u = t
 ·subst e
  rw [if_pos rfl]
  exact .inl ((hq.he _ _).2 (.inr ⟨rfl, rfl⟩))
 ·rw [if_neg e] at hf ⊢
  rcases h u hu hQ hf with h1 | h1
  ·exact .inl ((hq.he _ _).2 (.inl h1))
  ·right
   intro i hi hsrc
   have := h1 i hi hsrc
   rw [hge, hge, if_neg e]
   split
   ·rename_i e2; rw [e2] at this; omega
   ·exact this
theorem DI.pop {n : Nat} {ks vs D : List Int} {G : Lb.Gr} (h : DI N G n ks vs D) (hn0 : 0 < n) {g : (Int × Int) × List Int × List Int} (hq : PopQ n ks vs g) : DI N G (n - 1) g.2.1 g.2.2 D ∧ meas N (n - 1) D < meas N n D :=
 ⟨⟨h.lab, h.len, fun a b hab => h.ent a b ((hq.he a b).2 (.inl hab)), by have := h.cnt; omega, hq.h1, hq.h2⟩, by unfold meas; omega⟩
theorem Pend.pop {n : Nat} {ks vs D : List Int} {G : Lb.Gr} (h : Pend N G n ks vs D fun _ => True) {g : (Int × Int) × List Int × List Int} (hq : PopQ n ks vs g) : Pend N G (n - 1) g.2.1 g.2.2 D fun u => ¬ (g.1.1 = D.getD u 0 ∧ g.1.2 = u) := by
 intro u hu hQ hf
 rcases h u hu trivial hf with h1 | h1
 ·rcases (hq.he _ _).1 h1 with h2 | ⟨h2, h3⟩
  ·exact .inl h2
  ·exact absurd ⟨h2.symm, h3.symm⟩ hQ
 ·exact .inr h1
theorem Pend.done {n : Nat} {ks vs D : List Int} {G : Lb.Gr} {v : Nat} (h : Pend N G n ks vs D fun u => u ≠ v) (hc : clN G D v) : Pend N G n ks vs D fun _ => True := by
 intro u hu _ hf
 by_cases e : u = v
 ·subst e; exact .inr hc
 ·exact h u hu e hf
structure DistQ (N : Nat) (G : Lb.Gr) (D : List Int) : Prop where
 lab : Lb.Lab G far (fun u => D.getD u 0)
 len : D.length = N
 cl : Lb.Cl G far (fun u => D.getD u 0)
theorem DI.fin {ks vs D : List Int} (h : DI N (grD N arcs x p s hV hs hn) 0 ks vs D) (hP : Pend N (grD N arcs x p s hV hs hn) 0 ks vs D fun _ => True) : DistQ N (grD N arcs x p s hV hs hn) D := by
 refine ⟨h.lab, h.len, fun i hr hf => ?_⟩
 rcases hP (wsrc arcs i) (w_in hV hr.1).1 trivial hf with ⟨j, hj, _⟩ | h1
 ·omega
 ·exact h1 i hr rfl
theorem DI.start {ks vs : List Int} (hq : PushQ 0 [] [] 0 (s : Nat) (ks, vs)) : DI N (grD N arcs x p s hV hs hn) 1 ks vs ((yA N far).set s 0) ∧ Pend N (grD N arcs x p s hV hs hn) 1 ks vs ((yA N far).set s 0) fun _ => True := by
 have hsl : s < (yA N far).length := by simpa using hs
 have hge : ∀ u, u < N → ((yA N far).set s 0).getD u 0 = if u = s then 0 else far := by
  intro u hu
  rw [getD_set hsl]
  split
  ·rfl
  ·rw [yF, yV, if_pos hu]; rfl
 have hlab := Lb.Lab.start (G := grD N arcs x p s hV hs hn) (F := far) (by decide)
 have hent : ∀ a b, EntH 1 ks vs a b → a = 0 ∧ b = s := by
  intro a b h
  rcases (hq.he a b).1 h with ⟨j, hj, _⟩ | h
  ·omega
  ·exact h
 refine ⟨⟨⟨?_, fun v hv => ?_⟩, by simp, fun a b hab => ?_, ?_, by have := hq.h1; simp only at this; omega, by have := hq.h2; simp only at this; omega⟩, fun u hu _ hf => ?_⟩
 ·show ((yA N far).set s 0).getD s 0 = 0
  rw [hge s hs, if_pos rfl]
 ·rw [hge v hv]
  rcases hlab.hw v hv with h1 | ⟨h1, r, hW⟩
  ·exact .inl h1
  ·right
   by_cases e : v = s
   ·subst e
    rw [if_pos rfl]
    refine ⟨by decide, [], rfl, ?_, by simp [Lb.vs], ?_⟩
    ·show (0 : Int) = _
     simp only [hge v hv, if_true]
    ·show ((yA N far).set v 0).getD v 0 ≤ 0
     rw [hge v hv, if_pos rfl]; exact yD _
   ·simp only [show ((grD N arcs x p s hV hs hn).s) = s from rfl, if_neg e] at h1
    exact absurd h1 (vR _)
 ·obtain ⟨rfl, rfl⟩ := hent a b hab
  refine ⟨⟨by omega, by omega⟩, ⟨yD _, by decide⟩, ?_⟩
  rw [yB, hge s hs, if_pos rfl]; exact yD _
 ·have h1 : sm (fun u => if u = s then (1 : Int) else 0) N ≤ sm (fun u => cn (((yA N far).set s 0).getD u 0)) N := by
   refine sm_le N fun u hu => ?_
   rw [hge u hu]
   split
   ·decide
   ·unfold cn; rw [if_neg (by omega)]; exact yD _
  rw [sm_one, if_pos hs] at h1
  simpa using h1
 ·rw [hge u hu] at hf
  left
  split at hf
  ·rename_i e
   subst e
   rw [hge u hu, if_pos rfl]
   exact (hq.he _ _).2 (.inr ⟨rfl, rfl⟩)
  ·exact absurd hf (vR _)
end
end Go.Fx.P.K
namespace Go.Fx.P.K
open Go Go.Fx Go.Proofs
theorem getD_setB {d : List Bool} {i j : Nat} {b : Bool} (h : i < d.length) : (d.set i b).getD j false = if j = i then b else d.getD j false := by
 rw [yF, yF, List.getElem?_set]
 by_cases e : i = j
 ·subst e; simp [h]
 ·rw [if_neg e, if_neg (Ne.symm e)]
theorem valTo_set {arcs : List Arc} {x : List Int} {k : Nat} {v : Int} (u : Int) (hk : k < x.length) : ∀ m, valTo arcs u (x.set k v) m = valTo arcs u x m + (if k < m then (if (gA arcs k).from_ = u then v - x.getD k 0 else 0) - (if (gA arcs k).to = u then v - x.getD k 0 else 0) else 0)
 | 0 => by simp [valTo]
 | m + 1 => by
  have e1 : ∀ y : List Int, valTo arcs u y (m + 1) = valTo arcs u y m + (if (gA arcs m).from_ = u then y.getD m 0 else 0) - (if (gA arcs m).to = u then y.getD m 0 else 0) := fun _ => rfl
  rw [e1, e1, valTo_set u hk m, getD_set hk]
  by_cases e : m = k
  ·subst e
   rw [if_pos rfl, if_neg (Nat.lt_irrefl _), if_pos (Nat.lt_succ_self _)]
   split <;> split <;> omega
  ·rw [if_neg e]
   generalize valTo arcs u x m = V
   generalize (if (gA arcs m).from_ = u then x.getD m 0 else 0) = F
   generalize (if (gA arcs m).to = u then x.getD m 0 else 0) = G
   generalize (if (gA arcs k).from_ = u then v - x.getD k 0 else 0) = A
   generalize (if (gA arcs k).to = u then v - x.getD k 0 else 0) = B
   by_cases e2 : k < m
   ·rw [if_pos e2, if_pos (by omega)]; omega
   ·rw [if_neg e2, if_neg (by omega)]; omega
structure XB (arcs : List Arc) (x : List Int) : Prop where
 hl : x.length = arcs.length
 hb : ∀ k, k < arcs.length → 0 ≤ x.getD k 0 ∧ x.getD k 0 ≤ (gA arcs k).cap
def vd (v : Nat) (n : Int) (w : Nat) : Int := if w = v then n else 0
theorem vd_add {v w : Nat} {a b : Int} : vd v (a + b) w = vd v a w + vd v b w := by unfold vd; split <;> omega
theorem vd_0 {v w : Nat} : vd v 0 w = 0 := by unfold vd; split <;> rfl
structure FI (arcs : List Arc) (x : List Int) (p : Nat → Int) (to : Nat) (d : List Bool) (v : Nat) (n : Int) (x' : List Int) (d' : List Bool) : Prop where
 xb : XB arcs x'
 dl : d'.length = d.length
 val : ∀ w : Nat, valTo arcs w x' arcs.length = valTo arcs w x arcs.length + vd v n w - vd to n w
 tig : ∀ k, k < arcs.length → x'.getD k 0 ≠ x.getD k 0 → rcst arcs p (2 * k) = 0
 mono : ∀ u, d.getD u false = true → d'.getD u false = true
 kept : ∀ k, k < arcs.length → (d.getD (gA arcs k).from_.toNat false = true ∨ d.getD (gA arcs k).to.toNat false = true) → x'.getD k 0 = x.getD k 0
def CLo (arcs : List Arc) (x : List Int) (p : Nat → Int) (to : Nat) (d : List Bool) (u : Nat) : Prop := u ≠ to ∧ ∀ i, wres arcs x i → wsrc arcs i = u → rcst arcs p i = 0 → d.getD (wdst arcs i) false = true
theorem CLo.mono {arcs : List Arc} {x : List Int} {p : Nat → Int} {to u : Nat} {d d' : List Bool} (h : CLo arcs x p to d u) (hm : ∀ u, d.getD u false = true → d'.getD u false = true) : CLo arcs x p to d' u :=
 ⟨h.1, fun i h1 h2 h3 => hm _ (h.2 i h1 h2 h3)⟩
structure FQ (arcs : List Arc) (x : List Int) (p : Nat → Int) (to : Nat) (d : List Bool) (v : Nat) (most : Int) (r : Int × List Int × List Bool) : Prop where
 fi : FI arcs x p to d v r.1 r.2.1 r.2.2
 n0 : 0 ≤ r.1 ∧ r.1 ≤ most
 zero : r.1 = 0 → 0 < most → r.2.1 = x ∧ r.2.2.getD v false = true ∧ ∀ u, r.2.2.getD u false = true → d.getD u false = false → CLo arcs x p to r.2.2 u
structure FN (N : Nat) (arcs : List Arc) (x : List Int) (p : Nat → Int) (to : Nat) (d : List Bool) (v : Nat) (most : Int) (i : Nat) (g : Int × List Int × List Bool) : Prop where
 fi : FI arcs x p to d v g.1 g.2.1 g.2.2
 n0 : 0 ≤ g.1 ∧ g.1 ≤ most
 nd : g.2.2.getD v false = true
 zero : g.1 = 0 → g.2.1 = x ∧ (∀ u, g.2.2.getD u false = true → d.getD u false = false → u ≠ v → CLo arcs x p to g.2.2 u) ∧
  ∀ j (hj : j < (outs arcs v arcs.length).length), j < i → 0 < roomOf arcs x v (outs arcs v arcs.length)[j] → rcst arcs p (wix arcs v (outs arcs v arcs.length)[j]) = 0 → g.2.2.getD (wdst arcs (wix arcs v (outs arcs v arcs.length)[j])) false = true
section
variable {N : Nat} {arcs : List Arc} {x : List Int} {p : Nat → Int} {to : Nat} {d : List Bool} {v : Nat} {most : Int}
theorem FQ.base (hx : XB arcs x) (hm : 0 ≤ most) (h : v = to ∨ most = 0) : FQ arcs x p to d v most (most, x, d) := by
 refine ⟨⟨hx, rfl, fun w => ?_, fun k _ hk => absurd rfl hk, fun u hu => hu, fun k _ _ => rfl⟩, ⟨hm, yD _⟩, fun h1 h2 => absurd h1 (by simp only; omega)⟩
 rcases h with h | h
 ·subst h; simp only; omega
 ·subst h; simp only [vd_0]; omega
theorem FN.start (hx : XB arcs x) (hm : 0 ≤ most) (hv : v < d.length) : FN N arcs x p to d v most 0 (0, x, d.set v true) := by
 have hg : ∀ u, (d.set v true).getD u false = if u = v then true else d.getD u false := fun u => getD_setB hv
 refine ⟨⟨hx, by simp, fun w => by simp only [vd_0]; omega, fun k _ hk => absurd rfl hk, fun u hu => ?_, fun k _ _ => rfl⟩, ⟨yD _, hm⟩, ?_, fun _ => ⟨rfl, fun u h1 h2 h3 => ?_, fun j _ hj => by omega⟩⟩
 ·show (d.set v true).getD u false = true
  rw [hg]; split
  ·rfl
  ·exact hu
 ·show (d.set v true).getD v false = true
  rw [hg, if_pos rfl]
 ·rw [show ((0, x, d.set v true) : Int × List Int × List Bool).2.2 = d.set v true from rfl, hg, if_neg h3] at h1
  rw [h2] at h1; cases h1
theorem FN.skip {i : Nat} {g : Int × List Int × List Bool} (h : FN N arcs x p to d v most i g) (hi : i < (outs arcs v arcs.length).length)
  (hs : g.1 = 0 → 0 < roomOf arcs x v (outs arcs v arcs.length)[i] → rcst arcs p (wix arcs v (outs arcs v arcs.length)[i]) = 0 → g.2.2.getD (wdst arcs (wix arcs v (outs arcs v arcs.length)[i])) false = true) : FN N arcs x p to d v most (i + 1) g := by
 refine ⟨h.fi, h.n0, h.nd, fun h0 => ?_⟩
 obtain ⟨z1, z2, z3⟩ := h.zero h0
 refine ⟨z1, z2, fun j hj hlt hr hc => ?_⟩
 by_cases e : j = i
 ·subst e; exact hs h0 hr hc
 ·exact z3 j hj (by omega) hr hc
theorem rcst_b {k : Nat} : rcst arcs p (2 * k + 1) = - rcst arcs p (2 * k) := by
 unfold rcst wcst wsrc wdst
 rw [if_neg (by omega), if_neg (by omega), if_neg (by omega), if_pos (by omega), if_pos (by omega), if_pos (by omega), show (2 * k + 1) / 2 = k by omega, show 2 * k / 2 = k by omega]
 omega
theorem rcst_half {i : Nat} (h : rcst arcs p i = 0) : rcst arcs p (2 * (i / 2)) = 0 := by
 by_cases e : i % 2 = 0
 ·rwa [show 2 * (i / 2) = i by omega]
 ·have : i = 2 * (i / 2) + 1 := by omega
  rw [this, rcst_b] at h
  omega
def dlt (arcs : List Arc) (v k : Nat) (n : Int) : Int := if (gA arcs k).from_ = v then n else -n
theorem FN.step (hV : Val N arcs) (hvd : d.getD v false = false) (hm : 0 < most) {i : Nat} {s : Int} {x1 : List Int} {d1 : List Bool} (h : FN N arcs x p to d v most i (s, x1, d1)) {k : Nat} (hi : i < (outs arcs v arcs.length).length) (hk : (outs arcs v arcs.length)[i] = k)
  (hd : d1.getD (wdst arcs (wix arcs v k)) false = false) (hc : rcst arcs p (wix arcs v k) = 0) (hr : 0 < roomOf arcs x1 v k) (hne : s ≠ most) {n : Int} {x2 : List Int} {d2 : List Bool}
  (hq : FQ arcs x1 p to d1 (wdst arcs (wix arcs v k)) (min (roomOf arcs x1 v k) (most - s)) (n, x2, d2)) :
  FN N arcs x p to d v most (i + 1) (s + n, x2.set k (x2.getD k 0 + dlt arcs v k n), d2) := by
 obtain ⟨hj, hend⟩ := outs_in hi
 rw [hk] at hj hend
 have hsrc := wix_src hV hj hend
 obtain ⟨w1, w2, w3⟩ := w_in hV (i := wix arcs v k) (by rw [wix_half]; exact hj)
 rw [hsrc] at w1 w3
 have hva := hV.at hj
 have hfi := h.fi
 have hqi := hq.fi
 simp only at hfi hqi
 have hn := hq.n0
 have hs := h.n0
 simp only at hn hs
 have hmin := vS (roomOf arcs x1 v k) (most - s)
 have hmin2 := yQ (roomOf arcs x1 v k) (most - s)
 have hkl : k < x2.length := by rw [hqi.xb.hl]; exact hj
 have hge : ∀ j w, (x2.set k w).getD j 0 = if j = k then w else x2.getD j 0 := fun j w => getD_set hkl
 have hnd : d1.getD v false = true := h.nd
 have hk2 : x2.getD k 0 = x1.getD k 0 := hqi.kept k hj (by
  rcases hend with e | e
  ·left; rw [e]; exact hnd
  ·right; rw [e]; exact hnd)
 have hends : (gA arcs k).from_ = v ∧ (gA arcs k).to.toNat = wdst arcs (wix arcs v k) ∨ ((gA arcs k).from_ ≠ v ∧ (gA arcs k).to = v ∧ (gA arcs k).from_.toNat = wdst arcs (wix arcs v k)) := by
  unfold wdst
  rw [wix_half]
  unfold wix
  by_cases e : (gA arcs k).from_ = v
  ·left; rw [if_pos e, if_pos (by omega)]; exact ⟨e, rfl⟩
  ·right; rw [if_neg e, if_neg (by omega)]
   refine ⟨e, ?_, rfl⟩
   rcases hend with e2 | e2
   ·exact absurd e2 e
   ·exact e2
 have hx1k := hfi.xb.hb k hj
 have hroom : roomOf arcs x1 v k = if (gA arcs k).from_ = v then (gA arcs k).cap - x1.getD k 0 else x1.getD k 0 := rfl
 generalize hu : wdst arcs (wix arcs v k) = u at *
 refine ⟨⟨⟨by rw [vC]; exact hqi.xb.hl, fun j hj2 => ?_⟩, hqi.dl.trans hfi.dl, fun w => ?_, fun j hj2 hne2 => ?_, fun w hw => hqi.mono w (hfi.mono w hw), fun j hj2 hdd => ?_⟩, ⟨by simp only; omega, by simp only; omega⟩, hqi.mono v hnd, fun h0 => ?_⟩
 ·show 0 ≤ (x2.set k _).getD j 0 ∧ _
  simp only
  rw [hge]
  split
  ·rename_i e
   subst e
   rw [hk2]
   unfold dlt
   split
   ·rename_i e; rw [if_pos e] at hroom; omega
   ·rename_i e; rw [if_neg e] at hroom; omega
  ·exact hqi.xb.hb j hj2
 ·have e1 := hqi.val w
  have e2 := hfi.val w
  simp only at e1 e2 ⊢
  rw [valTo_set w hkl, if_pos hj, e1, e2, vd_add, vd_add]
  have : x2.getD k 0 + dlt arcs v k n - x2.getD k 0 = dlt arcs v k n := by omega
  rw [this]
  unfold dlt vd
  rcases hends with ⟨q1, q2⟩ | ⟨q1, q2, q3⟩
  ·rw [if_pos q1, q1]
   have t1 : ((v : Int) = w) ↔ w = v := by omega
   have t2 : ((gA arcs k).to = w) ↔ w = u := by omega
   simp only [t1, t2]
   split <;> split <;> split <;> omega
  ·rw [if_neg q1, q2]
   have t1 : ((v : Int) = w) ↔ w = v := by omega
   have t2 : ((gA arcs k).from_ = w) ↔ w = u := by omega
   simp only [t1, t2]
   split <;> split <;> split <;> omega
 ·simp only at hne2
  rw [hge] at hne2
  by_cases e : j = k
  ·subst e
   have := rcst_half hc
   rwa [wix_half] at this
  ·rw [if_neg e] at hne2
   by_cases e2 : x2.getD j 0 = x1.getD j 0
   ·exact hfi.tig j hj2 (by rw [← e2]; exact hne2)
   ·exact hqi.tig j hj2 e2
 ·simp only
  rw [hge]
  by_cases e : j = k
  ·subst e
   exfalso
   have a1 : d.getD u false = true → False := fun h1 => by rw [hfi.mono u h1] at hd; cases hd
   rcases hends with ⟨q1, q2⟩ | ⟨q1, q2, q3⟩
   ·rw [q1, q2, yB, hvd] at hdd
    rcases hdd with h1 | h1
    ·cases h1
    ·exact a1 h1
   ·rw [q2, q3, yB, hvd] at hdd
    rcases hdd with h1 | h1
    ·exact a1 h1
    ·cases h1
  ·rw [if_neg e]
   rw [← hfi.kept j hj2 hdd]
   exact hqi.kept j hj2 (hdd.imp (hfi.mono _) (hfi.mono _))
 ·simp only at h0
  have s0 : s = 0 := by omega
  have n0 : n = 0 := by omega
  obtain ⟨z1, z2, z3⟩ := h.zero s0
  obtain ⟨y1, y2, y3⟩ := hq.zero n0 (by
   rw [s0] at hne ⊢
   exact Int.lt_min.2 ⟨hr, by omega⟩)
  simp only at z1 z2 z3 y1 y2 y3 ⊢
  have ex : x2.set k (x2.getD k 0 + dlt arcs v k n) = x := by
   have : dlt arcs v k n = 0 := by unfold dlt; rw [n0]; split <;> rfl
   rw [this, Int.add_zero, y1, z1]
   rw [yF, yW (by rw [← z1, ← y1]; exact hkl), vT, List.set_getElem_self]
  refine ⟨ex, fun w h1 h2 h3 => ?_, fun j hj2 hlt hro hcz => ?_⟩
  ·by_cases e : d1.getD w false = true
   ·exact (z2 w e h2 h3).mono hqi.mono
   ·rw [Bool.not_eq_true] at e
    have := y3 w h1 e
    rwa [z1] at this
  ·by_cases e : j = i
   ·subst e
    rw [hk, hu]
    exact y2
   ·exact hqi.mono _ (z3 j hj2 (by omega) hro hcz)
theorem FN.done (hV : Val N arcs) (hv : v < d.length) (hvt : v ≠ to) (hvd : d.getD v false = false) (hm : 0 < most) {i : Nat} {g : Int × List Int × List Bool} (h : FN N arcs x p to d v most i g) (hi : i = (outs arcs v arcs.length).length ∨ g.1 = most) :
  FQ arcs x p to d v most (g.1, g.2.1, g.2.2.set v (decide (g.1 < most))) := by
 obtain ⟨s, x1, d1⟩ := g
 have hfi := h.fi
 have hn := h.n0
 simp only at hfi hn hi ⊢
 have hl : v < d1.length := by rw [hfi.dl]; exact hv
 have hg : ∀ u b, (d1.set v b).getD u false = if u = v then b else d1.getD u false := fun u b => getD_setB hl
 refine ⟨⟨hfi.xb, by rw [vC]; exact hfi.dl, hfi.val, hfi.tig, fun u hu => ?_, hfi.kept⟩, hn, fun h0 hmm => ?_⟩
 ·show (d1.set v _).getD u false = true
  rw [hg]
  by_cases e : u = v
  ·subst e; rw [hvd] at hu; cases hu
  ·rw [if_neg e]; exact hfi.mono u hu
 ·simp only at h0
  obtain ⟨z1, z2, z3⟩ := h.zero h0
  simp only at z1 z2 z3 ⊢
  have hnd : d1.getD v false = true := h.nd
  have hd : decide (s < most) = true := decide_eq_true (by omega)
  have hsub : ∀ u, d1.getD u false = true → (d1.set v (decide (s < most))).getD u false = true := fun u hu => by
   rw [hg]; split
   ·exact hd
   ·exact hu
  refine ⟨z1, by rw [hg, if_pos rfl]; exact hd, fun u h1 h2 => ?_⟩
  by_cases e : u = v
  ·subst e
   refine ⟨hvt, fun w hw hsrc hc => hsub _ ?_⟩
   obtain ⟨q1, q2⟩ := wix_all hV hw.1 hsrc
   obtain ⟨j, hj, hje⟩ := yL q1
   have := z3 j hj (by omega) (by rw [hje, ← wix_room, q2]; exact hw.2) (by rw [hje, q2]; exact hc)
   rwa [hje, q2] at this
  ·rw [hg, if_neg e] at h1
   exact (z2 u h1 h2 e).mono hsub
theorem cnt_le : ∀ {a b : List Bool}, a.length = b.length → (∀ u, a.getD u false = true → b.getD u false = true) → b.count false ≤ a.count false
 | [], b, hl, _ => by cases b <;> simp_all
 | x :: a, [], hl, _ => by simp at hl
 | x :: a, y :: b, hl, h => by
  have h0 := h 0
  have := cnt_le (a := a) (b := b) (by simpa using hl) fun u hu => by have := h (u + 1); simpa using this (by simpa using hu)
  simp only [vU]
  cases x <;> cases y <;> simp at * <;> omega
theorem cnt_lt : ∀ {a b : List Bool} {v : Nat}, a.length = b.length → (∀ u, a.getD u false = true → b.getD u false = true) → v < a.length → a.getD v false = false → b.getD v false = true → b.count false < a.count false
 | [], b, v, hl, _, hv, _, _ => by simp at hv
 | x :: a, [], v, hl, _, _, _, _ => by simp at hl
 | x :: a, y :: b, 0, hl, h, hv, h1, h2 => by
  have := cnt_le (a := a) (b := b) (by simpa using hl) fun u hu => by have := h (u + 1); simpa using this (by simpa using hu)
  simp only [vU]
  simp at h1 h2
  subst h1 h2
  simp; omega
 | x :: a, y :: b, v + 1, hl, h, hv, h1, h2 => by
  have h0 := h 0
  have := cnt_lt (a := a) (b := b) (v := v) (by simpa using hl) (fun u hu => by have := h (u + 1); simpa using this (by simpa using hu)) (by simpa using hv) (by simpa using h1) (by simpa using h2)
  simp only [vU]
  cases x <;> cases y <;> simp at * <;> omega
end
end Go.Fx.P.K
namespace Go.Fx.P.K
open Go Go.Fx Go.Proofs
set_option maxRecDepth 20000
abbrev G28 : Type := Nat × List Int × List Int × List Int
def hpD (N : Nat) (arcs : List Arc) (x p : List Int) (g : G28) : List Blk :=
 [wB N x.length arcs 1 2 3, .arr 1 (x.map encI), .arv 1 (outR arcs N), .arr 1 (p.map encI), .var [.ptr 0 0 0], .dead, .var [.sl 7 0 N], .arr 1 (g.2.2.2.map encI), .var [.sl 10 0 g.1, .sl 11 0 g.1], .var [.ptr 8 0 0], .arr 1 (g.2.1.map encI), .arr 1 (g.2.2.1.map encI)]
def eP28 : Env := [(8, .ptr 13 0 0), (7, .ptr 12 0 0), (6, .ptr 9 0 0), (5, .ptr 6 0 0), (2, .ptr 4 0 0)]
def hpI (N : Nat) (arcs : List Arc) (x p : List Int) (key : Int) (v : Nat) (g : G28) : List Blk :=
 hpD N arcs x p g ++ [.var [.i key], .var [.i v], .var [.ptr 0 0 0], .var [.i v], .rcd .ready eP28]
section
variable {N : Nat} {arcs : List Arc} {x p : List Int} {s : Nat} {hs : s < N}
structure Inn (G : Lb.Gr) (N : Nat) (arcs : List Arc) (x : List Int) (key : Int) (v M0 : Nat) (i : Nat) (g : G28) : Prop where
 di : DI N G g.1 g.2.1 g.2.2.1 g.2.2.2
 kv : g.2.2.2.getD v 0 = key
 kf : key < far
 pe : Pend N G g.1 g.2.1 g.2.2.1 g.2.2.2 fun u => u ≠ v
 cl : ∀ j (hj : j < (outs arcs v arcs.length).length), j < i → 0 < roomOf arcs x v (outs arcs v arcs.length)[j] → g.2.2.2.getD (G.dst (wix arcs v (outs arcs v arcs.length)[j])) 0 ≤ key + G.c (wix arcs v (outs arcs v arcs.length)[j])
 ms : meas N g.1 g.2.2.2 < M0
theorem itH28 (hW : WOk N arcs x p) {key : Int} {v : Nat} (hv : v < N) (hx : ∀ j, 0 ≤ x.getD j 0 ∧ x.getD j 0 ≤ 1073741824) : ItH (hpI N arcs x p key v) (fun _ => x) 17 N v arcs 16 14 15 0 1 2 3 [16, 0, 1, 2, 3] := by
 have hxl := hW.hx
 refine ⟨hW.hV, hv, fun g => rfl, fun g tl => rfl, fun g tl => rfl, fun g tl => by rw [← hxl]; rfl, fun g tl => rfl, fun g tl => rfl, fun g => ⟨trivial, trivial, trivial, trivial, trivial, trivial⟩, fun g => ?_, fun g => ⟨_, _, rfl⟩, fun g => ⟨hxl, hx⟩⟩
 unfold hpI hpD wB eP28
 simp -implicitDefEqProofs only [rX,liveP,wfE,wfB,wfV,wfL,outR_wfT]
theorem EI_kill {v k a b i : Nat} {e : Env} {M : List Nat} (h1 : k ∉ M) (h2 : a ∉ M) (h3 : b ∉ M) (h : EI arcs v k a b i e) : EI arcs v k a b i (killE M e) := by
 refine ⟨?_, ?_, ?_, ?_, ?_, ?_, ?_⟩ <;> rw [get_killE]
 ·rw [h.e0]; simp [kill, h1]
 ·rw [h.e1]; simp [kill, h2]
 ·rw [h.e2]; simp [kill, h3]
 ·rw [h.e14]; rfl
 ·rw [h.e15]; rfl
 ·rw [h.e16]; rfl
 ·rw [h.e65]; rfl
theorem rnd28 (hW : WOk N arcs x p) (hn : NN arcs x fun u => p.getD u 0) {key : Int} {v M0 i : Nat} {g : G28} (hv : v < N) (hi : i < (outs arcs v arcs.length).length) (hI : Inn (grD N arcs x (fun u => p.getD u 0) s hW.hV hs hn) N arcs x key v M0 i g)
  (hr : 0 < roomOf arcs x v (outs arcs v arcs.length)[i]) {e : Env} {bb : Nat} {Z : V → St → Prop} (he : EI arcs v 16 14 15 i e)
  (hT : ∀ e' g' tl, EI arcs v 16 14 15 i e' → Inn (grD N arcs x (fun u => p.getD u 0) s hW.hV hs hn) N arcs x key v M0 (i + 1) g' → Z (.b true) ⟨e', hpI N arcs x p key v g' ++ tl, bb⟩) :
  yR (cxN Try.prog [0, 1, 2, 3]) [46] c64a0 c64r0 16 [wayOf arcs x v (outs arcs v arcs.length)[i]] ⟨e, hpI N arcs x p key v g ++ [.var (gA arcs (outs arcs v arcs.length)[i]).enc, .var (wayC arcs x v (outs arcs v arcs.length)[i])], bb⟩ Z := by
 have hVV := hW.hV
 obtain ⟨hj, hend⟩ := outs_in hi
 generalize hk : (outs arcs v arcs.length)[i] = k at *
 have hsrc := wix_src hVV hj hend
 have hroom : wrm arcs x (wix arcs v k) = roomOf arcs x v k := wix_room
 have hres : wres arcs x (wix arcs v k) := ⟨by rw [wix_half]; exact hj, by rw [hroom]; exact hr⟩
 obtain ⟨w1, w2, w3⟩ := w_in hVV hres.1
 have hcb := wcst_b hVV hres.1
 have hway : wayOf arcs x v k = .agg [.i k, .i (wdst arcs (wix arcs v k) : Nat), .i (roomOf arcs x v k), .i (wcst arcs (wix arcs v k)), .b (decide (¬ (gA arcs k).from_ = v))] := by
  have := hVV.at hj
  unfold wayOf roomOf wdst wcst
  rw [wix_half]
  unfold wix
  by_cases h : (gA arcs k).from_ = v
  ·simp only [if_pos h]
   rw [if_pos (by omega), if_pos (by omega), show (((gA arcs k).to.toNat : Nat) : Int) = (gA arcs k).to by omega, show decide (¬ (gA arcs k).from_ = v) = false from decide_eq_false (by simpa using h)]
  ·simp only [if_neg h]
   rw [if_neg (by omega), if_neg (by omega), show (((gA arcs k).from_.toNat : Nat) : Int) = (gA arcs k).from_ by omega, show decide (¬ (gA arcs k).from_ = v) = true from decide_eq_true h]
 have hwc : cells? (wayOf arcs x v k) = some (wayC arcs x v k) := by unfold wayOf wayC; split <;> rfl
 have hwc2 : wayC arcs x v k = [.i k, .i (wdst arcs (wix arcs v k) : Nat), .i (roomOf arcs x v k), .i (wcst arcs (wix arcs v k)), .b (decide (¬ (gA arcs k).from_ = v))] := by
  rw [hway] at hwc
  simpa [cells?] using hwc.symm
 obtain ⟨n, ks, vs, D⟩ := g
 rw [hway, hwc2]
 generalize decide (¬ (gA arcs k).from_ = v) = bk at *
 generalize roomOf arcs x v k = rm at *
 have hKill : ∀ M, kills M (gA arcs k).enc = (gA arcs k).enc := fun M => rfl
 generalize (gA arcs k).enc = encA at *
 have hcall := ok91 N arcs x p v (wdst arcs (wix arcs v k) : Nat) (wcst arcs (wix arcs v k)) (.i k) (.i rm) (.b bk) hW (by omega) (by omega) hcb
 have hrc : wcst arcs (wix arcs v k) + p.getD (v : Int).toNat 0 - p.getD ((wdst arcs (wix arcs v k) : Nat) : Int).toNat 0 = rcst arcs (fun u => p.getD u 0) (wix arcs v k) := by
  unfold rcst
  rw [hsrc, yB, yB]
 rw [hrc] at hcall
 have hc0 := hn _ hres
 have hp1 := hW.hb v
 have hp2 := hW.hb (wdst arcs (wix arcs v k))
 have hcB : rcst arcs (fun u => p.getD u 0) (wix arcs v k) ≤ 1074790400 := by
  unfold rcst
  rw [hsrc]
  show wcst arcs (wix arcs v k) + p.getD v 0 - p.getD (wdst arcs (wix arcs v k)) 0 ≤ _
  omega
 have hDl : D.length = N := hI.di.len
 have hkey := hI.di.nn hW.hN (fun j => hW.hb j) hv
 have hkv : D.getD v 0 = key := hI.kv
 rw [show ((n, ks, vs, D) : G28).2.2.2 = D from rfl, hkv] at hkey
 have hkf := hI.kf
 have hkB : key ≤ KB := by
  rcases hkey.2 with e | e
  ·omega
  ·exact e
 refine yR_go 19 rfl rfl rfl ?_
 unfold hpI hpD wB eP28 c64a0
 simp -implicitDefEqProofs only [rX,↓rY,ofConst,cells?,splice,↓reduceIte,Nat.reduceEqDiff,Nat.reduceAdd,freshP,isC,cxN,setPs]
 unfold c64r0
 simp -implicitDefEqProofs only [rX,↓rY,rdK,↓reduceIte,Nat.reduceEqDiff,Nat.reduceAdd]
 generalize hcc : rcst arcs (fun u => p.getD u 0) (wix arcs v k) = c at *
 generalize hto : wdst arcs (wix arcs v k) = to at *
 refine call_isN [0, 1, 2, 3] [.ptr 0 0 0, .i v, .agg [.i k, .i (to : Nat), .i rm, .i (wcst arcs (wix arcs v k)), .b bk]] (.i c) (.i c) (wH N arcs x p) (wH N arcs x p) _ hcall (by simp) (by simp [wH, wB, blk, renB, rens, ren, pos, outR_ren]) (by simp [lendsOk, lendOk, lends, lend, wkL, wk, pos]) (by simp [wH]) rfl rfl (by simp [keepP, liveP, wH, wB, setAll, renB]) ?_
 simp -implicitDefEqProofs only [rX,↓rY,rZ,cells?,splice,↓reduceIte,Nat.reduceEqDiff,arrSz,Nat.reduceAdd,isD,isC,wH,wB,setAll,renB,rens,ren,outR_ren,back]
 have hDt : D.getD to 0 = D[to]'(by omega) := getD_nat (by omega)
 have hKBv : KB = 67711795200 := rfl
 have hEI := he
 have hcl : ∀ (D' : List Int), D'.getD v 0 = key → (∀ u, D'.getD u 0 ≤ D.getD u 0) → D'.getD to 0 ≤ key + c →
   ∀ j (hj : j < (outs arcs v arcs.length).length), j < i + 1 → 0 < roomOf arcs x v (outs arcs v arcs.length)[j] → D'.getD ((grD N arcs x (fun u => p.getD u 0) s hW.hV hs hn).dst (wix arcs v (outs arcs v arcs.length)[j])) 0 ≤ key + (grD N arcs x (fun u => p.getD u 0) s hW.hV hs hn).c (wix arcs v (outs arcs v arcs.length)[j]) := by
  intro D' e1 e2 e3 j hj2 hlt hro
  by_cases e : j = i
  ·subst e
   show D'.getD (wdst arcs (wix arcs v (outs arcs v arcs.length)[j])) 0 ≤ key + rcst arcs (fun u => p.getD u 0) (wix arcs v (outs arcs v arcs.length)[j])
   rw [hk, hto, hcc]
   exact e3
  ·exact yY (e2 _) (hI.cl j hj2 (by omega) hro)
 refine ⟨by simp only [lo, Fx.hi]; omega, ⟨by omega, by omega⟩, by omega, ?_⟩
 simp only [br, decide_eq_true_eq, decide_eq_false_iff_not]
 refine ⟨fun hlt => ⟨⟨by omega, by omega⟩, by omega, ?_⟩, fun hge => ?_⟩
 ·have hnle := hI.di.n_le hW.hN (fun j => hW.hb j)
  simp only at hnle
  refine call_isM (PushQ n ks vs (key + c) (to : Nat)) [8, 10, 11] [1, 2] [10, 11] [.ptr 0 0 0, .i (key + c), .i to] (fun _ => .tup []) (hpB n ks vs) (fun g => hpB (n + 1) g.1 g.2) (ok88 n ks vs (key + c) to hI.di.h1 hI.di.h2 (by omega)) (by simp) (by simp) (by simp [hpB, blk, renB, rens, ren, pos]) (by simp [lendsOk, lendOk, lends, lend, wkL, wk, pos]) fun g hg => ⟨by simp [keepP, liveP, hpB, setAll, renB, killB], ?_⟩
  obtain ⟨ks2, vs2⟩ := g
  have hpush := hI.di.push (i := wix arcs v k) (ks' := ks2) (vs' := vs2) hW.hN (fun j => hW.hb j) hres
  have hpe := hI.pe.push (t := to) (nv := key + c) (by rw [hI.di.len]; exact w2) (by show key + c < D.getD to 0; rw [hDt]; exact hlt) hg
  simp only [hsrc, hto, hcc, hkv, hDt] at hpush
  obtain ⟨hd1, hd2⟩ := hpush hkf hlt hg
  simp -implicitDefEqProofs only [rX,↓rY,↓reduceIte,Nat.reduceEqDiff,Nat.reduceAdd,reduceCtorEq,killE,killB,kill,kills,St.kill,hpB,setAll,renB,rens,ren,back,outR_kill,encI_set,hKill]
  have hge : ∀ u, (D.set to (key + c)).getD u 0 = if u = to then key + c else D.getD u 0 := fun u => getD_set (by omega)
  have hvt : ¬ v = to := by rw [← hsrc]; exact w3
  refine hT (killE [10, 11] e) (n + 1, ks2, vs2, D.set to (key + c)) [.var encA, .var [.i k, .i to, .i rm, .i (wcst arcs (wix arcs v k)), .b bk], .dead, .var [.i k, .i to, .i rm, .i (wcst arcs (wix arcs v k)), .b bk]] (EI_kill (by simp) (by simp) (by simp) he) ⟨hd1, ?_, hkf, hpe, hcl _ ?_ ?_ ?_, Nat.lt_trans hd2 hI.ms⟩
  ·show (D.set to (key + c)).getD v 0 = key
   rw [hge, if_neg hvt]; exact hkv
  ·show (D.set to (key + c)).getD v 0 = key
   rw [hge, if_neg hvt]; exact hkv
  ·intro u
   show (D.set to (key + c)).getD u 0 ≤ D.getD u 0
   rw [hge]
   split
   ·rename_i e; rw [e, hDt]; omega
   ·exact yD _
  ·show (D.set to (key + c)).getD to 0 ≤ key + c
   rw [hge, if_pos rfl]; exact yD _
 ·exact hT e (n, ks, vs, D) [.var encA, .var [.i k, .i to, .i rm, .i (wcst arcs (wix arcs v k)), .b bk], .dead, .var [.i k, .i to, .i rm, .i (wcst arcs (wix arcs v k)), .b bk]] he ⟨hI.di, hkv, hkf, hI.pe, hcl D hkv (fun u => yD _) (by rw [hDt]; omega), hI.ms⟩
end
end Go.Fx.P.K
namespace Go.Fx.P.K
open Go Go.Fx Go.Proofs
set_option maxRecDepth 20000
section
variable {N : Nat} {arcs : List Arc} {x p : List Int} {s : Nat} {hs : s < N}
abbrev pat28 (N : Nat) (arcs : List Arc) (x p : List Int) (g : G28) : St := ⟨[(6, .ptr 9 0 0), (5, .ptr 6 0 0), (2, .ptr 4 0 0)], hpD N arcs x p g, 0⟩
structure Out28 (G : Lb.Gr) (N : Nat) (g : G28) : Prop where
 di : DI N G g.1 g.2.1 g.2.2.1 g.2.2.2
 pe : Pend N G g.1 g.2.1 g.2.2.1 g.2.2.2 fun _ => True
theorem body28 (hW : WOk N arcs x p) (hn : NN arcs x fun u => p.getD u 0) (hx : ∀ j, 0 ≤ x.getD j 0 ∧ x.getD j 0 ≤ 1073741824) {RR : St → Prop} {X : Nat → St → Prop}
  (hX : ∀ D ks vs, DistQ N (grD N arcs x (fun u => p.getD u 0) s hW.hV hs hn) D → ∀ e b, get e 5 = .ptr 6 0 0 → X 0 ⟨e, hpD N arcs x p (0, ks, vs, D), b⟩) (g : G28) (hg : Out28 (grD N arcs x (fun u => p.getD u 0) s hW.hV hs hn) N g) :
  aw (cxN Try.prog [0, 1, 2, 3]) c64l0 (fun s' => ∃ g' : G28, (Out28 (grD N arcs x (fun u => p.getD u 0) s hW.hV hs hn) N g' ∧ meas N g'.1 g'.2.2.2 < meas N g.1 g.2.2.2) ∧ leS [0, 1, 2, 3] s' (pat28 N arcs x p g')) X RR (pat28 N arcs x p g) := by
 obtain ⟨n, ks, vs, D⟩ := g
 obtain ⟨hD, hP⟩ := hg
 simp only at hD hP
 have hnle := hD.n_le hW.hN (fun j => hW.hb j)
 have hDl : D.length = N := hD.len
 unfold c64l0 pat28 hpD wB
 rcases Nat.eq_zero_or_pos n with h0 | h0
 ·subst h0
  have hfin := hD.fin hP
  have := hX D ks vs hfin
  unfold hpD wB at this
  simp -implicitDefEqProofs only [rX,↓rY,ofConst,↓reduceIte,Nat.reduceEqDiff,Nat.reduceAdd,cxN]
  intro _
  have hd : decide ((0 : Int) < ((0 : Nat) : Int)) = false := by decide
  simp -implicitDefEqProofs only [↓rY,hd]
  exact this _ _ rfl
 have hd : decide ((0 : Int) < (n : Int)) = true := decide_eq_true (by omega)
 simp -implicitDefEqProofs only [rX,↓rY,ofConst,↓reduceIte,Nat.reduceEqDiff,Nat.reduceAdd,cxN,hd]
 intro _
 refine call_isM (PopQ n ks vs) [8, 10, 11] [] [] [.ptr 0 0 0] (fun g => .tup [.i g.1.1, .i g.1.2]) (hpB n ks vs) (fun g => hpB (n - 1) g.2.1 g.2.2) (ok89 n ks vs h0 hD.h1 hD.h2 (by omega)) (by simp) (by simp) (by simp [hpB, blk, renB, rens, ren, pos]) (by simp [lendsOk, lendOk, lends, lend, wkL, wk, pos]) fun g hg => ⟨by simp [keepP, liveP, hpB, setAll, renB, killB], ?_⟩
 obtain ⟨⟨key, v0⟩, ks2, vs2⟩ := g
 have hent := hD.ent _ _ hg.hin
 simp only at hent
 obtain ⟨v, rfl⟩ : ∃ v : Nat, v0 = v := ⟨v0.toNat, by omega⟩
 rw [yB] at hent
 have hvN : v < N := by omega
 obtain ⟨hD2, hM2⟩ := hD.pop h0 hg
 have hP2 := hP.pop hg
 simp only at hD2 hM2 hP2
 have hDv : D.getD v 0 = D[v]'(by omega) := getD_nat (by omega)
 simp -implicitDefEqProofs only [rX,↓rY,rZ,ofConst,cells?,splice,↓reduceIte,Nat.reduceEqDiff,arrSz,Nat.reduceAdd,freshP,leE,leH,leB,leV,leVs,keepP,liveP,wfE,wfB,wfV,wfL,killE,killB,kill,kills,St.kill,isC,hpB,setAll,renB,rens,ren,back,outR_kill]
 refine ⟨⟨by omega, by omega⟩, by omega, ?_⟩
 simp only [br, decide_eq_true_eq, decide_eq_false_iff_not]
 refine ⟨fun hgt => ?_, fun hle => ?_⟩
 ·refine ⟨(n - 1, ks2, vs2, D), ⟨⟨hD2, fun u hu hQ hf => hP2 u hu ?_ hf⟩, hM2⟩, ?_⟩
  ·rintro ⟨e1, e2⟩
   have : u = v := by omega
   subst this
   omega
  ·exact ⟨⟨rfl, ⟨rfl, rfl⟩, rfl, rfl⟩, outR_wf⟩
 have hkey : D.getD v 0 = key := by omega
 refine call_isN [0, 1, 2, 3] [.ptr 0 0 0, .i v] (.clo 108 [.ptr 4 0 0, .ptr 5 0 0]) (.clo 108 [.ptr 14 0 0, .ptr 15 0 0]) (wH N arcs x p) (wH N arcs x p ++ [Blk.var [V.ptr 0 0 0], Blk.var [V.i v]]) (hpD N arcs x p (n - 1, ks2, vs2, D) ++ [Blk.var [V.i key], Blk.var [V.i v], Blk.var [V.ptr 0 0 0], Blk.var [V.i v]]) (ok90 N arcs x p v) (by simp) (by simp [wH, wB, blk, renB, rens, ren, pos, outR_ren]) (by simp [lendsOk, lendOk, lends, lend, wkL, wk, pos]) (by simp [wH]) (by simp [hpD, wH, wB, setAll, renB, rens, ren, outR_ren, back]) (by simp [ren, rens, back]) (by simp [keepP, liveP, hpD, wB]) ?_
 unfold hpD wB
 simp -implicitDefEqProofs only [rX]
 refine rfn_go 16 rfl rfl trivial ?_
 have hkf : key < far := by
  have : KB < far := by decide
  omega
 have hI0 : Inn (grD N arcs x (fun u => p.getD u 0) s hW.hV hs hn) N arcs x key v (meas N n D) 0 (n - 1, ks2, vs2, D) := by
  refine ⟨hD2, hkey, hkf, fun u hu hQ hf => hP2 u hu ?_ hf, fun j hj h => by omega, hM2⟩
  rintro ⟨e1, e2⟩
  omega
 refine I0_le (h' := hpI N arcs x p key v (n - 1, ks2, vs2, D)) ?_ ?_ ?_ ?_ (it108 (Inv := Inn (grD N arcs x (fun u => p.getD u 0) s hW.hV hs hn) N arcs x key v (meas N n D)) (itH28 hW hvN hx) ?_ ?_ ?_ _ hI0)
 ·unfold hpI hpD wB eP28
  simp -implicitDefEqProofs only [rX,↓reduceIte,Nat.reduceEqDiff,leE,leH,leB,leV,leVs,or_true]
 ·simp [keepP, liveP, hpI, hpD, wB]
 ·unfold hpI hpD wB eP28
  simp -implicitDefEqProofs only [rX,liveP,wfE,wfB,wfV,wfL,outR_wfT]
 ·unfold hpI hpD wB eP28
  simp -implicitDefEqProofs only [rX,liveP,wfV,wfL]
 ·rintro i g hi ⟨g1, g2, g3, g4, g5, g6⟩ hr
  refine ⟨g1, g2, g3, g4, fun j hj hlt hro => ?_, g6⟩
  by_cases e : j = i
  ·subst e
   exact absurd hro (by omega)
  ·exact g5 j hj (by omega) hro
 ·intro i g hi hI hr e bb Z he hT hF
  exact rnd28 hW hn hvN hi hI hr he hT
 ·rintro ⟨n3, ks3, vs3, D3⟩ ⟨g1, g2, g3, g4, g5, g6⟩
  simp only at g1 g2 g3 g4 g5 g6
  have hcl : clN (grD N arcs x (fun u => p.getD u 0) s hW.hV hs hn) D3 v := by
   intro i hi hsrc
   obtain ⟨q1, q2⟩ := wix_all hW.hV hi.1 hsrc
   obtain ⟨j, hj, hje⟩ := yL q1
   have hres : wres arcs x i := hi
   have := g5 j hj hj (by rw [hje, ← wix_room, q2]; exact hres.2)
   rw [hje, q2] at this
   rw [g2]
   exact this
  unfold hpI hpD wB eP28
  simp -implicitDefEqProofs only [rX,↓rY,↓reduceIte,Nat.reduceEqDiff,leE,leH,leB,leV,leVs,keepP,liveP,wfE,wfB,wfV,wfL,outR_wfT]
  refine ⟨(n3, ks3, vs3, D3), ⟨⟨g1, g4.done hcl⟩, g6⟩, ?_⟩
  exact ⟨rfl, ⟨rfl, rfl⟩, rfl, rfl⟩
theorem rep_encI {N : Nat} {x : Int} : yA N (encI x) = (yA N x).map encI := by simp
theorem ok88z (key val : Int) : OkN Try.prog 88 [.ptr 0 0 0, .i key, .i val] [.var [.nil, .nil]] [] (IsQ (PushQ 0 [] [] key val) (fun _ => .tup []) (fun g => hpB 1 g.1 g.2)) := by
 refine okN_ofG pol [0] lw88 (by simp) ⟨trivial, trivial⟩ (by simp) (s0 := ⟨args0 0 [.ptr 0 0 0, .i key, .i val], hpB 0 [] [], 0⟩) ?_ ?_
 ·refine ⟨_, .virt 2 1 (by decide) (.nilB 0 [.nil, .nil] [.sl 1 0 0, .sl 2 0 0] rfl ⟨rfl, fun i a b h1 h2 => ?_⟩ (.refl _)), ?_⟩
  ·match i with
   | 0 => simp at h1 h2; subst h1 h2; exact .inr ⟨rfl, _, rfl⟩
   | 1 => simp at h1 h2; subst h1 h2; exact .inr ⟨rfl, _, rfl⟩
   | i + 2 => simp at h1
  ·unfold hpB
   simp -implicitDefEqProofs only [rX,↓reduceIte,Nat.reduceEqDiff,Nat.reduceAdd,reduceCtorEq,leE,leH,leB,leV,leVs,keepP,liveP,wfE,wfB,wfV,wfL,args0]
 ·refine core39 0 [] [] key val (by simp) (by simp) (by omega) fun g hg e b => ?_
  refine retP_isQ g hg ?_
  unfold hpB
  simp -implicitDefEqProofs only [rX,Nat.reduceAdd,resP,tupV,leH,leB,leV,leVs,keepP,liveP,wfB,wfV,wfL,Nat.reduceLeDiff]
theorem ok64 (hW : WOk N arcs x p) (hn : NN arcs x fun u => p.getD u 0) (hx : ∀ j, 0 ≤ x.getD j 0 ∧ x.getD j 0 ≤ 1073741824) :
  OkN Try.prog 64 [.ptr 0 0 0, .i s] (wH N arcs x p) [] (IsQ (DistQ N (grD N arcs x (fun u => p.getD u 0) s hW.hV hs hn)) (fun _ => .sl 7 0 N) (fun D => wH N arcs x p ++ [.dead, .dead, .dead, .arr 1 (D.map encI)])) := by
 refine okN_of pol [0, 1, 2, 3] lw64 (by simp) ⟨trivial, trivial, trivial, trivial, trivial⟩ (by simp [wH]; omega) ?_
 have hN := hW.hV.hn
 unfold c64 wH wB
 simp -implicitDefEqProofs only [rX,↓rY,ofConst,cells?,↓reduceIte,Nat.reduceEqDiff,Nat.reduceAdd,freshP,litsP,isD,Nat.reduceLT,cxN,args0]
 refine call_isA [.bro 1 [encI far], .i N] (.sl 0 0 N) (.sl 7 0 N) [.arr 1 (yA N (encI far))] [.arr 1 (yA N (encI far))] (ok87 N far (by omega) (by omega)) (by simp [lendsOk, lendOk, lends, lend, wkL, wk, wkB, blk, far, encI]) rfl rfl (by simp [keepP, liveP]) ?_
 rw [rep_encI]
 simp -implicitDefEqProofs only [rX,↓rY,rZ,ofConst,cells?,splice,↓reduceIte,Nat.reduceEqDiff,arrSz,Nat.reduceAdd,reduceCtorEq,freshP,buildP,isD,isC,encI_set]
 refine ⟨⟨by omega, by omega⟩, by omega, ?_⟩
 refine call_isM (PushQ 0 [] [] 0 (s : Nat)) [8] [] [] [.ptr 0 0 0, .i 0, .i s] (fun _ => .tup []) [Blk.var [.nil, .nil]] (fun g => hpB 1 g.1 g.2) (ok88z 0 s) (by simp) (by simp) (by simp [blk, renB, rens, ren, pos]) (by simp [lendsOk, lendOk, lends, lend, wkL, wk, pos]) fun g hg => ⟨by simp [keepP, liveP, hpB, setAll, renB, killB], ?_⟩
 obtain ⟨ks, vs⟩ := g
 obtain ⟨h1, h2⟩ := DI.start (N := N) (arcs := arcs) (x := x) (p := fun u => p.getD u 0) (s := s) (hV := hW.hV) (hs := hs) (hn := hn) hg
 simp -implicitDefEqProofs only [rX,↓reduceIte,Nat.reduceAdd,killE,killB,kill,kills,St.kill,hpB,setAll,renB,rens,ren,back,outR_kill]
 refine loopP_intro (pat28 N arcs x p) (Out28 (grD N arcs x (fun u => p.getD u 0) s hW.hV hs hn) N) (fun g => meas N g.1 g.2.2.2) (1, ks, vs, (yA N far).set s 0) ⟨h1, h2⟩ ?_ (body28 hW hn hx fun D ks vs hQ e b he => ?_)
 ·unfold pat28 hpD wB
  simp -implicitDefEqProofs only [rX,↓reduceIte,Nat.reduceEqDiff,leE,leH,leB,leV,leVs,keepP,liveP,wfE,wfB,wfV,wfL,outR_wfT]
  exact ⟨rfl, rfl⟩
 ·unfold hpD wB
  simp -implicitDefEqProofs only [rX,↓rY,↓reduceIte,Nat.reduceAdd,he]
  refine retP_isQ D hQ ?_
  simp -implicitDefEqProofs only [rX,↓reduceIte,Nat.reduceAdd,resP,tupV,leH,leB,leV,leVs,keepP,liveP,wfB,wfV,wfL,Nat.reduceLeDiff,outR_wfT]
end
end Go.Fx.P.K
namespace Go.Fx.P.K
open Go Go.Fx Go.Proofs
set_option maxRecDepth 20000
def h44 (N : Nat) (arcs : List Arc) (p : List Int) (to : Nat) (x : List Int) (d : List Bool) : List Blk :=
 [wB N arcs.length arcs 1 2 3, .arr 1 (x.map encI), .arv 1 (outR arcs N), .arr 1 (p.map encI), .var [.ptr 0 0 0], .var [.i to], .arr 1 (d.map encB), .var [.sl 6 0 N], .var [.clo 93 [.ptr 5 0 0, .ptr 7 0 0, .ptr 4 0 0, .ptr 8 0 0]]]
abbrev G44 (arcs : List Arc) : Type := { g : Int × List Int × List Bool // XB arcs g.2.1 }
def eP44 : Env := [(9, .ptr 11 0 0), (7, .ptr 10 0 0), (6, .ptr 9 0 0), (5, .ptr 8 0 0), (4, .ptr 4 0 0), (3, .ptr 7 0 0)]
def hpF (N : Nat) (arcs : List Arc) (p : List Int) (to v : Nat) (most : Int) (g : Int × List Int × List Bool) : List Blk :=
 h44 N arcs p to g.2.1 g.2.2 ++ [.var [.i v], .var [.i most], .var [.i g.1], .var [.ptr 0 0 0], .var [.i v], .rcd .ready eP44]
theorem getD_natB {l : List Bool} {k : Nat} (h : k < l.length) : l.getD k false = l[k] := by
 rw [yF, yW h]; rfl
theorem XB.bd {N : Nat} {arcs : List Arc} {x : List Int} (hV : Val N arcs) (h : XB arcs x) (j : Nat) : 0 ≤ x.getD j 0 ∧ x.getD j 0 ≤ 1073741824 := by
 by_cases hj : j < arcs.length
 ·have := h.hb j hj
  have := hV.at hj
  omega
 ·rw [yF, vV (by have := h.hl; omega)]; simp
def Ok44 (N : Nat) (arcs : List Arc) (p : List Int) (to : Nat) (x : List Int) (d : List Bool) (v : Nat) (most : Int) : Prop :=
 OkN Try.prog 93 [.i v, .i most, .ptr 5 0 0, .ptr 7 0 0, .ptr 4 0 0, .ptr 8 0 0] (h44 N arcs p to x d) [] (IsQ (FQ arcs x (fun u => p.getD u 0) to d v most) (fun g => .i g.1) (fun g => h44 N arcs p to g.2.1 g.2.2))
section
variable {N : Nat} {arcs : List Arc} {x p : List Int} {to v : Nat} {d : List Bool} {most : Int}
theorem itH44 (hV : Val N arcs) (hv : v < N) : ItH (fun g : G44 arcs => hpF N arcs p to v most g.1) (fun g => g.1.2.1) 15 N v arcs 14 12 13 0 1 2 3 [14, 0, 1, 2, 3, 4, 5, 6, 7, 8] := by
 refine ⟨hV, hv, fun g => rfl, fun g tl => rfl, fun g tl => rfl, fun g tl => rfl, fun g tl => rfl, fun g tl => rfl, fun g => ⟨trivial, trivial, trivial, trivial, trivial, trivial, trivial, trivial, trivial, trivial, trivial⟩, fun g => ?_, fun g => ⟨_, _, rfl⟩, fun g => ⟨g.2.hl, fun j => g.2.bd hV j⟩⟩
 unfold hpF h44 wB eP44
 simp -implicitDefEqProofs only [rX,liveP,wfE,wfB,wfV,wfL,outR_wfT]
theorem rnd44 (hW : ∀ x, XB arcs x → WOk N arcs x p) (hvd : d.getD v false = false) (hdl : d.length = N) (hto : to < N) (hm : 0 < most ∧ most ≤ 4611686018427387904) {i : Nat} {g : Int × List Int × List Bool} (hv : v < N) (hi : i < (outs arcs v arcs.length).length)
  (IH : ∀ (x1 : List Int) (d1 : List Bool) (v1 : Nat) (m1 : Int), d1.count false < d.count false → XB arcs x1 → d1.length = N → v1 < N → d1.getD v1 false = false → 0 ≤ m1 ∧ m1 ≤ 4611686018427387904 → Ok44 N arcs p to x1 d1 v1 m1)
  (hI : FN N arcs x (fun u => p.getD u 0) to d v most i g)
  (hr : 0 < roomOf arcs g.2.1 v (outs arcs v arcs.length)[i]) {e : Env} {bb : Nat} {Z : V → St → Prop} {NX RX : St → Prop} {XX : Nat → St → Prop} (he : EI arcs v 14 12 13 i e)
  (hN : ∀ e' h', (∃ (g : Int × List Int × List Bool) (tl : List Blk), FN N arcs x (fun u => p.getD u 0) to d v most i g ∧ g.1 = most ∧ e' = eP44 ∧ h' = (hpF N arcs p to v most g).set 14 .dead ++ tl) → XX 0 ⟨e', h', 0⟩)
  (hT : ∀ e' g' tl, EI arcs v 14 12 13 i e' → FN N arcs x (fun u => p.getD u 0) to d v most (i + 1) g' → Z (.b true) ⟨e', hpF N arcs p to v most g' ++ tl, bb⟩)
  (hF : ∀ e' hh, EI arcs v 14 12 13 i e' → endLp 14 NX XX RX hh → Z (.b false) ⟨e', hh, bb⟩) :
  yR (cxN Try.prog [0, 1, 2, 3, 4, 5, 6, 7, 8]) [26] c93a0 c93r0 14 [wayOf arcs g.2.1 v (outs arcs v arcs.length)[i]] ⟨e, hpF N arcs p to v most g ++ [.var (gA arcs (outs arcs v arcs.length)[i]).enc, .var (wayC arcs g.2.1 v (outs arcs v arcs.length)[i])], bb⟩ Z := by
 obtain ⟨sent, x1, d1⟩ := g
 have hfi := hI.fi
 have hn0 := hI.n0
 simp only at hfi hn0 hr ⊢
 have hx1 := hfi.xb
 have hWx := hW x1 hx1
 have hVV := hWx.hV
 obtain ⟨hj, hend⟩ := outs_in hi
 generalize hk : (outs arcs v arcs.length)[i] = k at *
 have hsrc := wix_src hVV hj hend
 obtain ⟨w1, w2, w3⟩ := w_in hVV (i := wix arcs v k) (by rw [wix_half]; exact hj)
 have hcb := wcst_b hVV (i := wix arcs v k) (by rw [wix_half]; exact hj)
 have hway : wayOf arcs x1 v k = .agg [.i k, .i (wdst arcs (wix arcs v k) : Nat), .i (roomOf arcs x1 v k), .i (wcst arcs (wix arcs v k)), .b (decide (¬ (gA arcs k).from_ = v))] := by
  have := hVV.at hj
  unfold wayOf roomOf wdst wcst
  rw [wix_half]
  unfold wix
  by_cases h : (gA arcs k).from_ = v
  ·simp only [if_pos h]
   rw [if_pos (by omega), if_pos (by omega), show (((gA arcs k).to.toNat : Nat) : Int) = (gA arcs k).to by omega, show decide (¬ (gA arcs k).from_ = v) = false from decide_eq_false (by simpa using h)]
  ·simp only [if_neg h]
   rw [if_neg (by omega), if_neg (by omega), show (((gA arcs k).from_.toNat : Nat) : Int) = (gA arcs k).from_ by omega, show decide (¬ (gA arcs k).from_ = v) = true from decide_eq_true h]
 have hwc : cells? (wayOf arcs x1 v k) = some (wayC arcs x1 v k) := by unfold wayOf wayC; split <;> rfl
 have hwc2 : wayC arcs x1 v k = [.i k, .i (wdst arcs (wix arcs v k) : Nat), .i (roomOf arcs x1 v k), .i (wcst arcs (wix arcs v k)), .b (decide (¬ (gA arcs k).from_ = v))] := by
  rw [hway] at hwc
  simpa [cells?] using hwc.symm
 rw [hway, hwc2]
 have hdlt : ∀ n, dlt arcs v k n = if decide (¬ (gA arcs k).from_ = v) = true then -n else n := by
  intro n
  unfold dlt
  by_cases h : (gA arcs k).from_ = v
  ·rw [if_pos h, if_neg (by simpa using h)]
  ·rw [if_neg h, if_pos (by simpa using h)]
 have hcap := hVV.at hj
 have hx1b := hx1.hb k hj
 have hrmb : roomOf arcs x1 v k ≤ 1073741824 := by unfold roomOf; split <;> omega
 have hdltr : ∀ n, 0 ≤ n → n ≤ roomOf arcs x1 v k → 0 ≤ x1.getD k 0 + dlt arcs v k n ∧ x1.getD k 0 + dlt arcs v k n ≤ 1073741824 := by
  intro n h1 h2
  unfold roomOf at h2
  unfold dlt
  split
  ·rename_i e; rw [if_pos e] at h2; omega
  ·rename_i e; rw [if_neg e] at h2; omega
 generalize hbk : decide (¬ (gA arcs k).from_ = v) = bk at *
 generalize hrm : roomOf arcs x1 v k = rm at *
 have hKill : ∀ M, kills M (gA arcs k).enc = (gA arcs k).enc := fun M => rfl
 have hWf : ∀ q, wfL q (gA arcs k).enc = True := fun q => eq_true enc_wf
 generalize (gA arcs k).enc = encA at *
 have hcall := ok91 N arcs x1 p v (wdst arcs (wix arcs v k) : Nat) (wcst arcs (wix arcs v k)) (.i k) (.i rm) (.b bk) hWx (by omega) (by omega) hcb
 have hrc : wcst arcs (wix arcs v k) + p.getD (v : Int).toNat 0 - p.getD ((wdst arcs (wix arcs v k) : Nat) : Int).toNat 0 = rcst arcs (fun u => p.getD u 0) (wix arcs v k) := by
  unfold rcst
  rw [hsrc, yB, yB]
 rw [hrc] at hcall
 have hxl := hx1.hl
 have hd1 : d1.length = N := hfi.dl.trans hdl
 have hst := fun (hd : d1.getD (wdst arcs (wix arcs v k)) false = false) (hc : rcst arcs (fun u => p.getD u 0) (wix arcs v k) = 0) => hI.step hVV hvd hm.1 hi hk hd hc
 have hsk := hI.skip hi
 rw [hk] at hsk
 rw [hrm] at hst
 generalize hcc : rcst arcs (fun u => p.getD u 0) (wix arcs v k) = c at *
 generalize hto2 : wdst arcs (wix arcs v k) = u at *
 have hud : u < d1.length := by omega
 have hdu : d1.getD u false = d1[u] := getD_natB hud
 refine yR_go 17 rfl rfl rfl ?_
 unfold hpF h44 wB eP44 c93a0
 simp -implicitDefEqProofs only [rX,↓rY,ofConst,cells?,splice,↓reduceIte,Nat.reduceEqDiff,Nat.reduceAdd,freshP,isC,cxN,setPs]
 unfold c93r0
 simp -implicitDefEqProofs only [rX,↓rY,rZ,ofConst,↓reduceIte,Nat.reduceEqDiff,arrSz,Nat.reduceAdd,reduceCtorEq]
 simp only [br, decide_eq_true_eq, decide_eq_false_iff_not]
 refine ⟨fun heq => ?_, fun hne => ?_⟩
 ·have heq' : sent = most := by simpa using heq
  refine hF e _ he ?_
  simp -implicitDefEqProofs only [rX,↓rY,liveP,wfE,wfB,wfV,wfL,outR_wfT,hWf]
  exact hN _ _ ⟨(sent, x1, d1), [.var encA, .var [.i k, .i u, .i rm, .i (wcst arcs (wix arcs v k)), .b bk], .dead, .var [.i k, .i u, .i rm, .i (wcst arcs (wix arcs v k)), .b bk]], hI, heq', rfl, rfl⟩
 ·have hne' : sent ≠ most := by simpa using hne
  refine ⟨⟨by omega, by omega⟩, by omega, ?_⟩
  refine ⟨fun hdead => ?_, fun hlive => ?_⟩
  ·exact hT e _ [.var encA, .var [.i k, .i u, .i rm, .i (wcst arcs (wix arcs v k)), .b bk], .dead, .var [.i k, .i u, .i rm, .i (wcst arcs (wix arcs v k)), .b bk]] he (hsk fun _ _ _ => by rw [hdu]; exact hdead)
  ·refine call_isN [0, 1, 2, 3] [.ptr 0 0 0, .i v, .agg [.i k, .i (u : Nat), .i rm, .i (wcst arcs (wix arcs v k)), .b bk]] (.i c) (.i c) (wH N arcs x1 p) (wH N arcs x1 p) _ hcall (by simp) (by simp [wH, wB, blk, renB, rens, ren, pos, outR_ren, hxl]) (by simp [lendsOk, lendOk, lends, lend, wkL, wk, pos]) (by simp [wH]) rfl rfl (by simp [keepP, liveP, wH, wB, setAll, renB]) ?_
   simp -implicitDefEqProofs only [rX,↓rY,ofConst,↓reduceIte,Nat.reduceEqDiff,Nat.reduceAdd,wH,wB,setAll,renB,rens,ren,outR_ren,back,hxl]
   simp only [br, decide_eq_true_eq, decide_eq_false_iff_not]
   refine ⟨fun hc => hT e _ [.var encA, .var [.i k, .i u, .i rm, .i (wcst arcs (wix arcs v k)), .b bk], .dead, .var [.i k, .i u, .i rm, .i (wcst arcs (wix arcs v k)), .b bk]] he (hsk fun _ _ h0 => absurd h0 (by simpa using hc)), fun hc => ⟨by simp only [lo, Fx.hi]; omega, ?_⟩⟩
   have hc0 : c = 0 := by simpa using hc
   have hstep := @hst (by rw [hdu]; exact hlive) hc0 hr hne'
   have hm1 : 0 < min rm (most - sent) ∧ min rm (most - sent) ≤ rm ∧ min rm (most - sent) ≤ most - sent := ⟨Int.lt_min.2 ⟨hr, by omega⟩, vS _ _, yQ _ _⟩
   generalize min rm (most - sent) = m1 at *
   refine call_isM (FQ arcs x1 (fun u => p.getD u 0) to d1 u m1) [0, 1, 2, 3, 4, 5, 6, 7, 8] [] [] [.i u, .i m1, .ptr 5 0 0, .ptr 7 0 0, .ptr 4 0 0, .ptr 8 0 0] (fun g => .i g.1) (h44 N arcs p to x1 d1) (fun g => h44 N arcs p to g.2.1 g.2.2)
    (IH x1 d1 u m1 (cnt_lt (hdl.trans hd1.symm) hfi.mono (by omega) hvd hI.nd) hx1 hd1 w2 (by rw [hdu]; exact hlive) (by omega)) (by simp) (by simp) (by simp [h44, wB, blk, renB, rens, ren, pos, outR_ren]) (by simp [lendsOk, lendOk, lends, lend, wkL, wk, pos]) fun g hg => ⟨by simp [keepP, liveP, h44, wB, setAll, renB, killB], ?_⟩
   obtain ⟨n, x2, d2⟩ := g
   have hN3 := hstep hg
   have hqi := hg.fi
   have hn := hg.n0
   simp only at hqi hn
   have hk2 : x2.getD k 0 = x1.getD k 0 := hqi.kept k hj (by
    have : d1.getD v false = true := hI.nd
    rcases hend with e | e
    ·left; rw [e]; exact this
    ·right; rw [e]; exact this)
   have hkl : k < x2.length := by rw [hqi.xb.hl]; exact hj
   have hx2e : x2.getD k 0 = x2[k] := getD_nat hkl
   have hdr := hdltr n hn.1 (by omega)
   rw [← hk2, hx2e, hdlt] at hdr
   rw [hx2e, hdlt] at hN3
   have hmax : max n (-n) = n := Int.max_eq_left (by omega)
   have hmax2 : max (-n) n = n := Int.max_eq_right (by omega)
   simp -implicitDefEqProofs only [rX,↓rY,rZ,rdK,cells?,splice,↓reduceIte,Nat.reduceEqDiff,arrSz,Nat.reduceAdd,killE,killB,kill,kills,St.kill,isD,isC,h44,wB,setAll,renB,rens,ren,back,outR_ren,outR_kill,hKill]
   have hw1 : IntKind.wrap .i64 (-n) = -n := wrap_in .i64 _ (by simp only [lo, Fx.hi]; omega)
   have hw2 : IntKind.wrap .i64 (- -n) = n := by rw [Int.neg_neg]; exact wrap_in .i64 _ (by simp only [lo, Fx.hi]; omega)
   have hZ := hT (killE [] e) _ [.var encA, .var [.i k, .i u, .i rm, .i (wcst arcs (wix arcs v k)), .b bk], .dead, .var [.i k, .i u, .i rm, .i (wcst arcs (wix arcs v k)), .b bk]] (EI_kill (by simp) (by simp) (by simp) he) hN3
   unfold hpF h44 wB eP44 at hZ
   cases bk
   ·simp -implicitDefEqProofs only [↓rY,hw1,hmax,encI_set]
    simp only [if_neg (show ¬ (false = true) by decide)] at hZ hdr
    exact ⟨⟨by omega, by omega⟩, by omega, by simp only [lo, Fx.hi]; omega, ⟨by omega, by omega⟩, by omega, by simp only [lo, Fx.hi]; omega, hZ⟩
   ·simp -implicitDefEqProofs only [↓rY,hw1,hw2,hmax2,encI_set]
    simp only [if_pos] at hZ hdr
    exact ⟨⟨by omega, by omega⟩, by omega, by simp only [lo, Fx.hi]; omega, ⟨by omega, by omega⟩, by omega, by simp only [lo, Fx.hi]; omega, hZ⟩
end
end Go.Fx.P.K
namespace Go.Fx.P.K
open Go Go.Fx Go.Proofs
set_option maxRecDepth 20000
section
variable {N : Nat} {arcs : List Arc} {p : List Int} {to : Nat}
theorem encB_set {l : List Bool} {k : Nat} {b : Bool} : (l.map encB).set k [.b b] = (l.set k b).map encB := by
 rw [vW]; rfl
def hpE (N : Nat) (arcs : List Arc) (p : List Int) (to v : Nat) (most : Int) (g : Int × List Int × List Bool) (tl : List Blk) : List Blk :=
 h44 N arcs p to g.2.1 g.2.2 ++ [.var [.i v], .var [.i most], .var [.i g.1], .var [.ptr 0 0 0], .var [.i v], .dead] ++ tl
theorem rng44 (hV : Val N arcs) (hW : ∀ x, XB arcs x → WOk N arcs x p) (hto : to < N) {x : List Int} {d : List Bool} {v : Nat} {most : Int} {Q : Int × List Int × List Bool → Prop} (hx : XB arcs x) (hdl : d.length = N) (hv : v < N) (hvt : v ≠ to) (hvd : d.getD v false = false) (hm : 0 < most ∧ most ≤ 4611686018427387904)
  (IH : ∀ (x1 : List Int) (d1 : List Bool) (v1 : Nat) (m1 : Int), d1.count false < d.count false → XB arcs x1 → d1.length = N → v1 < N → d1.getD v1 false = false → 0 ≤ m1 ∧ m1 ≤ 4611686018427387904 → Ok44 N arcs p to x1 d1 v1 m1)
  {NX RX : St → Prop} {XX : Nat → St → Prop} (hX : ∀ s, NX s → XX 0 s) (hQ : Q = FQ arcs x (fun u => p.getD u 0) to d v most)
  (hfin : ∀ (g : Int × List Int × List Bool) tl, Q (g.1, g.2.1, g.2.2.set v (decide (g.1 < most))) → g.2.2.length = N → NX ⟨eP44, hpE N arcs p to v most g tl, 0⟩) :
  I0 Try.prog 108 [.itr 14, .ptr 12 0 0, .ptr 13 0 0] [14, 0, 1, 2, 3, 4, 5, 6, 7, 8] 14 (yR (cxN Try.prog [0, 1, 2, 3, 4, 5, 6, 7, 8]) [26] c93a0 c93r0 14) (hpF N arcs p to v most (0, x, d.set v true)) (endLp 14 NX XX RX) := by
 subst hQ
 have hvl : v < d.length := by omega
 refine it108 (Inv := fun i (g : G44 arcs) => FN N arcs x (fun u => p.getD u 0) to d v most i g.1) (itH44 (p := p) (to := to) (most := most) hV hv) ?_ ?_ ?_ ⟨(0, x, d.set v true), hx⟩ (FN.start hx (Int.le_of_lt hm.1) hvl)
 ·rintro i ⟨⟨s, x1, d1⟩, hg⟩ hi hI hr
  refine hI.skip hi fun h0 h1 => ?_
  obtain ⟨z1, _⟩ := hI.zero h0
  simp only at z1 hr
  subst z1
  omega
 ·rintro i ⟨g, hg⟩ hi hI hr e bb Z he hT hF
  refine rnd44 hW hvd hdl hto hm hv hi IH hI hr he ?_ ?_ hF
  ·rintro e' h' ⟨g', tl, h1, h2, rfl, rfl⟩
   refine hX _ (hfin g' tl (h1.done hV hvl hvt hvd hm.1 (.inr h2)) (h1.fi.dl.trans hdl))
  ·intro e' g' tl he' hI'
   exact hT e' ⟨g', hI'.fi.xb⟩ tl he' hI'
 ·rintro ⟨g, hg⟩ hI
  have := hfin g [] (hI.done hV hvl hvt hvd hm.1 (.inl rfl)) (hI.fi.dl.trans hdl)
  obtain ⟨s, x1, d1⟩ := g
  unfold hpF h44 wB eP44
  unfold hpE h44 wB eP44 at this
  simp -implicitDefEqProofs only [rX,↓rY,liveP,wfE,wfB,wfV,wfL,outR_wfT] at this ⊢
  exact this
theorem ok93 (hV : Val N arcs) (hW : ∀ x, XB arcs x → WOk N arcs x p) (hto : to < N) : ∀ (c : Nat) (x : List Int) (d : List Bool) (v : Nat) (most : Int), d.count false < c → XB arcs x → d.length = N → v < N → d.getD v false = false → 0 ≤ most ∧ most ≤ 4611686018427387904 → Ok44 N arcs p to x d v most
 | 0, _, d, _, _, hc, _, _, _, _, _ => by omega
 | c + 1, x, d, v, most, hc, hx, hdl, hv, hvd, hm => by
  have IH := ok93 hV hW hto c
  have hxl := hx.hl
  have hWx := hW x hx
  have hvl : v < d.length := by omega
  have hN := hWx.hN
  unfold Ok44
  have hbase := FQ.base (p := fun u => p.getD u 0) (to := to) (d := d) (v := v) hx hm.1
  generalize hQ : FQ arcs x (fun u => p.getD u 0) to d v most = Q at *
  refine okN_of pol [0, 1, 2, 3, 4, 5, 6, 7, 8] lw93 (by simp) ⟨trivial, trivial, trivial, trivial, trivial, trivial, trivial, trivial, trivial, trivial⟩ (by simp [h44]; omega) ?_
  unfold c93 h44 wB
  simp -implicitDefEqProofs only [rX,↓rY,rZ,ofConst,cells?,splice,↓reduceIte,Nat.reduceEqDiff,arrSz,Nat.reduceAdd,reduceCtorEq,freshP,isD,isC,cxN,args0]
  simp only [br]
  refine ⟨fun h1 => ?_, fun h1 => ⟨fun h2 => ?_, fun h2 => ?_⟩⟩
  ·refine retP_isQ _ (hbase (.inl (Int.ofNat.inj (by simpa using h1)))) ?_
   simp -implicitDefEqProofs only [rX,↓reduceIte,Nat.reduceAdd,resP,tupV,leH,leB,leV,leVs,keepP,liveP,wfB,wfV,wfL,outR_wfT]
  ·refine retP_isQ _ (hbase (.inr (by simpa using h2))) ?_
   simp -implicitDefEqProofs only [rX,↓reduceIte,Nat.reduceAdd,resP,tupV,leH,leB,leV,leVs,keepP,liveP,wfB,wfV,wfL,outR_wfT]
  have hvt : v ≠ to := by
   have : ¬ ((v : Int) = to) := by simpa using h1
   omega
  have hm0 : 0 < most := by
   have : ¬ most = 0 := by simpa using h2
   omega
  refine ⟨⟨by omega, by omega⟩, by omega, ?_⟩
  refine call_isN [0, 1, 2, 3] [.ptr 0 0 0, .i v] (.clo 108 [.ptr 4 0 0, .ptr 5 0 0]) (.clo 108 [.ptr 12 0 0, .ptr 13 0 0]) (wH N arcs x p) (wH N arcs x p ++ [Blk.var [V.ptr 0 0 0], Blk.var [V.i v]]) (h44 N arcs p to x (d.set v true) ++ [Blk.var [V.i v], Blk.var [V.i most], Blk.var [V.i 0], Blk.var [V.ptr 0 0 0], Blk.var [V.i v]]) (ok90 N arcs x p v) (by simp) (by simp [wH, wB, blk, renB, rens, ren, pos, outR_ren, hxl]) (by simp [lendsOk, lendOk, lends, lend, wkL, wk, pos]) (by simp [wH]) (by simp [h44, wH, wB, setAll, renB, rens, ren, outR_ren, back, hxl, encB]) (by simp [ren, rens, back]) (by simp [keepP, liveP, h44, wB]) ?_
  unfold h44 wB
  simp -implicitDefEqProofs only [rX]
  refine rfn_go 14 rfl rfl trivial ?_
  refine I0_le (h' := hpF N arcs p to v most (0, x, d.set v true)) ?_ ?_ ?_ ?_ (rng44 hV hW hto hx hdl hv hvt hvd ⟨hm0, hm.2⟩ (fun x1 d1 v1 m1 hlt => IH x1 d1 v1 m1 (by omega)) ?_ hQ.symm ?_)
  ·unfold hpF h44 wB eP44
   simp -implicitDefEqProofs only [rX,↓reduceIte,Nat.reduceEqDiff,reduceCtorEq,leE,leH,leB,leV,leVs,or_true]
  ·simp [keepP, liveP, hpF, h44, wB]
  ·unfold hpF h44 wB eP44
   simp -implicitDefEqProofs only [rX,liveP,wfE,wfB,wfV,wfL,outR_wfT]
  ·unfold hpF h44 wB eP44
   simp -implicitDefEqProofs only [rX,liveP,wfV,wfL]
  ·intro s hs
   exact hs
  ·rintro ⟨s, x1, d1⟩ tl hq hl
   simp only at hl
   unfold hpE h44 wB eP44
   simp -implicitDefEqProofs only [rX,↓rY,rZ,cells?,splice,↓reduceIte,Nat.reduceEqDiff,arrSz,isD,isC,hl]
   refine ⟨⟨by omega, by omega⟩, hv, retP_isQ _ hq ?_⟩
   simp -implicitDefEqProofs only [rX,↓reduceIte,Nat.reduceAdd,resP,tupV,leH,leB,leV,leVs,keepP,liveP,wfB,wfV,wfL,outR_wfT,encB_set]
end
end Go.Fx.P.K
namespace Go.Fx.P.K
open Go Go.Fx Go.Proofs
set_option maxRecDepth 20000
section
variable {N : Nat} {arcs : List Arc} {p : List Int} {to : Nat}
theorem ok66 (hV : Val N arcs) (hW : ∀ x, XB arcs x → WOk N arcs x p) (hto : to < N) (x : List Int) (v : Nat) (most : Int) (hx : XB arcs x) (hv : v < N) (hm : 0 ≤ most ∧ most ≤ 4611686018427387904) :
  OkN Try.prog 66 [.ptr 0 0 0, .i v, .i to, .i most] (wH N arcs x p) [] (IsQ (FQ arcs x (fun u => p.getD u 0) to (yA N false) v most) (fun g => .i g.1) (fun g => wH N arcs g.2.1 p)) := by
 have hWx := hW x hx
 have hN := hWx.hN
 have hxl := hx.hl
 have hfree : (yA N false).getD v false = false := by rw [getD_natB (by simpa using hv)]; simp
 have hcall := ok93 hV hW hto (N + 1) x (yA N false) v most (by simp) hx (by simp) hv hfree hm
 unfold Ok44 at hcall
 generalize hQ : FQ arcs x (fun u => p.getD u 0) to (yA N false) v most = Q at *
 refine okN_of pol [0, 1, 2, 3] lw66 (by simp) ⟨trivial, trivial, trivial, trivial, trivial⟩ (by simp [wH]; omega) ?_
 unfold c66 wH wB
 simp -implicitDefEqProofs only [rX,↓rY,ofConst,cells?,splice,↓reduceIte,Nat.reduceEqDiff,Nat.reduceAdd,reduceCtorEq,freshP,isC,cxN,args0]
 refine ⟨⟨⟨by omega, by omega⟩, by omega, by omega⟩, ?_⟩
 refine call_isM Q [0, 1, 2, 3, 4, 5, 6, 7, 8] [] [] [.i v, .i most, .ptr 5 0 0, .ptr 7 0 0, .ptr 4 0 0, .ptr 8 0 0] (fun g => .i g.1) (h44 N arcs p to x (yA N false)) (fun g => h44 N arcs p to g.2.1 g.2.2) hcall (by simp) (by simp) (by simp [h44, wB, blk, renB, rens, ren, pos, outR_ren, hxl, encB]) (by simp [lendsOk, lendOk, lends, lend, wkL, wk, pos]) fun g hg => ⟨by simp [keepP, liveP, h44, wB, setAll, renB, killB], ?_⟩
 obtain ⟨n, x2, d2⟩ := g
 have hx2 : x2.length = arcs.length := by
  rw [← hQ] at hg
  exact hg.fi.xb.hl
 simp -implicitDefEqProofs only [rX,↓reduceIte,Nat.reduceAdd,killE,killB,kill,kills,St.kill,h44,wB,setAll,renB,rens,ren,back,outR_ren,outR_kill]
 refine retP_isQ _ hg ?_
 simp -implicitDefEqProofs only [rX,↓reduceIte,Nat.reduceAdd,resP,tupV,leH,leB,leV,leVs,keepP,liveP,wfB,wfV,wfL,outR_wfT,hx2]
end
end Go.Fx.P.K
namespace Go.Fx.P.K
open Go Go.Fx Go.Proofs
set_option maxRecDepth 20000
section
variable {N : Nat} {arcs : List Arc} {p x : List Int}
theorem ok92 (hW : WOk N arcs x p) (hx : XB arcs x) : OkN Try.prog 92 [.ptr 0 0 0] (wH N arcs x p) [] (IsA (.i (totTo arcs x arcs.length)) (wH N arcs x p)) := by
 have hV := hW.hV
 have hN := hW.hN
 have hxl := hW.hx
 have hal := hV.hl
 refine okN_of pol [0, 1, 2, 3] lw92 (by simp) ⟨trivial, trivial, trivial, trivial, trivial⟩ (by simp [wH]; omega) ?_
 unfold c92 wH wB
 simp -implicitDefEqProofs only [rX,↓rY,ofConst,↓reduceIte,Nat.reduceAdd,reduceCtorEq,cxN,args0]
 intro hm
 have hf : ∀ y ∈ x, 0 ≤ y ∧ y ≤ 1073741824 := fun y hy => by
  obtain ⟨i, hi, rfl⟩ := yL hy
  rw [← getD_nat hi]
  exact hx.bd hV i
 have ha : ∀ a ∈ arcs, 0 ≤ a.cost ∧ a.cost ≤ 1048576 := fun a h => (hV.ha a h).2.2.2.2
 refine loopP_intro (fun k : Nat => (⟨[(12, .i k), (11, .i arcs.length), (10, .ro 4 (arcs.map Arc.enc)), (3, .i (totTo arcs x k)), (0, .ptr 0 0 0)], [.var [.i N, .ro 4 (arcs.map Arc.enc), .sl 1 0 x.length, .sl 2 0 N, .sl 3 0 N], .arr 1 (x.map encI), .arv 1 (outR arcs N), .arr 1 (p.map encI)], 0⟩ : St)) (fun k => k ≤ arcs.length) (fun k => arcs.length - k) 0 (yO _) ?_ fun k hk => ?_
 ·simp -implicitDefEqProofs only [rX,↓reduceIte,Nat.reduceEqDiff,reduceCtorEq,leE,leH,leB,leV,leVs,keepP,liveP,wfE,wfB,wfV,wfL,outR_wfT,totTo,yC]
 ·rcases yX k arcs.length with h | h
  ·have hd : decide ((k : Int) < arcs.length) = true := decide_eq_true (by omega)
   simp -implicitDefEqProofs only [rX,↓rY,rZ,ofConst,cells?,splice,↓reduceIte,Nat.reduceEqDiff,arrSz,Nat.reduceAdd,reduceCtorEq,freshP,leE,leH,leB,leV,leVs,keepP,liveP,wfE,wfB,wfV,wfL,hd]
   have hk2 : k < x.length := by omega
   have hfk := hf x[k] (yG hk2)
   have hak := ha arcs[k] (yG h)
   have hvb := totTo_bound arcs x hf ha k
   have hst := totTo_step h hk2
   have hmb := mul_b hfk hak
   rw [Int.mul_comm] at hst hmb
   refine ⟨⟨by omega, by omega⟩, h, ⟨by omega, by omega⟩, hk2, by simp only [lo, hi]; omega, by simp only [lo, hi]; omega, by simp only [lo, hi]; omega, k + 1, ⟨by omega, by omega⟩, ?_⟩
   simp -implicitDefEqProofs only [rX,outR_wfT,hst]
   trivial
  ·have hd : decide ((k : Int) < arcs.length) = false := decide_eq_false (by omega)
   have : k = arcs.length := by omega
   subst this
   simp -implicitDefEqProofs only [rX,↓rY,↓reduceIte,Nat.reduceEqDiff,Nat.reduceAdd,resP,tupV,leH,leB,leV,leVs,keepP,liveP,wfB,wfV,wfL,hd,retP_isA,outR_wfT]
end
end Go.Fx.P.K
namespace Go.Fx.P.K
open Go Go.Fx Go.Proofs
structure SI (N : Nat) (arcs : List Arc) (f t : Nat) (am : Int) (x p : List Int) (sent : Int) : Prop where
 xb : XB arcs x
 val : ∀ w : Nat, valTo arcs w x arcs.length = vd f sent w - vd t sent w
 nn : NN arcs x fun u => p.getD u 0
 pl : p.length = N
 p0 : p.getD f 0 = 0
 pb : ∀ j, 0 ≤ p.getD j 0 ∧ p.getD j 0 ≤ p.getD t 0
 pt : p.getD t 0 ≤ ((N : Int) - 1) * 1048576
 s0 : 0 ≤ sent ∧ sent ≤ am
def Reach (arcs : List Arc) (x p : List Int) (f t : Nat) : Prop := ∀ S : Nat → Prop, S f → (∀ i, wres arcs x i → rcst arcs (fun u => p.getD u 0) i = 0 → S (wsrc arcs i) → S (wdst arcs i)) → S t
section
variable {N : Nat} {arcs : List Arc} {f t : Nat} {am sent : Int} {x p : List Int}
theorem SI.pmax (hN : 1 ≤ N ∧ N ≤ 64) (h : SI N arcs f t am x p sent) (j : Nat) : 0 ≤ p.getD j 0 ∧ p.getD j 0 ≤ 1073741824 := by
 have h1 := h.pb j
 have h2 := h.pt
 have : ((N : Int) - 1) * 1048576 ≤ 63 * 1048576 := vB (by omega) (by omega)
 omega
theorem SI.wok (hV : Val N arcs) (hN : N ≤ 64) (h : SI N arcs f t am x p sent) (y : List Int) (hy : XB arcs y) : WOk N arcs y p :=
 ⟨hV, hN, hy.hl, h.pl, h.pmax ⟨hV.hn.1, hN⟩⟩
theorem cs_tel (hV : Val N arcs) {hs : f < N} {hn : NN arcs x fun u => p.getD u 0} : ∀ {v : Nat} {r : List Nat}, Lb.PR (grD N arcs x (fun u => p.getD u 0) f hV hs hn) v r → Lb.cs (grD N arcs x (fun u => p.getD u 0) f hV hs hn) r + p.getD v 0 ≤ (r.length : Int) * 1048576 + p.getD f 0
 | v, [], h => by
  rw [show v = f from h]
  simp [Lb.cs]
 | v, i :: r, h => by
  have ih := cs_tel hV h.2.2
  have hi : wres arcs x i := h.1
  have hd : wdst arcs i = v := h.2.1
  have hc := wcst_b hV hi.1
  have e : Lb.cs (grD N arcs x (fun u => p.getD u 0) f hV hs hn) (i :: r) = rcst arcs (fun u => p.getD u 0) i + Lb.cs (grD N arcs x (fun u => p.getD u 0) f hV hs hn) r := rfl
  have ihs : Lb.cs (grD N arcs x (fun u => p.getD u 0) f hV hs hn) r + p.getD (wsrc arcs i) 0 ≤ (r.length : Int) * 1048576 + p.getD f 0 := ih
  rw [e]
  unfold rcst
  rw [hd, yK, yZ, vA]
  simp only [Int.natCast_one, Int.one_mul]
  omega
theorem SI.price (hV : Val N arcs) (hf : f < N) (ht : t < N) (h : SI N arcs f t am x p sent) {D : List Int} (hD : DistQ N (grD N arcs x (fun u => p.getD u 0) f hV hf h.nn) D) (hN : N ≤ 64) (hdt : D.getD t 0 ≠ far) {p' : List Int} (hl : p'.length = N) (hp : ∀ k, k < N → p'.getD k 0 = p.getD k 0 + min (D.getD k 0) (D.getD t 0)) :
  SI N arcs f t am x p' sent ∧ Reach arcs x p' f t := by
 have hb : ∀ u, u < N → 0 ≤ D.getD u 0 ∧ (D.getD u 0 = far ∨ D.getD u 0 ≤ KB) := fun u hu => lab_b hN (fun j => h.pmax ⟨hV.hn.1, hN⟩ j) hD.lab hu
 have hKB : KB < far := by decide
 have hDf : D.getD f 0 = 0 := hD.lab.h0
 have hbt := hb t ht
 have hcl : ∀ i, wres arcs x i → D.getD (wsrc arcs i) 0 < far → D.getD (wdst arcs i) 0 ≤ D.getD (wsrc arcs i) 0 + rcst arcs (fun u => p.getD u 0) i := fun i hi hlt => hD.cl i hi hlt
 have hr' : ∀ i, wres arcs x i → rcst arcs (fun u => p'.getD u 0) i = rcst arcs (fun u => p.getD u 0) i + min (D.getD (wsrc arcs i) 0) (D.getD t 0) - min (D.getD (wdst arcs i) 0) (D.getD t 0) := by
  intro i hi
  obtain ⟨w1, w2, _⟩ := w_in hV hi.1
  unfold rcst
  simp only
  rw [hp _ w1, hp _ w2]
  omega
 have hout : ∀ j, ¬ j < N → p'.getD j 0 = 0 ∧ p.getD j 0 = 0 := by
  intro j hj
  have h1 := h.pl
  rw [yF, yF, vV (by omega), vV (by omega)]
  exact ⟨rfl, rfl⟩
 obtain ⟨r, hW⟩ : ∃ r, Lb.Wp (grD N arcs x (fun u => p.getD u 0) f hV hf h.nn) (fun u => D.getD u 0) t r := by
  rcases hD.lab.hw t ht with he | ⟨_, h⟩
  ·exact absurd he hdt
  ·exact h
 have hpt' := hp t ht
 rw [Int.min_self] at hpt'
 refine ⟨⟨h.xb, h.val, fun i hi => ?_, hl, ?_, fun j => ?_, ?_, h.s0⟩, ?_⟩
 ·rw [hr' i hi]
  have h1 := h.nn i hi
  have hm1 := yQ (D.getD (wdst arcs i) 0) (D.getD t 0)
  have hm2 := vS (D.getD (wdst arcs i) 0) (D.getD t 0)
  rcases Int.le_total (D.getD t 0) (D.getD (wsrc arcs i) 0) with h2 | h2
  ·rw [Int.min_eq_right h2]; omega
  ·rw [vD h2]
   have := hcl i hi (by rcases hbt.2 with e | e <;> omega)
   omega
 ·rw [hp f hf, h.p0, hDf, vD hbt.1]; rfl
 ·by_cases hj : j < N
  ·rw [hp j hj, hpt']
   have h1 := h.pb j
   have h2 := hb j hj
   have hm1 := yQ (D.getD j 0) (D.getD t 0)
   have hm2 : 0 ≤ min (D.getD j 0) (D.getD t 0) := Int.le_min.2 ⟨h2.1, hbt.1⟩
   omega
  ·rw [(hout j hj).1, hpt']
   have := h.pb t
   omega
 ·rw [hpt']
  have h1 := cs_tel hV hW.pr
  have h2 := hW.len
  rw [hW.co, h.p0] at h1
  have h3 : r.length < N := h2
  have h4 : (r.length : Int) * 1048576 ≤ ((N : Int) - 1) * 1048576 := vB (by omega) (by omega)
  have h1' : D.getD t 0 + p.getD t 0 ≤ (r.length : Int) * 1048576 + 0 := h1
  omega
 ·intro S hS hstep
  have hCl : Lb.Cl (grD N arcs x (fun u => p.getD u 0) f hV hf h.nn) far (fun u => D.getD u 0) := fun i hi hlt => hcl i hi hlt
  have hfin : ∀ i, (grD N arcs x (fun u => p.getD u 0) f hV hf h.nn).res i → D.getD (wsrc arcs i) 0 < far → D.getD (wdst arcs i) 0 < far := by
   intro i hi hlt
   have hi' : wres arcs x i := hi
   obtain ⟨w1, w2, _⟩ := w_in hV hi'.1
   have h1 := hcl i hi' hlt
   have h2 := hb _ w1
   have h3 := wcst_b hV hi'.1
   have h4 := h.pmax ⟨hV.hn.1, hN⟩ (wsrc arcs i)
   have h5 := h.pmax ⟨hV.hn.1, hN⟩ (wdst arcs i)
   unfold rcst at h1
   simp only at h1
   have : KB + 1048576 + 1073741824 < far := by decide
   rcases h2.2 with e | e <;> omega
  have hti := Lb.tight_of hDf (by decide : (0 : Int) < far) hCl hfin hW.pr hW.co
  have key : ∀ (v : Nat) (r : List Nat), Lb.PR (grD N arcs x (fun u => p.getD u 0) f hV hf h.nn) v r → Lb.Tight (grD N arcs x (fun u => p.getD u 0) f hV hf h.nn) (fun u => D.getD u 0) v r → D.getD v 0 ≤ D.getD t 0 → S v := by
   intro v r
   induction r generalizing v with
   | nil => intro h1 _ _; rw [show v = f from h1]; exact hS
   | cons i r ih =>
    intro h1 h2 h3
    have hi : wres arcs x i := h1.1
    have hd : wdst arcs i = v := h1.2.1
    have ht1 : D.getD (wdst arcs i) 0 = D.getD (wsrc arcs i) 0 + rcst arcs (fun u => p.getD u 0) i := h2.1
    have h0 := h.nn i hi
    rw [← hd] at h3 ⊢
    refine hstep i hi ?_ (ih (wsrc arcs i) h1.2.2 h2.2 (by omega))
    rw [hr' i hi, vD h3, vD (by omega)]
    omega
  exact key t r hW.pr hti (yD _)
theorem SI.fill (h : SI N arcs f t am x p sent) (hf : f < N) {n : Int} {x' : List Int} {d' : List Bool} (hq : FQ arcs x (fun u => p.getD u 0) t (yA N false) f (am - sent) (n, x', d')) :
  SI N arcs f t am x' p (sent + n) ∧ 0 ≤ n ∧ (Reach arcs x p f t → sent < am → 0 < n) := by
 have hfi := hq.fi
 have hn := hq.n0
 simp only at hfi hn
 have hs := h.s0
 refine ⟨⟨hfi.xb, fun w => ?_, fun i hi => ?_, h.pl, h.p0, h.pb, h.pt, by omega⟩, hn.1, fun hR hlt => ?_⟩
 ·rw [hfi.val, h.val, vd_add, vd_add]; omega
 ·by_cases e : x'.getD (i / 2) 0 = x.getD (i / 2) 0
  ·refine h.nn i ⟨hi.1, ?_⟩
   have := hi.2
   unfold wrm at this ⊢
   rw [e] at this
   exact this
  ·have h0 := hfi.tig (i / 2) hi.1 e
   by_cases e2 : i % 2 = 0
   ·rw [show 2 * (i / 2) = i by omega] at h0
    omega
   ·have h1 := rcst_b (arcs := arcs) (p := fun u => p.getD u 0) (k := i / 2)
    rw [show 2 * (i / 2) + 1 = i by omega] at h1
    omega
 ·apply Classical.byContradiction
  intro hz
  have h0 : n = 0 := by omega
  obtain ⟨z1, z2, z3⟩ := hq.zero h0 (by omega)
  simp only at z1 z2 z3
  have hfr : ∀ u, (yA N false).getD u false = false := by
   intro u
   rw [yF, yV]
   split <;> rfl
  have : d'.getD t false = true := hR (fun u => d'.getD u false = true) z2 fun i hi hc hu => (z3 _ hu (hfr _)).2 i hi rfl hc
  exact (z3 t this (hfr t)).1 rfl
def cutL (D : List Int) : Nat → List Int
 | 0 => []
 | k + 1 => if D.getD k 0 < far then cutL D k ++ [(k : Int)] else cutL D k
theorem cutL_mem {D : List Int} {v : Int} : ∀ {k : Nat}, v ∈ cutL D k ↔ (0 ≤ v ∧ v < k) ∧ D.getD v.toNat 0 < far
 | 0 => by
  simp only [cutL, List.not_mem_nil, false_iff]
  omega
 | k + 1 => by
  have ih := cutL_mem (D := D) (v := v) (k := k)
  unfold cutL
  by_cases e : v = k
  ·subst e
   rw [yB] at ih ⊢
   split
   ·rename_i h
    rw [vX, yN]
    exact ⟨fun _ => ⟨by omega, h⟩, fun _ => .inr rfl⟩
   ·rename_i h
    rw [ih]
    exact ⟨fun h2 => absurd h2.2 h, fun h2 => absurd h2.2 h⟩
  ·split
   ·rw [vX, ih, yN]
    constructor
    ·rintro (h1 | h1)
     ·exact ⟨⟨h1.1.1, by omega⟩, h1.2⟩
     ·exact absurd h1 e
    ·intro h1
     exact .inl ⟨⟨h1.1.1, by omega⟩, h1.2⟩
   ·rw [ih]
    constructor
    ·intro h1
     exact ⟨⟨h1.1.1, by omega⟩, h1.2⟩
    ·intro h1
     exact ⟨⟨h1.1.1, by omega⟩, h1.2⟩
theorem cutL_len {D : List Int} : ∀ {k : Nat}, (cutL D k).length ≤ k
 | 0 => by simp [cutL]
 | k + 1 => by
  have := cutL_len (D := D) (k := k)
  unfold cutL
  split <;> simp <;> omega
theorem cutL_ok {D : List Int} {n : Int} : ∀ {k : Nat}, (k : Int) ≤ n → OkS n (cutL D k) (cutL D k).length
 | 0, _ => ⟨fun j h => by simp [cutL] at h⟩
 | k + 1, hk => by
  have ih := cutL_ok (D := D) (n := n) (k := k) (by omega)
  have hm := fun v => cutL_mem (D := D) (v := v) (k := k)
  unfold cutL
  split
  ·refine ⟨fun j hj _ => ?_⟩
   rw [yM, vY] at hj
   by_cases e : j < (cutL D k).length
   ·rw [vZ e]
    have := ih.h j e e
    refine ⟨this.1, fun h0 => ?_⟩
    have h2 := this.2 h0
    rw [getD_nat (by omega)] at h2
    rw [getD_nat (by rw [yM, vY]; omega), vZ (by omega)]
    exact h2
   ·have ej : j = (cutL D k).length := by omega
    subst ej
    rw [uG (uA _)]
    simp only [Nat.sub_self, List.getElem_singleton]
    refine ⟨by omega, fun h0 => ?_⟩
    rw [getD_nat (by rw [yM, vY]; omega), vZ (by omega)]
    have := ((hm _).1 (yG (l := cutL D k) (n := (cutL D k).length - 1) (by omega))).1
    omega
  ·exact ih
theorem SI.okF (hf : f < N) (ht : t < N) (h : SI N arcs f t am x p sent) : OkF N arcs f t x := by
 refine ⟨h.xb.hl, fun i h1 h2 => ?_, fun j h1 h2 h3 h4 => ?_⟩
 ·have := h.xb.hb i h2
  rw [gA_at h2, getD_nat h1] at this
  exact this
 ·have := h.val j.toNat
  rw [vE h1] at this
  rw [this]
  unfold vd
  rw [if_neg (by omega), if_neg (by omega)]; rfl
theorem SI.okP (hV : Val N arcs) (hN : N ≤ 64) (h : SI N arcs f t am x p sent) : OkP N arcs f x p := by
 have hs := nn_slack.1 h.nn
 refine ⟨h.pl, by rw [yB]; exact h.p0, fun j hj => ?_, fun k hk => ?_⟩
 ·rw [← getD_nat hj]; exact h.pmax ⟨hV.hn.1, hN⟩ j
 ·have := hs k hk
  rw [gA_at hk] at this
  exact this
theorem SI.okv (hft : f ≠ t) (h : SI N arcs f t am x p sent) : valTo arcs f x arcs.length = sent := by
 rw [h.val]
 unfold vd
 rw [if_pos rfl, if_neg hft]; omega
theorem SI.all (hV : Val N arcs) (hN : N ≤ 64) (hf : f < N) (ht : t < N) (hft : f ≠ t) (h : SI N arcs f t am x p sent) (he : sent = am) : OkAc N arcs f t am ⟨sent, totTo arcs x arcs.length, x, p, []⟩ :=
 ⟨h.okF hf ht, h.s0, h.okv hft, rfl, h.okP hV hN, by simp only; rw [if_pos he]; trivial⟩
theorem SI.cut (hV : Val N arcs) (hN : N ≤ 64) (hf : f < N) (ht : t < N) (hft : f ≠ t) (h : SI N arcs f t am x p sent) (he : sent < am) {D : List Int} (hD : DistQ N (grD N arcs x (fun u => p.getD u 0) f hV hf h.nn) D) (hdt : D.getD t 0 = far) : OkAc N arcs f t am ⟨sent, totTo arcs x arcs.length, x, p, cutL D N⟩ := by
 have hKB : KB < far := by decide
 have hb : ∀ u, u < N → 0 ≤ D.getD u 0 ∧ (D.getD u 0 = far ∨ D.getD u 0 ≤ KB) := fun u hu => lab_b hN (fun j => h.pmax ⟨hV.hn.1, hN⟩ j) hD.lab hu
 have hDf : D.getD f 0 = 0 := hD.lab.h0
 have hcl : ∀ i, wres arcs x i → D.getD (wsrc arcs i) 0 < far → D.getD (wdst arcs i) 0 < far := by
  intro i hi hlt
  obtain ⟨w1, w2, _⟩ := w_in hV hi.1
  have h1 : D.getD (wdst arcs i) 0 ≤ D.getD (wsrc arcs i) 0 + rcst arcs (fun u => p.getD u 0) i := hD.cl i hi hlt
  have h2 := hb _ w1
  have h3 := wcst_b hV hi.1
  have h4 := h.pmax ⟨hV.hn.1, hN⟩ (wsrc arcs i)
  have h5 := h.pmax ⟨hV.hn.1, hN⟩ (wdst arcs i)
  unfold rcst at h1
  simp only at h1
  have : KB + 1048576 + 1073741824 < far := by decide
  rcases h2.2 with e | e <;> omega
 have hh : ∀ v : Int, hasB (cutL D N) v = true ↔ ((0 ≤ v ∧ v < N) ∧ D.getD v.toNat 0 < far) := by
  intro v
  unfold hasB
  rw [decide_eq_true_eq, cutL_mem]
 have hfalse : ∀ v : Int, 0 ≤ v ∧ v < N → hasB (cutL D N) v = false → ¬ D.getD v.toNat 0 < far := by
  intro v hv h1 h2
  rw [(hh v).2 ⟨hv, h2⟩] at h1
  cases h1
 refine ⟨h.okF hf ht, h.s0, h.okv hft, rfl, h.okP hV hN, ?_⟩
 simp only
 rw [if_neg (by omega)]
 refine ⟨cutL_ok (yD _), (hh _).2 ⟨by omega, by rw [yB, hDf]; decide⟩, ?_, ⟨fun j hj _ => ?_⟩⟩
 ·rw [← Bool.not_eq_true, hh, yB, hdt]
  exact fun h1 => absurd h1.2 (vR _)
 ·have hva := hV.at hj
  have hxb := h.xb.hb j hj
  rw [gA_at hj] at hva hxb
  refine ⟨fun h1 h2 => ?_, fun h1 h2 => ?_⟩
  ·have h3 := ((hh _).1 h1).2
   have h4 := hfalse _ hva.2.1 h2
   apply Classical.byContradiction
   intro h5
   have := hcl (2 * j) ⟨by omega, by
    unfold wrm
    rw [if_pos (by omega), show 2 * j / 2 = j by omega, gA_at hj]; omega⟩
   unfold wsrc wdst at this
   rw [if_pos (by omega), if_pos (by omega), show 2 * j / 2 = j by omega, gA_at hj] at this
   exact h4 (this h3)
  ·have h3 := ((hh _).1 h1).2
   have h4 := hfalse _ hva.1 h2
   apply Classical.byContradiction
   intro h5
   have := hcl (2 * j + 1) ⟨by omega, by
    unfold wrm
    rw [if_neg (by omega), show (2 * j + 1) / 2 = j by omega]; omega⟩
   unfold wsrc wdst at this
   rw [if_neg (by omega), if_neg (by omega), show (2 * j + 1) / 2 = j by omega, gA_at hj] at this
   exact h4 (this h3)
end
end Go.Fx.P.K
namespace Go.Fx.P.K
open Go Go.Fx Go.Proofs
set_option maxRecDepth 20000
section
variable {N : Nat} {arcs : List Arc} {p x : List Int}
abbrev pat29 (N : Nat) (arcs : List Arc) (x p D : List Int) (sent tot : Int) (k : Nat) : St :=
 ⟨[(24, .i k), (23, .i D.length), (22, .bro 1 (D.map encI)), (7, .ptr 5 0 0), (6, .ptr 4 0 0)], [wB N x.length arcs 1 2 3, .arr 1 (x.map encI), .arv 1 (outR arcs N), .arr 1 (p.map encI), .var [.i 0, .i 0, .nil, .nil, .nil], .var [.i sent, .i tot, .sl 1 0 x.length, .sl 3 0 N, .sl 6 0 (cutL D k).length], .arr 1 ((cutL D k).map encI)], 0⟩
theorem body29 (D : List Int) (hD : D.length ≤ 64) (sent tot : Int) {RR : St → Prop} {X : Nat → St → Prop}
  (hX : ∀ e b, get e 7 = .ptr 5 0 0 → get e 6 = .ptr 4 0 0 → X 0 ⟨e, (pat29 N arcs x p D sent tot D.length).h, b⟩) (k : Nat) (hk : k ≤ D.length) :
  aw (cxN Try.prog [0, 1, 2, 3]) c65l0 (fun s' => ∃ k' : Nat, (k' ≤ D.length ∧ D.length - k' < D.length - k) ∧ leS [0, 1, 2, 3] s' (pat29 N arcs x p D sent tot k')) X RR (pat29 N arcs x p D sent tot k) := by
 have hcl := cutL_len (D := D) (k := k)
 unfold c65l0 pat29 wB
 rcases yX k D.length with h | h
 ·have hd : decide ((k : Int) < D.length) = true := decide_eq_true (by omega)
  simp -implicitDefEqProofs only [rX,↓rY,rZ,ofConst,cells?,splice,↓reduceIte,Nat.reduceEqDiff,Nat.reduceAdd,reduceCtorEq,freshP,litsP,leE,leH,leB,leV,leVs,keepP,liveP,wfE,wfB,wfV,wfL,killE,killB,kill,kills,St.kill,isD,isC,Nat.reduceLT,cxN,hd,outR_kill]
  have hDk : D.getD k 0 = D[k] := getD_nat h
  simp only [br, decide_eq_true_eq, decide_eq_false_iff_not]
  refine ⟨⟨by omega, by omega⟩, h, ⟨fun hf => ?_, fun hf => ?_⟩⟩
  ·have hcs : cutL D (k + 1) = cutL D k ++ [(k : Int)] := by
    show (if D.getD k 0 < far then _ else _) = _
    rw [if_pos (by rw [hDk]; exact hf)]
   refine ⟨by omega, by simp only [lo, hi]; omega, k + 1, ⟨by omega, by omega⟩, by simp, ?_⟩
   rw [hcs]
   refine ⟨⟨by simp, ?_⟩, outR_wf⟩
   rw [vP, yI (by simp)]
   rfl
  ·have hcs : cutL D (k + 1) = cutL D k := by
    show (if D.getD k 0 < far then _ else _) = _
    rw [if_neg (by rw [hDk]; exact hf)]
   refine ⟨by simp only [lo, hi]; omega, k + 1, ⟨by omega, by omega⟩, ?_⟩
   rw [hcs]
   simp -implicitDefEqProofs only [rX,outR_wfT]
   trivial
 ·have hd : decide ((k : Int) < D.length) = false := decide_eq_false (by omega)
  have : k = D.length := by omega
  subst this
  have := hX
  unfold pat29 wB at this
  simp -implicitDefEqProofs only [rX,↓rY,↓reduceIte,Nat.reduceEqDiff,Nat.reduceAdd,cxN,hd]
  exact this _ _ rfl rfl
theorem ok65 (hW : WOk N arcs x p) (hx : XB arcs x) (sent : Int) (D : List Int) (hD : D.length ≤ N) : OkN Try.prog 65 [.ptr 0 0 0, .i sent, .bro 1 (D.map encI)] (wH N arcs x p) [] (IsA (.agg [.i sent, .i (totTo arcs x arcs.length), .sl 1 0 x.length, .sl 3 0 N, .sl 6 0 (cutL D D.length).length]) (wH N arcs x p ++ [.dead, .dead, .arr 1 ((cutL D D.length).map encI)])) := by
 have hV := hW.hV
 have hN := hW.hN
 have hxl := hW.hx
 have hal := hV.hl
 have hcall := ok92 hW hx
 generalize hT : totTo arcs x arcs.length = tot at *
 refine okN_of pol [0, 1, 2, 3] lw65 (by simp) ⟨trivial, trivial, trivial, trivial, trivial⟩ (by simp [wH]; omega) ?_
 unfold c65 wH wB
 simp -implicitDefEqProofs only [rX,↓rY,ofConst,cells?,↓reduceIte,Nat.reduceEqDiff,Nat.reduceAdd,reduceCtorEq,freshP,cxN,args0]
 repeat' refine And.intro ?_ ?_
 all_goals
  refine call_isN [0, 1, 2, 3] [.ptr 0 0 0] (.i tot) (.i tot) (wH N arcs x p) (wH N arcs x p) _ hcall (by simp) (by simp [wH, wB, blk, renB, rens, ren, pos, outR_ren]) (by simp [lendsOk, lendOk, lends, lend, wkL, wk, pos]) (by simp [wH]) rfl rfl (by simp [keepP, liveP, wH, wB, setAll, renB]) ?_
  simp -implicitDefEqProofs only [rX,↓rY,rdK,ofConst,cells?,splice,↓reduceIte,Nat.reduceEqDiff,Nat.reduceAdd,reduceCtorEq,freshP,buildP,isC,Nat.reduceLeDiff,wH,wB,setAll,renB,rens,ren,outR_ren,back]
  intro _
  refine loopP_ghost (.virt 1 1 (by decide) (.nilB 5 [.i sent, .i tot, .sl 1 0 x.length, .sl 3 0 N, .nil] [.i sent, .i tot, .sl 1 0 x.length, .sl 3 0 N, .sl 6 0 0] rfl ⟨rfl, fun i a b h1 h2 => ?_⟩ (.refl _))) (pat29 N arcs x p D sent tot) (fun k => k ≤ D.length) (fun k => D.length - k) 0 (yO _) ?_ (body29 D (by omega) sent tot fun e b he1 he2 => ?_)
  ·match i with
   | 0 => simp at h1 h2; subst h1 h2; exact .inl rfl
   | 1 => simp at h1 h2; subst h1 h2; exact .inl rfl
   | 2 => simp at h1 h2; subst h1 h2; exact .inl rfl
   | 3 => simp at h1 h2; subst h1 h2; exact .inl rfl
   | 4 => simp at h1 h2; subst h1 h2; exact .inr ⟨rfl, _, rfl⟩
   | i + 5 => simp at h1
  ·unfold pat29 wB
   simp -implicitDefEqProofs only [rX,↓reduceIte,Nat.reduceEqDiff,leE,leH,leB,leV,leVs,keepP,liveP,wfE,wfB,wfV,wfL,outR_wfT,cutL,yC]
  ·unfold pat29 wB
   simp -implicitDefEqProofs only [rX,↓rY,cells?,splice,↓reduceIte,Nat.reduceEqDiff,Nat.reduceAdd,resP,tupV,leH,leB,leV,leVs,keepP,liveP,wfB,wfV,wfL,isC,Nat.reduceLeDiff,he1,he2,retP_isA,outR_wfT]
end
end Go.Fx.P.K
namespace Go.Fx.P.K
open Go Go.Fx Go.Proofs
set_option maxRecDepth 20000
def badP (x : Int) : Bool := decide (x < 0 ∨ 1073741824 < x)
theorem ok95 (x : Int) : Ok 95 [.i x] (Is (.b (badP x))) := by
 refine ok_of lw95 (by simp) ?_
 unfold c95
 simp -implicitDefEqProofs only [rX,↓rY,ofConst,↓reduceIte,Nat.reduceEqDiff,reduceCtorEq,resP,tupV,wfV,cxN,args0]
 simp only [br, decide_eq_true_eq, decide_eq_false_iff_not, badP]
 grind
def firstB (l : List Int) : Int := if l.any badP then (l.findIdx badP : Nat) else -1
structure GInv (l : List Int) (k : Nat) : Prop where
 h : ∀ j (h : j < l.length), j < k → badP l[j] = false
theorem ok82 (l : List Int) : Ok 82 [li l, .clo 95 []] (Is (.i (firstB l))) := by
 refine ok_of lw82 (by simp) ?_
 unfold c82 li
 simp -implicitDefEqProofs only [rX,↓rY,ofConst,↓reduceIte,reduceCtorEq,cxN,args0]
 intro hm
 refine loopP_intro (fun k : Nat => ⟨[(8, .i k), (7, .i l.length), (1, .clo 95 []), (0, .ro 1 (l.map encI))], [], 0⟩) (fun k => k ≤ l.length ∧ GInv l k) (fun k => l.length - k) 0 ⟨by omega, ⟨by simp⟩⟩ ?_ ?_
 ·simp -implicitDefEqProofs only [rX,↓reduceIte,Nat.reduceEqDiff,reduceCtorEq,leE,leH,keepP,wfE,wfB,wfV,wfL,yC]
 rintro k ⟨hk, hv⟩
 unfold c82l0
 simp -implicitDefEqProofs only [rX,↓rY,rZ,ofConst,↓reduceIte,Nat.reduceEqDiff,reduceCtorEq,resP,tupV,wfV]
 simp only [br, yB, decide_eq_true_eq, decide_eq_false_iff_not]
 refine ⟨fun h => ⟨⟨by omega, h⟩, by omega, ?_⟩, fun h => ?_⟩
 ·have hk : k < l.length := by omega
  refine call_is (ok95 l[k]) ?_ rfl trivial ?_
  ·simp [lendsOk, lendOk, lends, lend, wkL, wk, pos]
  cases hb : badP l[k] with
  | true =>
   simp -implicitDefEqProofs only [rX,↓rY,↓reduceIte,Nat.reduceEqDiff,resP,tupV,wfV]
   have h1 : l.any badP = true := by
    rw [vF]; exact ⟨_, yG hk, hb⟩
   have h2 : l.findIdx badP = k := by
    rw [List.findIdx_eq hk]
    exact ⟨hb, fun j hj => hv.h j (by omega) hj⟩
   simp [firstB, h1, h2]
  | false =>
   simp -implicitDefEqProofs only [rX,↓rY,ofConst,↓reduceIte,Nat.reduceEqDiff,reduceCtorEq,leE,leH,keepP,wfE,wfB,wfV,wfL]
   refine ⟨by simp only [lo, hi, maxLen] at *; omega, k + 1, ⟨⟨by omega, ⟨fun j hj h2 => ?_⟩⟩, by omega⟩, by simp⟩
   by_cases h3 : j = k
   ·subst h3; exact hb
   ·exact hv.h j hj (by omega)
 ·have h1 : l.any badP = false := by
   rw [vG]
   intro x hx
   obtain ⟨j, hj, rfl⟩ := yL hx
   simp [hv.h j hj (by omega)]
  simp [firstB, h1]
theorem ok94 (l : List Int) : Ok 94 [li l, .clo 95 []] (Is (.b (l.any badP))) := by
 refine ok_of lw94 (by simp) ?_
 unfold c94 li
 simp -implicitDefEqProofs only [rX,ofConst,↓reduceIte,Nat.reduceEqDiff,reduceCtorEq,cxN,args0]
 refine call_is (ok82 l) ?_ rfl trivial ?_
 ·simp [li, lendsOk, lendOk, lends, lend, wkL, wk, wkR]
 simp -implicitDefEqProofs only [rX,↓rY,ofConst,↓reduceIte,resP,tupV,wfV,firstB]
 by_cases h : l.any badP = true
 ·simp [h]
 ·simp only [h, if_false]; simp
theorem ok68 (N : Nat) (arcs : List Arc) (f : Int) (fr : Fr) (hV : Val N arcs) (hf : 0 ≤ f ∧ f < N) (hl : fr.flow.length = arcs.length) : Ok 68 [net N arcs, .i f, fr.enc] (Is (.b (prB N arcs f fr.flow fr.price))) := by
 refine ok_of lw68 (by simp) ?_
 unfold c68 net Fr.enc li
 simp -implicitDefEqProofs only [rX,↓rY,rZ,ofConst,cells?,↓reduceIte,Nat.reduceEqDiff,Nat.reduceAdd,reduceCtorEq,freshP,resP,tupV,wfV,cxN,args0]
 simp only [br, decide_eq_true_eq, decide_eq_false_iff_not, bne_iff_ne, bne_eq_false_iff_eq]
 have hL := hV.hl
 have hN := hV.hn
 refine fun hm1 => ⟨fun h => prB_f fun hO => ?_, fun h => ?_⟩
 ·have := hO.hl; omega
 have hpl : fr.price.length = N := by omega
 refine ⟨⟨hf.1, by omega⟩, by omega, fun h0 => prB_f fun hO => ?_, fun h0 => ?_⟩
 ·have := hO.h0
  rw [getD_at (by omega)] at this
  exact h0 this
 refine call_is (ok94 fr.price) (by simp [li, lendsOk, lendOk, lends, lend, wkL, wk, wkR]) rfl trivial ?_
 cases hb : fr.price.any badP with
 | true =>
  simp -implicitDefEqProofs only [rX,↓rY,ofConst,↓reduceIte,Nat.reduceEqDiff,Nat.reduceAdd,resP,tupV,wfV]
  refine prB_f fun hO => ?_
  rw [vF] at hb
  obtain ⟨x, hx, hb⟩ := hb
  obtain ⟨j, hj, rfl⟩ := yL hx
  have := hO.hb j hj
  simp only [badP, decide_eq_true_eq] at hb
  omega
 | false =>
 have hb : ∀ j (h : j < fr.price.length), 0 ≤ fr.price[j] ∧ fr.price[j] ≤ 1073741824 := by
  intro j hj
  rw [vG] at hb
  have := hb _ (yG hj)
  simp only [badP, decide_eq_true_eq] at this
  omega
 simp -implicitDefEqProofs only [rX,↓rY,ofConst,↓reduceIte,Nat.reduceEqDiff,Nat.reduceAdd]
 refine fun _ => loopP_intro (fun k : Nat => ⟨[(32, .i k), (31, .i arcs.length), (30, .ro 4 (arcs.map Arc.enc)), (5, .ptr 1 0 0), (3, .ptr 0 0 0), (1, .i f)], [.var [.i N, .ro 4 (arcs.map Arc.enc)], frB fr], 0⟩) (fun k => k ≤ arcs.length ∧ RInv arcs fr.flow fr.price k) (fun k => arcs.length - k) 0 ⟨by omega, ⟨by simp⟩⟩ ?_ ?_
 ·simp -implicitDefEqProofs only [rX,↓reduceIte,Nat.reduceEqDiff,reduceCtorEq,leE,leH,leB,leV,leVs,keepP,liveP,wfE,wfB,wfV,wfL,leVs,leV,yC,frB]
 rintro k ⟨hk, hv⟩
 simp -implicitDefEqProofs only [rX,↓rY,rZ,ofConst,cells?,splice,↓reduceIte,Nat.reduceEqDiff,Nat.reduceAdd,freshP,resP,tupV,leE,leH,leB,leV,leVs,keepP,liveP,wfE,wfB,wfV,wfL,frB]
 simp only [br, decide_eq_true_eq, decide_eq_false_iff_not]
 refine ⟨fun h2 => ?_, fun h2 => ?_⟩
 ·have hk1 : k < arcs.length := by omega
  have hk2 : k < fr.flow.length := by omega
  have hva := hV.ha arcs[k] (yG hk1)
  have b1 := hb arcs[k].from_.toNat (by omega)
  have b2 := hb arcs[k].to.toNat (by omega)
  have bad : ¬ (_ ∧ _) → false = prB N arcs f fr.flow fr.price := fun h => prB_f fun hO => h (hO.ha k hk1)
  have good := hv.next hk1
  rw [getD_at (by omega), getD_at (by omega), getD_nat hk2] at bad good
  simp only [lo, hi, maxLen] at *
  repeat' (first | (refine ⟨(k+1 : _), ?_⟩) | (refine ⟨by omega, ?_⟩) | (refine And.intro ?_ ?_) | (refine (fun _ => ?_)))
  all_goals first | omega | (apply bad; omega) | (apply good; omega)
 ·refine prB_t ⟨hpl, ?_, hb, fun j hj => hv.h j hj (by omega)⟩
  rw [getD_at (by omega)]; exact h0
end Go.Fx.P.K
namespace Go.Fx.P.K
open Go Go.Fx Go.Proofs
set_option maxRecDepth 20000
theorem hasB_take {l : List Int} {k : Nat} (h : k < l.length) (x : Int) : hasB (l.take (k + 1)) x = if x = l[k] then true else hasB (l.take k) x := by
 simp only [hasB, uB h, vX, yN]
 by_cases hx : x = l[k]
 ·simp only [hx, or_true, if_true, decide_true]
 ·simp only [hx, or_false, if_false]
theorem ok69 (N : Nat) (arcs : List Arc) (f t : Int) (fr : Fr) (hV : Val N arcs) (hf : 0 ≤ f ∧ f < N) (ht : 0 ≤ t ∧ t < N) (hl : fr.flow.length = arcs.length) : Ok 69 [net N arcs, .i f, .i t, fr.enc] (Is (.b (cuB N arcs f t fr.flow fr.cut))) := by
 refine ok_of lw69 (by simp) ?_
 unfold c69 net Fr.enc li
 simp -implicitDefEqProofs only [rX,↓rY,ofConst,cells?,↓reduceIte,Nat.reduceEqDiff,Nat.reduceAdd,reduceCtorEq,freshP,cxN,args0]
 have hL := hV.hl
 have hN := hV.hn
 refine ⟨by omega, fun hm => ?_⟩
 refine loopP_intro (fun k : Nat => ⟨[(20, .i k), (19, .i fr.cut.length), (18, .ro 1 (fr.cut.map encI)), (9, .sl 2 0 N), (7, .ptr 1 0 0), (4, .ptr 0 0 0), (2, .i t), (1, .i f)], [.var [.i N, .ro 4 (arcs.map Arc.enc)], frB fr, .arr 1 (rowB N (fun j => hasB (fr.cut.take k) j))], 0⟩) (fun k => k ≤ fr.cut.length ∧ OkS N fr.cut k) (fun k => fr.cut.length - k) 0 ⟨by omega, ⟨by simp⟩⟩ ?_ ?_
 ·have h0 : rowB N (fun j => hasB [] j) = yA N [V.b false] := by rw [rowB_rep]; rfl
  simp -implicitDefEqProofs only [rX,↓reduceIte,Nat.reduceEqDiff,reduceCtorEq,leE,leH,leB,leV,leVs,keepP,liveP,wfE,wfB,wfV,wfL,leVs,leV,yC,frB,h0]
 rintro k ⟨hk, hv⟩
 simp -implicitDefEqProofs only [rX,↓rY,rZ,ofConst,cells?,splice,↓reduceIte,Nat.reduceEqDiff,arrSz,Nat.reduceAdd,resP,tupV,leE,leH,leB,leV,leVs,keepP,liveP,wfE,wfB,wfV,wfL,isD,isC,frB,rowB_len,rowB_get,rowB_set]
 simp only [br, decide_eq_true_eq, decide_eq_false_iff_not]
 refine ⟨fun h2 => ?_, fun h2 => ?_⟩
 ·have hk1 : k < fr.cut.length := by omega
  have good := hv.next hk1
  have bad : ¬ ((0 ≤ fr.cut[k] ∧ fr.cut[k] < N) ∧ (0 < k → fr.cut.getD (k - 1) 0 < fr.cut[k])) → false = cuB N arcs f t fr.flow fr.cut := fun h => cuB_f fun hO => h (hO.hs.h k hk1 hk1)
  have hp : 0 < k → fr.cut.getD (k - 1) 0 = fr.cut[((k : Int) - 1).toNat]'(by omega) := by
   intro h0
   have e1 : ((k : Int) - 1).toNat = k - 1 := by omega
   simp only [e1]
   exact getD_nat (by omega)
  have hrow : ∀ i : Nat, i < N → (if (i : Int) = (fr.cut[k].toNat : Nat) then true else hasB (fr.cut.take k) i) = hasB (fr.cut.take (k + 1)) i ∨ ¬ (0 ≤ fr.cut[k]) := by
   intro i hi
   rw [hasB_take hk1]
   by_cases h0 : 0 ≤ fr.cut[k]
   ·left; rw [vE h0]
   ·right; exact h0
  simp only [br, decide_eq_true_eq, decide_eq_false_iff_not, lo, hi, maxLen] at *
  repeat' (first | (refine ⟨(k+1 : _), ?_⟩) | (refine ⟨by omega, ?_⟩) | (refine And.intro ?_ ?_) | (refine (fun _ => ?_)))
  all_goals first | omega | (apply bad; rintro ⟨_, h4⟩; have h4 := h4 (by omega); rw [hp (by omega)] at h4; omega) | (apply bad; omega) | (apply good; refine ⟨by omega, fun h0 => ?_⟩; rw [hp h0]; omega) | (apply good; refine ⟨by omega, fun h0 => ?_⟩; omega) | (congr 1; apply rowB_congr; intro i hi; exact (hrow i hi).resolve_right (by omega))
 have hs : OkS N fr.cut fr.cut.length := ⟨fun j h _ => hv.h j h (by omega)⟩
 have hk0 : fr.cut.take k = fr.cut := yI (by omega)
 rw [hk0]
 have e1 : ((f.toNat : Nat) : Int) = f := vE hf.1
 have e2 : ((t.toNat : Nat) : Int) = t := vE ht.1
 simp only [e1, e2]
 refine ⟨hf, by omega, fun h3 => cuB_f fun hO => ?_, fun h3 => ⟨ht, by omega, fun h4 => cuB_f fun hO => ?_, fun h4 => ?_⟩⟩
 ·have := hO.hf; simp [this] at h3
 ·have := hO.ht; simp [this] at h4
 have h3 : hasB fr.cut f = true := by simpa using h3
 refine fun _ => loopP_intro (fun k : Nat => ⟨[(65, .i k), (64, .i arcs.length), (63, .ro 4 (arcs.map Arc.enc)), (9, .sl 2 0 N), (7, .ptr 1 0 0)], [.dead, frB fr, .arr 1 (rowB N (fun j => hasB fr.cut j))], 0⟩) (fun k => k ≤ arcs.length ∧ OkA arcs fr.flow fr.cut k) (fun k => arcs.length - k) 0 ⟨by omega, ⟨by simp⟩⟩ ?_ ?_
 ·simp -implicitDefEqProofs only [rX,↓reduceIte,Nat.reduceEqDiff,leE,leH,leB,leV,leVs,keepP,liveP,wfE,wfB,wfV,wfL,leVs,leV,yC,frB]
 rintro k ⟨hk, hv⟩
 simp -implicitDefEqProofs only [rX,↓rY,rZ,ofConst,cells?,splice,↓reduceIte,Nat.reduceEqDiff,arrSz,Nat.reduceAdd,freshP,resP,tupV,leE,leH,leB,leV,leVs,keepP,liveP,wfE,wfB,wfV,wfL,frB,rowB_len,rowB_get]
 simp only [br, decide_eq_true_eq, decide_eq_false_iff_not]
 refine ⟨fun h5 => ?_, fun h2 => cuB_t ⟨hs, h3, h4, ⟨fun j h _ => hv.h j h (by omega)⟩⟩⟩
 have hk1 : k < arcs.length := by omega
 have hk2 : k < fr.flow.length := by omega
 have hva := hV.ha arcs[k] (yG hk1)
 have good := hv.next hk1
 have bad : ¬ (_ ∧ _) → false = cuB N arcs f t fr.flow fr.cut := fun h => cuB_f fun hO => h (hO.ha.h k hk1 hk1)
 rw [getD_nat hk2] at good bad
 have e3 : ((arcs[k].from_.toNat : Nat) : Int) = arcs[k].from_ := by omega
 have e4 : ((arcs[k].to.toNat : Nat) : Int) = arcs[k].to := by omega
 simp only [e3, e4] at *
 generalize hasB fr.cut arcs[k].from_ = x at *
 generalize hasB fr.cut arcs[k].to = y at *
 cases x <;> cases y <;> simp only [br, bne_iff_ne, bne_eq_false_iff_eq, lo, hi, maxLen, Bool.not_true, Bool.not_false, forall_const, vH, reduceCtorEq, false_implies, true_implies, and_true, true_and] at * <;>
  (repeat' (first | (refine ⟨(k+1 : _), ?_⟩) | (refine ⟨by omega, ?_⟩) | (refine And.intro ?_ ?_) | (refine (fun _ => ?_)))) <;> first | omega | exact good ‹_› | exact bad ‹_› | exact good | (apply bad; simp; omega) | (apply good; simp; try omega) | (apply good; done) | trivial
theorem ok48 (N : Nat) (arcs : List Arc) (f t am : Int) (fr : Fr) (hV : Val N arcs) (hf : 0 ≤ f ∧ f < N) (ht : 0 ≤ t ∧ t < N) : Ok 48 [net N arcs, .i f, .i t, .i am, fr.enc] (Is (.i (accI N arcs f t am fr))) := by
 refine ok_of lw48 (by simp) ?_
 unfold c48 net Fr.enc li
 have hL := hV.hl
 have hN := hV.hn
 simp -implicitDefEqProofs only [rX,↓rY,ofConst,cells?,↓reduceIte,Nat.reduceEqDiff,Nat.reduceAdd,reduceCtorEq,freshP,resP,tupV,wfV,cxN,args0]
 simp only [br, decide_eq_true_eq, decide_eq_false_iff_not]
 refine ⟨fun h => accI_f fun hO => by have := hO.hs; omega, fun h0 => ⟨fun h => accI_f fun hO => by have := hO.hs; omega, fun h1 => ?_⟩⟩
 refine call_is (ok67 N arcs f t fr hV hf) (by simp [Fr.enc, net, li, lendsOk, lendOk, lends, lend, wkL, wk, wkR]) rfl trivial ?_
 cases hfl : flwB N arcs f t fr with
 | false =>
  simp -implicitDefEqProofs only [rX,↓rY,ofConst,↓reduceIte,Nat.reduceEqDiff,Nat.reduceAdd,resP,tupV,wfV]
  exact accI_f fun hO => by rw [flwB_t ⟨hO.fl, hO.hv, hO.ht⟩] at hfl; cases hfl
 | true =>
 have hfl : OkF N arcs f t fr.flow ∧ valTo arcs f fr.flow arcs.length = fr.sent ∧ totTo arcs fr.flow arcs.length = fr.cost := by
  apply Classical.byContradiction
  intro h
  rw [flwB_f h] at hfl; cases hfl
 have hl := hfl.1.hl
 simp -implicitDefEqProofs only [rX,↓rY,↓reduceIte,Nat.reduceEqDiff,Nat.reduceAdd,reduceCtorEq]
 refine call_is (ok68 N arcs f fr hV hf hl) (by simp [Fr.enc, net, li, lendsOk, lendOk, lends, lend, wkL, wk, wkR]) rfl trivial ?_
 cases hp : prB N arcs f fr.flow fr.price with
 | false =>
  simp -implicitDefEqProofs only [rX,↓rY,ofConst,↓reduceIte,Nat.reduceEqDiff,Nat.reduceAdd,resP,tupV,wfV]
  exact accI_f fun hO => by have := prB_t hO.hp; rw [hp] at this; cases this
 | true =>
 have hp : OkP N arcs f fr.flow fr.price := by
  apply Classical.byContradiction
  intro h
  have := prB_f h; rw [hp] at this; cases this
 simp -implicitDefEqProofs only [rX,↓rY,ofConst,↓reduceIte,Nat.reduceEqDiff,Nat.reduceAdd,reduceCtorEq,resP,tupV,wfV]
 simp only [br, beq_iff_eq, beq_eq_false_iff_ne, decide_eq_true_eq, decide_eq_false_iff_not]
 refine ⟨fun h4 => fun _ => ⟨fun h5 => accI_t ⟨hfl.1, by omega, hfl.2.1, hfl.2.2, hp, ?_⟩, fun h5 => ⟨fun h6 => by omega, fun h6 => accI_f fun hO => ?_⟩⟩, fun h4 => ⟨fun h5 => ?_, fun h5 => accI_f fun hO => ?_⟩⟩
 ·rw [if_pos h4]
  exact List.length_eq_zero_iff.1 (by omega)
 ·have := hO.hc
  rw [if_pos h4] at this
  rw [this] at h5
  simp at h5
 ·refine call_is (ok69 N arcs f t fr hV hf ht hl) (by simp [Fr.enc, net, li, lendsOk, lendOk, lends, lend, wkL, wk, wkR]) rfl trivial ?_
  cases hc : cuB N arcs f t fr.flow fr.cut with
  | false =>
   simp -implicitDefEqProofs only [rX,↓rY,ofConst,↓reduceIte,Nat.reduceEqDiff,Nat.reduceAdd,resP,tupV,wfV]
   exact accI_f fun hO => by have h6 := hO.hc; rw [if_neg h4] at h6; have := cuB_t h6; rw [hc] at this; cases this
  | true =>
  have hc : OkC N arcs f t fr.flow fr.cut := by
   apply Classical.byContradiction
   intro h
   have := cuB_f h; rw [hc] at this; cases this
  simp -implicitDefEqProofs only [rX,↓rY,ofConst,↓reduceIte,Nat.reduceEqDiff,Nat.reduceAdd,resP,tupV,wfV]
  exact accI_t ⟨hfl.1, by omega, hfl.2.1, hfl.2.2, hp, by rw [if_neg h4]; exact hc⟩
 ·have := hO.hs; omega
end Go.Fx.P.K
namespace Go.Fx.P.K
open Go Go.Fx Go.Proofs
set_option maxRecDepth 20000
end Go.Fx.P.K
namespace Go.Fx.P.K
open Go Go.Fx Go.Proofs
set_option maxRecDepth 20000
def pmix (p D : List Int) (t : Nat) : Nat → List Int
 | 0 => p
 | k + 1 => (pmix p D t k).set k (p.getD k 0 + min (D.getD k 0) (D.getD t 0))
theorem pmix_len {p D : List Int} {t : Nat} : ∀ {k : Nat}, (pmix p D t k).length = p.length
 | 0 => rfl
 | k + 1 => by unfold pmix; rw [vC]; exact pmix_len
theorem pmix_get {p D : List Int} {t : Nat} (j : Nat) : ∀ {k : Nat}, k ≤ p.length → (pmix p D t k).getD j 0 = if j < k then p.getD j 0 + min (D.getD j 0) (D.getD t 0) else p.getD j 0
 | 0, _ => by rw [if_neg (by omega)]; rfl
 | k + 1, hk => by
  unfold pmix
  rw [getD_set (by rw [pmix_len]; omega)]
  by_cases e : j = k
  ·subst e; rw [if_pos rfl, if_pos (by omega)]
  ·rw [if_neg e, pmix_get j (by omega)]
   by_cases e2 : j < k
   ·rw [if_pos e2, if_pos (by omega)]
   ·rw [if_neg e2, if_neg (by omega)]
section
variable {N : Nat} {arcs : List Arc} {f t : Nat} {am : Int}
def hpS (N : Nat) (arcs : List Arc) (x p : List Int) : List Blk :=
 [.var [.i N, .ro 4 (arcs.map Arc.enc)], .var [.i 0, .i 0, .nil, .nil, .nil], .arr 1 (x.map encI), .dead, .arv 1 (outR arcs N), .arr 1 (p.map encI), wB N arcs.length arcs 2 4 5]
abbrev pat13 (N : Nat) (arcs : List Arc) (f t : Nat) (am : Int) (g : Int × List Int × List Int) : St :=
 ⟨[(12, .i g.1), (11, .ptr 6 0 0), (8, .ptr 1 0 0), (3, .i am), (2, .i t), (1, .i f)], hpS N arcs g.2.1 g.2.2, 0⟩
def R13 (N : Nat) (arcs : List Arc) (f t : Nat) (am : Int) (r : V) (hs : List Blk) : Prop := ∃ fr : Fr, (OkAc N arcs f t am fr ∧ SI N arcs f t am fr.flow fr.price fr.sent) ∧ (∃ c tl, r = .tup [.agg [.i fr.sent, .i fr.cost, .sl 2 0 arcs.length, .sl 5 0 N, c], .i 0] ∧ hs = [.dead, .dead, .arr 1 (fr.flow.map encI), .dead, .dead, .arr 1 (fr.price.map encI)] ++ tl ∧ gvV (fun k => decide (6 ≤ k)) hs c = .ro 1 (fr.cut.map encI)) ∧ wk (.tup [fr.enc, .i 0]) (gvV (fun _ => true) hs r)
theorem SI.init (hV : Val N arcs) (hf : f < N) (ht : t < N) (ham : 0 ≤ am) : SI N arcs f t am (yA arcs.length 0) (yA N 0) 0 := by
 have hr : ∀ (m k : Nat), (yA m (0 : Int)).getD k 0 = 0 := by
  intro m k
  rw [yF, yV]
  split <;> rfl
 refine ⟨⟨by simp, fun k hk => ?_⟩, fun w => ?_, fun i hi => ?_, by simp, hr _ _, fun j => ?_, ?_, ⟨yD _, ham⟩⟩
 ·rw [hr]
  have := hV.at hk
  omega
 ·rw [vd_0, vd_0]
  have : ∀ k, valTo arcs w (yA arcs.length 0) k = 0 := by
   intro k
   induction k with
   | zero => rfl
   | succ k ih => simp only [valTo, ih, hr]; split <;> split <;> rfl
  rw [this]; rfl
 ·obtain ⟨h1, h2⟩ := hi
  have := hV.at h1
  unfold wrm at h2
  rw [hr] at h2
  unfold rcst wcst
  simp only [hr]
  split at h2
  ·rename_i h0
   rw [if_pos h0]; omega
  ·omega
 ·simp only [hr]; omega
 ·rw [hr]
  have := hV.hn
  exact Int.mul_nonneg (by omega) (by omega)
theorem tk_enc {l : List Int} {n : Nat} (h : l.length = n) : yE n (l.map encI) = l.map encI := yI (by simp [h])
theorem tk_enc' {l : List Int} : yE l.length (l.map encI) = l.map encI := tk_enc rfl
theorem loop2 (hV : Val N arcs) (hN : N ≤ 64) (hf : f < N) (ht : t < N) (ham : 0 ≤ am ∧ am ≤ 2199023255552) {x p : List Int} {sent : Int} (hlt : sent < am) (hS : SI N arcs f t am x p sent) (hR : Reach arcs x p f t) {X : Nat → St → Prop} {RR : St → Prop} {s : St}
  (hX : ∀ (x' : List Int) (s' : Int), SI N arcs f t am x' p s' → sent < s' → ∀ e b, leS [] ⟨e, hpS N arcs x' p, b⟩ (pat13 N arcs f t am (s', x', p)) → X 4 ⟨e, hpS N arcs x' p, b⟩)
  (hs : leS [] s ⟨[(15, .i 1), (12, .i sent), (11, .ptr 6 0 0), (8, .ptr 1 0 0), (3, .i am), (2, .i t), (1, .i f)], hpS N arcs x p, 0⟩) :
  loopP [] (fun NX => aw (cxN Try.prog []) c46l2 NX X RR) s := by
 refine loopP_intro (fun g : Int × Int × List Int => (⟨[(15, .i g.1), (12, .i g.2.1), (11, .ptr 6 0 0), (8, .ptr 1 0 0), (3, .i am), (2, .i t), (1, .i f)], hpS N arcs g.2.2 p, 0⟩ : St))
  (fun g => SI N arcs f t am g.2.2 p g.2.1 ∧ 0 ≤ g.1 ∧ ((g.1 = 1 ∧ g.2.1 = sent ∧ Reach arcs g.2.2 p f t) ∨ sent < g.2.1)) (fun g => 2 * (am - g.2.1).toNat + (if 0 < g.1 then 1 else 0)) (1, sent, x) ⟨hS, by omega, .inl ⟨rfl, rfl, hR⟩⟩ hs ?_
 rintro ⟨more, s1, x1⟩ ⟨hS1, hm0, hcase⟩
 simp only at hS1 hm0 hcase ⊢
 have hxl := hS1.xb.hl
 have hW := hS1.wok hV hN
 have hs0 := hS1.s0
 unfold c46l2 hpS wB
 by_cases hgo : 0 < more ∧ s1 < am
 ·have hd1 : decide (0 < more) = true := decide_eq_true hgo.1
  have hd2 : decide (s1 < am) = true := decide_eq_true hgo.2
  simp -implicitDefEqProofs only [rX,↓rY,ofConst,↓reduceIte,Nat.reduceEqDiff,Nat.reduceAdd,cxN,hd1,hd2]
  refine ⟨by simp only [lo, hi]; omega, ?_⟩
  have h30 := ok66 hV hW ht x1 f (am - s1) hS1.xb hf ⟨by omega, by omega⟩
  refine call_isM (FQ arcs x1 (fun u => p.getD u 0) t (yA N false) f (am - s1)) [6, 2, 4, 5] [] [] [.ptr 0 0 0, .i f, .i t, .i (am - s1)] (fun g => .i g.1) (wH N arcs x1 p) (fun g => wH N arcs g.2.1 p) h30 (by simp) (by simp) (by simp [wH, wB, blk, renB, rens, ren, pos, outR_ren, hxl]) (by simp [lendsOk, lendOk, lends, lend, wkL, wk, pos]) fun g hg => ⟨by simp [keepP], ?_⟩
  obtain ⟨n, x2, d2⟩ := g
  obtain ⟨q1, q2, q3⟩ := hS1.fill hf hg
  have hx2 : x2.length = arcs.length := q1.xb.hl
  have q4 := q1.s0
  simp -implicitDefEqProofs only [rX,↓rY,↓reduceIte,Nat.reduceEqDiff,Nat.reduceAdd,leE,leH,leB,leV,leVs,keepP,liveP,wfE,wfB,wfV,wfL,killE,killB,kill,kills,St.kill,wH,wB,setAll,renB,rens,ren,outR_ren,outR_kill,back,hx2,Nat.reduceAdd]
  refine ⟨by simp only [lo, hi]; omega, (n, s1 + n, x2), ⟨⟨q1, q2, ?_⟩, ?_⟩, ?_⟩
  ·right
   simp only
   rcases hcase with ⟨c1, c2, c3⟩ | c
   ·have := q3 c3 hgo.2
    omega
   ·omega
  ·simp only
   rw [if_pos hgo.1]
   split <;> omega
  ·simp -implicitDefEqProofs only [rX,outR_wfT]
 ·have hs1 : sent < s1 := by
   rcases hcase with ⟨c1, c2, c3⟩ | c
   ·exact absurd ⟨by omega, by omega⟩ hgo
   ·exact c
  have hx := hX x1 s1 hS1 hs1
  unfold pat13 hpS wB at hx
  by_cases h1 : 0 < more
  ·have hd1 : decide (0 < more) = true := decide_eq_true h1
   have hd2 : decide (s1 < am) = false := decide_eq_false (fun h2 => hgo ⟨h1, h2⟩)
   simp -implicitDefEqProofs only [rX,↓rY,ofConst,↓reduceIte,Nat.reduceEqDiff,Nat.reduceAdd,cxN,hd1,hd2]
   refine hx _ _ ?_
   simp -implicitDefEqProofs only [rX,↓reduceIte,Nat.reduceEqDiff,leE,leH,leB,leV,leVs,keepP,liveP,wfE,wfB,wfV,wfL,outR_wfT]
  ·have hd1 : decide (0 < more) = false := decide_eq_false h1
   simp -implicitDefEqProofs only [rX,↓rY,ofConst,↓reduceIte,Nat.reduceEqDiff,Nat.reduceAdd,cxN,hd1]
   refine hx _ _ ?_
   simp -implicitDefEqProofs only [rX,↓reduceIte,Nat.reduceEqDiff,leE,leH,leB,leV,leVs,keepP,liveP,wfE,wfB,wfV,wfL,outR_wfT]
theorem body13 (hV : Val N arcs) (hN : N ≤ 64) (hf : f < N) (ht : t < N) (hft : f ≠ t) (hal : arcs.length ≤ 100) (ham : 0 ≤ am ∧ am ≤ 2199023255552) {X : Nat → St → Prop}
  (hX : ∀ g : Int × List Int × List Int, SI N arcs f t am g.2.1 g.2.2 g.1 → g.1 = am → ∀ e b, get e 11 = .ptr 6 0 0 → get e 12 = .i am → get e 8 = .ptr 1 0 0 → X 0 ⟨e, hpS N arcs g.2.1 g.2.2, b⟩)
  (g : Int × List Int × List Int) (hg : SI N arcs f t am g.2.1 g.2.2 g.1) :
  aw (cxN Try.prog []) c46l0 (fun s' => ∃ g' : Int × List Int × List Int, (SI N arcs f t am g'.2.1 g'.2.2 g'.1 ∧ (am - g'.1).toNat < (am - g.1).toNat) ∧ leS [] s' (pat13 N arcs f t am g')) X (retP [] 0 [.cell 8 (some 5), .tmp 9] (R13 N arcs f t am)) (pat13 N arcs f t am g) := by
 obtain ⟨sent, x, p⟩ := g
 simp only at hg
 have hxl := hg.xb.hl
 have hW := hg.wok hV hN
 have hWx := hW x hg.xb
 have hs0 := hg.s0
 unfold c46l0 pat13 hpS wB
 rcases (by omega : sent < am ∨ am ≤ sent) with h | h
 ·have hd : decide (sent < am) = true := decide_eq_true h
  simp -implicitDefEqProofs only [rX,↓rY,↓reduceIte,Nat.reduceEqDiff,Nat.reduceAdd,cxN,hd]
  have h28 := ok64 (hs := hf) hWx hg.nn (fun j => hg.xb.bd hV j)
  refine call_isM (DistQ N (grD N arcs x (fun u => p.getD u 0) f hWx.hV hf hg.nn)) [6, 2, 4, 5] [] [] [.ptr 0 0 0, .i f] (fun _ => .sl 7 0 N) (wH N arcs x p) (fun D : List Int => wH N arcs x p ++ [Blk.dead, Blk.dead, Blk.dead, Blk.arr 1 (D.map encI)]) h28 (by simp) (by simp) (by simp [wH, wB, blk, renB, rens, ren, pos, outR_ren, hxl]) (by simp [lendsOk, lendOk, lends, lend, wkL, wk, pos]) fun D hD => ⟨by simp [keepP, liveP, wH, wB, setAll, renB, killB], ?_⟩
  simp -implicitDefEqProofs only [rX,↓rY,rZ,ofConst,↓reduceIte,Nat.reduceEqDiff,arrSz,Nat.reduceAdd,killE,killB,kill,kills,St.kill,wH,wB,setAll,renB,rens,ren,outR_ren,outR_kill,back,hxl,List.getElem?_nil,Nat.reduceSub,Nat.reduceAdd]
  have hDl := hD.len
  have hDt : D.getD t 0 = D[t]'(by omega) := getD_nat (by omega)
  refine ⟨⟨by omega, by omega⟩, by omega, ?_⟩
  simp only [br, beq_iff_eq, beq_eq_false_iff_ne]
  refine ⟨fun hfar => ?_, fun hfar => ?_⟩
  ·have h29 := ok65 hWx hg.xb sent D (by omega)
   rw [hDl] at h29
   have hok := hg.cut hV hN hf ht hft h hD (by rw [hDt]; exact hfar)
   generalize hT : totTo arcs x arcs.length = tot at *
   refine call_isN [6, 2, 4, 5] [.ptr 0 0 0, .i sent, .bro 1 (D.map encI)] (.agg [.i sent, .i tot, .sl 1 0 x.length, .sl 3 0 N, .sl 6 0 (cutL D N).length]) (.agg [.i sent, .i tot, .sl 2 0 x.length, .sl 5 0 N, .sl 13 0 (cutL D N).length]) (wH N arcs x p) (wH N arcs x p ++ [Blk.dead, Blk.dead, Blk.arr 1 ((cutL D N).map encI)]) _ h29 (by simp) (by simp [wH, wB, blk, renB, rens, ren, pos, outR_ren, hxl]) (by simp [lendsOk, lendOk, lends, lend, wkL, wk, wkR, wkB, blk, pos, hDl, tk_enc]) (by simp [wH]) rfl (by simp [ren, rens, back]) (by simp [keepP]) ?_
   simp -implicitDefEqProofs only [rX,↓rY,ofConst,cells?,splice,↓reduceIte,Nat.reduceEqDiff,Nat.reduceAdd,isC,wH,wB,setAll,renB,rens,ren,outR_ren,back,hxl,Nat.reduceAdd]
   rw [retP_eq]
   simp -implicitDefEqProofs only [rX,↓rY,↓reduceIte,Nat.reduceEqDiff,Nat.reduceAdd,resP,tupV,keepP,liveP,wfV,wfL]
   refine ⟨[.dead, .dead, .arr 1 (x.map encI), .dead, .dead, .arr 1 (p.map encI), .dead, .dead, .dead, .dead, .dead, .dead, .dead, .arr 1 ((cutL D N).map encI)], ⟨by simp [leH, leB], by simp [wfV, wfL, liveP], by simp [wfB]⟩, _, ⟨hok, hg⟩, ⟨_, [.dead, .dead, .dead, .dead, .dead, .dead, .dead, .arr 1 ((cutL D N).map encI)], rfl, rfl, by simp [gvV, blk, tk_enc']⟩, ?_⟩
   have e1 : yE arcs.length (x.map encI) = x.map encI := tk_enc hxl
   have e2 : yE N (p.map encI) = p.map encI := tk_enc hg.pl
   have hpl := hg.pl
   simp [gvV, gvL, wk, wkL, wkR, blk, Fr.enc, li, e1, e2, tk_enc', hxl, hpl]
  ·have hp13 := hg.price hV hf ht hD hN (by rw [hDt]; exact hfar) (p' := pmix p D t N) (pmix_len.trans hg.pl) (fun k hk => by rw [pmix_get k (by rw [hg.pl]; exact uA _), if_pos hk])
   have hpl := hg.pl
   intro _
   refine loopP_intro (fun k : Nat => (⟨[(55, .i k), (54, .i N), (13, .sl 10 0 N), (12, .i sent), (11, .ptr 6 0 0), (8, .ptr 1 0 0), (3, .i am), (2, .i t), (1, .i f)], hpS N arcs x (pmix p D t k) ++ [.dead, .dead, .dead, .arr 1 (D.map encI)], 0⟩ : St)) (fun k => k ≤ N) (fun k => N - k) 0 (yO _) ?_ fun k hk => ?_
   ·unfold hpS wB
    simp -implicitDefEqProofs only [rX,↓reduceIte,Nat.reduceEqDiff,leE,leH,leB,leV,leVs,keepP,liveP,wfE,wfB,wfV,wfL,outR_wfT,yC,pmix]
   unfold c46l1 hpS wB
   rcases yX k N with hkN | hkN
   ·have hd2 : decide ((k : Int) < N) = true := decide_eq_true (by omega)
    simp -implicitDefEqProofs only [rX,↓rY,rZ,ofConst,cells?,splice,↓reduceIte,Nat.reduceEqDiff,arrSz,Nat.reduceAdd,leE,leH,leB,leV,leVs,keepP,liveP,wfE,wfB,wfV,wfL,isD,isC,hd2]
    have hml : (pmix p D t k).length = N := pmix_len.trans hpl
    have hmk : (pmix p D t k)[k]'(by omega) = p.getD k 0 := by
     rw [← getD_nat (by omega), pmix_get k (by omega), if_neg (Nat.lt_irrefl _)]
    have hDk : D.getD k 0 = D[k]'(by omega) := getD_nat (by omega)
    have hpb := hWx.hb k
    have hKBv : KB = 67711795200 := rfl
    have hbk := lab_b (hV := hWx.hV) (hs := hf) (hn := hg.nn) hN (fun j => hWx.hb j) hD.lab hkN
    have hbt := lab_b (hV := hWx.hV) (hs := hf) (hn := hg.nn) hN (fun j => hWx.hb j) hD.lab ht
    have hfv : far = 4611686018427387904 := rfl
    have hm1 : min D[k] D[t] ≤ 67711795200 := by
     refine yY (yQ _ _) ?_
     rcases hbt.2 with e | e
     ·exact absurd (hDt.symm.trans e) hfar
     ·rw [hDt] at e; omega
    have hm2 : 0 ≤ min D[k] D[t] := by
     rw [hDk] at hbk
     rw [hDt] at hbt
     exact Int.le_min.2 ⟨hbk.1, hbt.1⟩
    have hms : pmix p D t (k + 1) = (pmix p D t k).set k (p.getD k 0 + min D[k] D[t]) := by rw [← hDk, ← hDt]; rfl
    simp only [hmk]
    refine ⟨⟨by omega, by omega⟩, by rw [hml]; exact hkN, ⟨by omega, by omega⟩, by omega, ⟨by omega, by omega⟩, by omega, by simp only [lo, hi]; omega, ⟨by omega, by omega⟩, by rw [hml]; exact hkN, by simp only [lo, hi]; omega, k + 1, ⟨by omega, by omega⟩, by simp, ?_, outR_wf⟩
    rw [hms, ← encI_set]
   ·have hd2 : decide ((k : Int) < N) = false := decide_eq_false (by omega)
    have : k = N := by omega
    subst this
    simp -implicitDefEqProofs only [rX,↓rY,ofConst,↓reduceIte,Nat.reduceEqDiff,Nat.reduceAdd,hd2]
    obtain ⟨hS1, hR1⟩ := hp13
    generalize pmix p D t k = p1 at *
    refine loop2 hV hN hf ht ham h hS1 hR1 (fun x' s' h1 h2 e b h3 => ?_) ?_
    ·simp only [if_pos]
     exact ⟨(s', x', p1), ⟨h1, by simp only; have := h1.s0; omega⟩, h3⟩
    ·unfold hpS wB
     simp -implicitDefEqProofs only [rX,↓reduceIte,Nat.reduceEqDiff,leE,leH,leB,leV,leVs,keepP,liveP,wfE,wfB,wfV,wfL,outR_wfT]
 ·have hd : decide (sent < am) = false := decide_eq_false (by omega)
  simp -implicitDefEqProofs only [rX,↓rY,↓reduceIte,Nat.reduceEqDiff,Nat.reduceAdd,cxN,hd]
  have he : sent = am := by omega
  subst he
  exact hX (sent, x, p) hg rfl _ _ rfl rfl rfl
theorem raw13 (hV : Val N arcs) (hN : N ≤ 64) (hf : f < N) (ht : t < N) (hft : f ≠ t) (hal : arcs.length ≤ 100) (ham : 0 ≤ am ∧ am ≤ 2199023255552) (htask : taskP N f t am = true) :
  Ok 46 [net N arcs, .i f, .i t, .i am] (R13 N arcs f t am) := by
 refine ok_of lw46 (by simp) ?_
 unfold c46 net
 simp -implicitDefEqProofs only [rX,↓rY,ofConst,cells?,↓reduceIte,Nat.reduceEqDiff,Nat.reduceAdd,freshP,cxN,args0]
 refine call_is (ok41 N arcs) (by simp [net, lendsOk, lendOk, lends, lend, wkL, wk, wkR]) rfl trivial ?_
 simp -implicitDefEqProofs only [rX,↓rY,ofConst,cells?,splice,↓reduceIte,Nat.reduceEqDiff,Nat.reduceAdd,reduceCtorEq,buildP,isC,hV.chk,bne_self_eq_false]
 refine call_is (ok62 N arcs f t am) (by simp [net, lendsOk, lendOk, lends, lend, wkL, wk, wkR]) rfl trivial ?_
 simp -implicitDefEqProofs only [rX,↓rY,rdK,↓reduceIte,Nat.reduceEqDiff,Nat.reduceAdd,freshP,htask]
 intro _
 refine ⟨⟨⟨by omega, by omega⟩, by omega, by omega⟩, ?_⟩
 have hx0 : (yA arcs.length (0 : Int)).length = arcs.length := by simp
 have h27 := ok63 N arcs (yA arcs.length 0) hV
 rw [hx0] at h27
 have e0 : yA arcs.length [V.i 0] = (yA arcs.length (0 : Int)).map encI := by simp [encI]
 refine call_isN [2] [net N arcs, .sl 0 0 arcs.length] (.ptr 4 0 0) (.ptr 6 0 0) [.arr 1 ((yA arcs.length (0 : Int)).map encI)] [.arr 1 ((yA arcs.length (0 : Int)).map encI), Blk.dead, .arv 1 (outR arcs N), .arr 1 (yA N (encI 0)), wB N arcs.length arcs 0 2 3] _ h27 (by simp) (by simp [blk, renB, rens, ren, pos, encI]) (by simp [net, lendsOk, lendOk, lends, lend, wkL, wk, wkR, pos]) (by simp) rfl (by simp [ren, rens, back]) (by simp [keepP]) ?_
 rw [rep_encI]
 simp -implicitDefEqProofs only [rX,ofConst,↓reduceIte,Nat.reduceAdd,wB,setAll,renB,rens,ren,outR_ren,back,List.getElem?_nil,Nat.reduceSub,Nat.reduceAdd]
 refine loopP_intro (pat13 N arcs f t am) (fun g => SI N arcs f t am g.2.1 g.2.2 g.1) (fun g => (am - g.1).toNat) (0, yA arcs.length 0, yA N 0) (SI.init hV hf ht ham.1) ?_ (body13 hV hN hf ht hft hal ham ?_)
 ·unfold pat13 hpS wB
  simp -implicitDefEqProofs only [rX,↓reduceIte,Nat.reduceEqDiff,reduceCtorEq,leE,leH,leB,leV,leVs,keepP,liveP,wfE,wfB,wfV,wfL,outR_wfT]
 ·rintro ⟨sent, x, p⟩ hS he e b g1 g2 g3
  simp only at hS he
  subst he
  have hWx := hS.wok hV hN x hS.xb
  have hxl := hS.xb.hl
  have hpl := hS.pl
  have h29 := ok65 hWx hS.xb sent [] (yO _)
  have hok := hS.all hV hN hf ht hft rfl
  generalize hT : totTo arcs x arcs.length = tot at *
  unfold hpS wB
  simp -implicitDefEqProofs only [rX,ofConst,↓reduceIte,Nat.reduceEqDiff,Nat.reduceAdd,g1,g2]
  refine call_isN [6, 2, 4, 5] [.ptr 0 0 0, .i sent, .bro 1 []] (.agg [.i sent, .i tot, .sl 1 0 x.length, .sl 3 0 N, .sl 6 0 0]) (.agg [.i sent, .i tot, .sl 2 0 x.length, .sl 5 0 N, .sl 9 0 0]) (wH N arcs x p) (wH N arcs x p ++ [Blk.dead, Blk.dead, Blk.arr 1 []]) _ h29 (by simp) (by simp [wH, wB, blk, renB, rens, ren, pos, outR_ren, hxl]) (by simp [lendsOk, lendOk, lends, lend, wkL, wk, wkR, wkB, blk, pos]) (by simp [wH]) rfl (by simp [ren, rens, back]) (by simp [keepP]) ?_
  simp -implicitDefEqProofs only [rX,↓rY,ofConst,cells?,splice,↓reduceIte,Nat.reduceEqDiff,Nat.reduceAdd,isC,wH,wB,setAll,renB,rens,ren,outR_ren,back,hxl,g3,Nat.reduceAdd]
  rw [retP_eq]
  simp -implicitDefEqProofs only [rX,↓rY,↓reduceIte,Nat.reduceEqDiff,Nat.reduceAdd,resP,tupV,keepP,liveP,wfV,wfL,g3]
  refine ⟨[.dead, .dead, .arr 1 (x.map encI), .dead, .dead, .arr 1 (p.map encI), .dead, .dead, .dead, .arr 1 []], ⟨by simp [leH, leB], by simp [wfV, wfL, liveP], by simp [wfB]⟩, _, ⟨hok, hS⟩, ⟨_, [.dead, .dead, .dead, .arr 1 []], rfl, rfl, by simp [gvV, blk]⟩, ?_⟩
  have e1 : yE arcs.length (x.map encI) = x.map encI := tk_enc hxl
  have e2 : yE N (p.map encI) = p.map encI := tk_enc hpl
  simp [gvV, gvL, wk, wkL, wkR, blk, Fr.enc, li, e1, e2, tk_enc', hxl, hpl]
theorem ok46 (hV : Val N arcs) (hN : N ≤ 64) (hf : f < N) (ht : t < N) (hft : f ≠ t) (hal : arcs.length ≤ 100) (ham : 0 ≤ am ∧ am ≤ 2199023255552) (htask : taskP N f t am = true) :
  Ok 46 [net N arcs, .i f, .i t, .i am] (IsQ (fun fr => OkAc N arcs f t am fr) (fun fr => .tup [fr.enc, .i 0]) (fun _ => [])) := by
 refine ⟨rlF_callable lw46, Fn_giveQ (R := R13 N arcs f t am) ?_ fun r hs ⟨fr, h1, _, h2⟩ => ⟨_, h2, fr, h1.1, rfl, rfl⟩⟩
 exact (raw13 hV hN hf ht hft hal ham htask).2
end
end Go.Fx.P.K
namespace Go.Fx.P
open Go Go.Fx Go.Proofs
set_option maxRecDepth 20000
theorem chk_net {ps : List Spot} {rs : List Road} (hc : chkP ps rs = 0) (h1 : ps.length ≤ 10) (h2 : rs.length ≤ 25) : nN ps ≤ 64 ∧ (netOf ps rs).length ≤ 100 := by
 have := nA4_len (ps := ps) (l := rs)
 simp only [nN, netOf]; omega
theorem ok13 (ps : List Spot) (rs : List Road) (h : FewP ps rs) : Ok 13 [plant ps rs] (IsQ (fun fr => IsPlan ps rs fr) (fun fr => .tup [fr.enc, .i 0]) (fun _ => [])) := by
 obtain ⟨hc, hl, hr⟩ := h
 obtain ⟨⟨_, _⟩, hcap, hv⟩ := chk_caps hc
 have hV := net_val hc
 have hb := chk_net hc hl hr
 have hd : 0 ≤ dem ps ∧ dem ps ≤ 10737418240 := by
  have h1 := sumC_b hcap (ofN ps 1 ps.length)
  have h2 := ofN_len (ps := ps) (kind := 1) (n := ps.length)
  unfold dem
  omega
 have ht : K.taskP (nN ps) (0 : Nat) (1 : Nat) (dem ps) = true := by
  have e : ((nN ps : Nat) : Int) = 2 + 2 * ps.length := by simp [nN]
  refine decide_eq_true ⟨⟨by omega, by omega⟩, ⟨by omega, by omega⟩, by omega, hd.1, by omega⟩
 have e46 := K.ok46 (f := 0) (t := 1) (am := dem ps) hV hb.1 (by simp only [nN]; omega) (by simp only [nN]; omega) (by omega) hb.2 ⟨hd.1, by omega⟩ ht
 refine ok_of lw13 (by simp) ?_
 unfold c13 plant sps rds
 simp -implicitDefEqProofs only [rX,↓rY,ofConst,cells?,↓reduceIte,Nat.reduceEqDiff,Nat.reduceAdd,freshP,cxN,args0]
 refine call_is (ok11 ps rs) (by simp [plant, sps, rds, lendsOk, lendOk, lends, lend, wkL, wk, wkR]) rfl trivial ?_
 simp -implicitDefEqProofs only [rX,↓rY,rdK,ofConst,cells?,splice,↓reduceIte,Nat.reduceEqDiff,Nat.reduceAdd,buildP,isC,hc,bne_self_eq_false]
 refine call_is (ok15 ps rs (by omega) (by omega) hv) (by simp [plant, sps, rds, lendsOk, lendOk, lends, lend, wkL, wk, wkR]) rfl trivial ?_
 simp -implicitDefEqProofs only [rX,↓reduceIte,Nat.reduceEqDiff]
 refine call_is (ok17 ps rs (by omega) hcap) (by simp [plant, sps, rds, lendsOk, lendOk, lends, lend, wkL, wk, wkR]) rfl trivial ?_
 simp -implicitDefEqProofs only [rX,ofConst,↓reduceIte,Nat.reduceEqDiff]
 rw [nN_eq]
 refine call_isM (fun fr => K.OkAc (nN ps) (netOf ps rs) 0 1 (dem ps) fr) [] [] [] [net (nN ps) (netOf ps rs), .i 0, .i 1, .i (dem ps)] (fun fr => .tup [fr.enc, .i 0]) [] (fun _ => []) e46 ⟨by simp, by simp⟩ ⟨rfl, by simp⟩ rfl (by simp [net, lendsOk, lendOk, lends, lend, wkL, wk, wkR]) fun fr hfr => ⟨trivial, ?_⟩
 simp -implicitDefEqProofs only [rX,↓rY,cells?,splice,↓reduceIte,Nat.reduceEqDiff,Nat.reduceAdd,killE,killB,kill,kills,St.kill,isC,Fr.enc,li,setAll,ren,rens]
 refine retP_isQ (Q := fun fr => IsPlan ps rs fr) fr ⟨hc, ⟨hl, hr⟩, hfr⟩ ?_
 simp -implicitDefEqProofs only [rX,↓rY,↓reduceIte,Nat.reduceEqDiff,Nat.reduceAdd,resP,tupV,leH,keepP,wfB,wfV,wfL]
open Classical in
noncomputable def accP (ps : List Spot) (rs : List Road) (fr : Fr) : Int := if chkP ps rs ≠ 0 then chkP ps rs else K.accI (nN ps) (netOf ps rs) 0 1 (dem ps) fr
theorem ok20 (ps : List Spot) (rs : List Road) (fr : Fr) : Ok 20 [plant ps rs, fr.enc] (Is (.i (accP ps rs fr))) := by
 refine ok_of lw20 (by simp) ?_
 unfold c20 plant sps rds Fr.enc li
 simp -implicitDefEqProofs only [rX,↓rY,ofConst,cells?,↓reduceIte,Nat.reduceEqDiff,Nat.reduceAdd,reduceCtorEq,freshP,cxN,args0]
 refine call_is (ok11 ps rs) (by simp [plant, sps, rds, lendsOk, lendOk, lends, lend, wkL, wk, wkR]) rfl trivial ?_
 by_cases hc : chkP ps rs = 0
 ·obtain ⟨⟨hl, hr⟩, hcap, hv⟩ := chk_caps hc
  have hV := net_val hc
  have e : ((nN ps : Nat) : Int) = 2 + 2 * ps.length := by simp [nN]
  simp -implicitDefEqProofs only [rX,↓rY,rdK,ofConst,↓reduceIte,Nat.reduceEqDiff,Nat.reduceAdd,resP,tupV,wfV,hc,bne_self_eq_false]
  refine call_is (ok15 ps rs hl hr hv) (by simp [plant, sps, rds, lendsOk, lendOk, lends, lend, wkL, wk, wkR]) rfl trivial ?_
  simp -implicitDefEqProofs only [rX,↓reduceIte,Nat.reduceEqDiff]
  refine call_is (ok17 ps rs hl hcap) (by simp [plant, sps, rds, lendsOk, lendOk, lends, lend, wkL, wk, wkR]) rfl trivial ?_
  simp -implicitDefEqProofs only [rX,ofConst,↓reduceIte,Nat.reduceEqDiff]
  rw [nN_eq]
  refine call_is (K.ok48 (nN ps) (netOf ps rs) 0 1 (dem ps) fr hV (by omega) (by omega)) (by simp [net, Fr.enc, li, lendsOk, lendOk, lends, lend, wkL, wk, wkR]) rfl trivial ?_
  simp -implicitDefEqProofs only [rX,↓reduceIte,resP,tupV,wfV,accP,hc]
  simp
 ·have hb : (chkP ps rs != 0) = true := by simpa using hc
  simp -implicitDefEqProofs only [rX,↓rY,rdK,ofConst,↓reduceIte,Nat.reduceEqDiff,Nat.reduceAdd,resP,tupV,wfV,hb]
  rw [accP, if_pos hc]
theorem IsPlan.acc0 {ps : List Spot} {rs : List Road} {fr : Fr} (h : IsPlan ps rs fr) : accP ps rs fr = 0 := by
 rw [accP, if_neg (by simp [h.chk]), K.accI, if_pos h.acc]
set_option maxRecDepth 20000
theorem ok47a (ps : List Spot) (rs : List Road) (kind : Int) (hl : ps.length ≤ 100) : Ok 47 [plant ps rs, .i kind] (IsA (.sl 1 0 (ofN ps kind ps.length).length) [.dead, .arr 1 ((ofN ps kind ps.length).map nE)]) := by
 refine ok_of lw47 (by simp) ?_
 unfold c47 plant sps rds
 simp -implicitDefEqProofs only [rX,↓rY,ofConst,cells?,↓reduceIte,Nat.reduceEqDiff,freshP,cxN,args0]
 intro hm
 refine loopP_ghost (.virt 1 1 (by decide) (.nilE 5 1 rfl (.refl _))) (fun k : Nat => ⟨[(11, .i k), (10, .i ps.length), (9, .ro 3 (ps.map Spot.enc)), (5, .sl 1 0 (ofN ps kind k).length), (2, .ptr 0 0 0), (1, .i kind)], [.var [.ro 3 (ps.map Spot.enc), .ro 4 (rs.map Road.enc)], .arr 1 ((ofN ps kind k).map nE)], 0⟩) (fun k => k ≤ ps.length) (fun k => ps.length - k) 0 (by omega) ?_ ?_
 ·simp -implicitDefEqProofs only [rX,↓reduceIte,Nat.reduceEqDiff,reduceCtorEq,leE,leH,leB,leV,leVs,keepP,liveP,wfE,wfB,wfV,wfL,yC,ofN,List.range_zero,vN]
 rintro k hk
 unfold c47l0
 simp -implicitDefEqProofs only [rX,↓rY,rZ,ofConst,cells?,splice,↓reduceIte,Nat.reduceEqDiff,Nat.reduceAdd,reduceCtorEq,freshP,litsP,leE,leH,leB,leV,leVs,keepP,liveP,wfE,wfB,wfV,wfL,killE,killB,kill,kills,St.kill,isD,Nat.reduceLT]
 simp only [br, yB, decide_eq_true_eq, decide_eq_false_iff_not]
 refine ⟨fun h => ⟨⟨by omega, h⟩, by omega, ?_⟩, fun h => ?_⟩
 ·have hk : k < ps.length := by omega
  have hs := ofN_succ (ps := ps) (kind := kind) (n := k)
  have hl2 := ofN_len (ps := ps) (kind := kind) (n := k)
  rw [isK_lt hk] at hs
  refine ⟨fun h3 => ⟨by omega, by simp only [lo, hi, maxLen] at *; omega, k + 1, ⟨by omega, by omega⟩, ⟨by omega, ?_⟩, ?_⟩, fun h3 => ⟨by simp only [lo, hi, maxLen] at *; omega, k + 1, ⟨by omega, by omega⟩, ⟨by omega, ?_⟩, ?_⟩⟩
  ·rw [hs, h3]; simp
  ·rw [hs, h3, yI (by simp)]; simp [nE]
  ·rw [hs, h3]; simp
  ·rw [hs, h3]; simp
 ·have hk : k = ps.length := by omega
  subst hk
  simp [qa, qb, qc, qd, qe, qf, qh, qi, qj, qk, ql, qm, qn, qo, qp, qq, qr, qs, qt, qu, qv, qw, qx, qy, qz, qA, qB, qC, qD, qE, qF, qG, qH, qI, qJ, qK, qL, qM, qN, rdK, qO, qP, qQ, qR, qS, qT, qU, qV, qW, qX, qY, qZ, zb, zc, zd, ze, zf, zg, zh, zi, zj, zk, zl, zm, zn, zo, zp, zq, zr, zt, zu, zv, zw, zx, zy, zA, zB, zC, zD, zE, zF, zG, zI, zJ, zK, zL, zM, zN, zO, zP, zQ, zR, zS, zT, zU, zV, zW, zX, zY, zZ, ka, kc, kg, kh, ki, kj, kk, kn, ko, kq, kr, kw, kx, ky, kz, kA, kB, kC, kD, kF, kG, kH, kI, kJ, kK, kL, kM, kN, kO, ofConst, cells?, vI, yK, List.set_cons_zero, splice, kP, yF, uF, ↓reduceIte, Nat.reduceEqDiff, vT, kQ, kR, arrSz, kS, Bool.not_true, Bool.not_false, ↓kT, ↓kU, kV, kW, List.nil_append, List.cons_append, yJ, Nat.zero_add, Nat.reduceAdd, Nat.add_zero, reduceCtorEq, freshP, Option.map_some, Option.map_none, slcOk, Option.getD_none, buildP, litsP, kX, resP, tupV, List.reverse_cons, List.reverse_nil, kY, leE, leH, leB, leV, leVs, keepP, liveP, wfE, wfB, wfV, wfL, killE, killB, kill, kills, St.kill, List.map_cons, List.map_nil, List.drop_zero, List.take_zero, List.take_nil, List.drop_nil, List.all_cons, List.all_nil, isD, isC, Bool.and_true, Bool.and_self, true_and, and_true, and_self, V.v.injEq, Value.int.injEq, Value.bool.injEq, vQ, List.not_mem_nil, or_false, false_or, yM, vO, vK, not_false_eq_true, vH, Nat.reduceLT, Nat.reduceLeDiff, uA, lg0, kZ, wa, wb, wc, lg1, wd, we, wg, wh, lg2, wj, wl, wm, wo, lg3, wq, wr, wt, wu, lg4, wv, ww, wx, wy, lg5, wz, wC, wD, wE, lg6, wF, wG, wI, wJ, lg7, wK, wL, wM, wN, lg8, wO, wP, wQ, wR, lg9, wS, wT, wU, wV, wW, wX, wY, wZ, ja, jb, jc, jd, je, jf, jg, jh, ji, jj, jk, jl, jm, jn, jo, jp, jq, jr, jt, ju, jv, jx, jy, jz, jA, jB, jC, jD, jE, jF, jG, jH, jI, jJ, jK, jL, jM, jN, jO, jP, jQ, jR, jS, jT, jU, jV, jW, jX, jY, jZ, qaa, qab, qac, qad, qae, qaf, qag, qah, qai, ↓qaj, ↓qak, ↓qal, ↓qam, ↓qan, ↓qao, ↓qap, ↓qaq, ↓qar, ↓qas, ↓qat, ↓qau, ↓qav, ↓qaw, ↓qax, ↓qay, ↓qaz, ↓qaA, ↓qaB, ↓qaC, ↓qaD, ↓qaE, ↓qaF, ↓qaG, ↓qaH, ↓qaI, ↓qaJ, ↓qaK, ↓qaL, ↓qaM, ↓qaN, ↓qaO, ↓qaP, ↓qaQ, ↓qaR, ↓qaS, ↓qaT, ↓qaU, ↓qaV, ↓qaW, ↓qaX, ↓qaY, ↓qaZ, ↓qba, ↓qbb, ↓qbc, ↓qbd, ↓qbe, ↓qbf, ↓qbg, ↓qbh, ↓qbi, ↓qbj, ↓qbk, ↓qbl, ↓qbm, ↓qbn, ↓qbo, ↓qbp, ↓qbq, ↓qbr, ↓qbs, ↓qbt, ↓qbu, ↓qbv, ↓qbw, ↓qbx, ↓qby, ↓qbz, ↓qbA, ↓qbB, ↓qbC, ↓qbD, ↓qbE, ↓qbF, ↓qbG, ↓qbH, ↓qbI, ↓qbJ, ↓qbK, ↓qbL, ↓qbM, ↓qbN, ↓qbO, ↓qbP, ↓qbQ, ↓qbR, ↓qbS, ↓qbT, ↓qbU, ↓qbV, ↓qbW, ↓qbX, ↓qbY, ↓qbZ, ↓qca, ↓qcb, ↓qcc, ↓qcd, ↓qce, ↓qcf, ↓qcg, ↓qch, ↓qci, ↓qcj, ↓qck, ↓qcl, ↓qcm, ↓qcn, ↓qco, ↓qcp, ↓qcq, ↓qcr, vO, yT, al_len, al_take, al_0, al_1, al_2, al_isC, al_isD, sp_len, sp_take, sp_0, sp_1, sp_2, sp_isC, sp_isD, rd_len, rd_take, rd_0, rd_1, rd_2, rd_3, rd_isC, rd_isD, enc_len, enc_take, enc_0, enc_1, enc_2, enc_3, enc_isC, enc_isD, encI_len, encI_0, encB_len, encB_0, yB, encI_drop, encB_drop, cxN, retP_isA, leH, leB, wfB, wfL, wfV, keepP]
def fullB (ps : List Spot) (fr : Fr) (i : Nat) : Bool := decide (capAt ps i ≤ fr.fl i)
abbrev plB (ps : List Spot) (rs : List Road) : Blk := .var [.ro 3 (ps.map Spot.enc), .ro 4 (rs.map Road.enc)]
section
variable (ps : List Spot) (rs : List Road) (fr : Fr)
theorem ok54 (i : Nat) (hi : i < ps.length) (hl : ps.length ≤ fr.flow.length) : OkN Try.prog 54 [.i i, .ptr 1 0 0, .ptr 0 0 0] [plB ps rs, K.frB fr] [] (IsA (.b (fullB ps fr i)) [plB ps rs, K.frB fr]) := by
 refine okN_of pol [0, 1] lw54 (by simp) ⟨trivial, trivial, trivial⟩ (by simp; omega) ?_
 unfold c54 plB K.frB
 simp -implicitDefEqProofs only [rX,↓rY,rZ,ofConst,↓reduceIte,Nat.reduceEqDiff,Nat.reduceAdd,reduceCtorEq,resP,tupV,leH,leB,leV,leVs,keepP,liveP,wfB,wfV,wfL,cxN,args0,cxN,retP_isA]
 refine ⟨⟨by omega, by omega⟩, by omega, ⟨by omega, by omega⟩, hi, ?_⟩
 rw [fullB, capAt_lt hi, Fr.fl, yF, yW (by omega), vT]
def firstF (l : List Nat) : Int := if l.any (fullB ps fr) then (l.findIdx (fullB ps fr) : Nat) else -1
theorem ok82s (l : List Nat) (hi : ∀ i ∈ l, i < ps.length) (hl : ps.length ≤ fr.flow.length) (hn : l.length ≤ 100) : OkN Try.prog 82 [.bro 1 (l.map nE), .clo 54 [.ptr 1 0 0, .ptr 0 0 0]] [plB ps rs, K.frB fr] [] (IsA (.i (firstF ps fr l)) [plB ps rs, K.frB fr]) := by
 refine okN_of pol [0, 1] lw82 (by simp) ⟨trivial, trivial, trivial⟩ (by simp; omega) ?_
 unfold c82
 simp -implicitDefEqProofs only [rX,↓rY,ofConst,↓reduceIte,Nat.reduceAdd,reduceCtorEq,cxN,args0,cxN]
 intro hm
 refine loopP_intro (fun k : Nat => ⟨[(8, .i k), (7, .i l.length), (1, .clo 54 [.ptr 1 0 0, .ptr 0 0 0]), (0, .bro 1 (l.map nE))], [plB ps rs, K.frB fr], 0⟩) (fun k => k ≤ l.length ∧ ∀ j (h : j < l.length), j < k → fullB ps fr l[j] = false) (fun k => l.length - k) 0 (by simp) ?_ ?_
 ·simp -implicitDefEqProofs only [rX,↓reduceIte,Nat.reduceEqDiff,reduceCtorEq,leE,leH,leB,leV,leVs,keepP,liveP,wfE,wfB,wfV,wfL,yC,plB,K.frB,leVs,leV]
 rintro k ⟨hk, hv⟩
 unfold c82l0
 simp -implicitDefEqProofs only [rX,↓rY,ofConst,↓reduceIte,Nat.reduceEqDiff,Nat.reduceAdd,reduceCtorEq,nE]
 simp only [br, yB, decide_eq_true_eq, decide_eq_false_iff_not]
 refine ⟨fun h => ⟨⟨by omega, h⟩, by omega, ?_⟩, fun h => ?_⟩
 ·have hk : k < l.length := by omega
  refine call_isN [0, 1] [.i l[k], .ptr 1 0 0, .ptr 0 0 0] (.b (fullB ps fr l[k])) (.b (fullB ps fr l[k])) [plB ps rs, K.frB fr] [plB ps rs, K.frB fr] [plB ps rs, K.frB fr] (ok54 ps rs fr l[k] (hi _ (yG _)) hl) ⟨by simp, by simp⟩ rfl (by simp [lendsOk, lendOk, lends, lend, wkL, wk, pos]) (by simp) rfl rfl ⟨trivial, trivial, trivial⟩ ?_
  cases hb : fullB ps fr l[k] with
  | true =>
   simp -implicitDefEqProofs only [rX,↓rY,↓reduceIte,Nat.reduceEqDiff,Nat.reduceAdd,resP,tupV,leH,leB,leV,leVs,keepP,liveP,wfB,wfV,wfL,retP_isA]
   have h1 : l.any (fullB ps fr) = true := by
    rw [vF]; exact ⟨_, yG hk, hb⟩
   have h2 : l.findIdx (fullB ps fr) = k := by
    rw [List.findIdx_eq hk]
    exact ⟨hb, fun j hj => hv j (by omega) hj⟩
   simp -implicitDefEqProofs only [rX,leV,leVs,wfB,wfV,wfL,plB,K.frB]
   simp [firstF, h1, h2]
  | false =>
   simp -implicitDefEqProofs only [rX,↓rY,ofConst,↓reduceIte,Nat.reduceEqDiff,Nat.reduceAdd,reduceCtorEq,leE,leH,leB,leV,leVs,keepP,liveP,wfE,wfB,wfV,wfL]
   refine ⟨by simp only [lo, Fx.hi, maxLen] at hm ⊢; omega, k + 1, ⟨⟨by omega, fun j hj h2 => ?_⟩, by omega⟩, by simp, ?_⟩
   ·by_cases h3 : j = k
    ·subst h3; exact hb
    ·exact hv j hj (by omega)
   ·simp -implicitDefEqProofs only [rX,leV,leVs,wfB,wfV,wfL,plB,K.frB]
 ·have : k = l.length := by omega
  have hall : l.any (fullB ps fr) = false := by
   rw [vG]; intro x hx
   obtain ⟨j, hj, rfl⟩ := yL hx
   simpa using hv j hj (by omega)
  simp -implicitDefEqProofs only [rX,↓reduceIte,Nat.reduceAdd,resP,tupV,leH,leB,leV,leVs,keepP,liveP,wfB,wfV,wfL,retP_isA]
  simp -implicitDefEqProofs only [rX,leV,leVs,wfB,wfV,wfL,plB,K.frB]
  simp [firstF, hall]
def keptN (l : List Nat) : List Nat := l.filter fun i => !fullB ps fr i
theorem ok53 (l : List Nat) (hi : ∀ i ∈ l, i < ps.length) (hl : ps.length ≤ fr.flow.length) (hn : l.length ≤ 100) :
  OkN Try.prog 53 [.sl 2 0 l.length, .clo 54 [.ptr 1 0 0, .ptr 0 0 0]] [plB ps rs, K.frB fr, .arr 1 (l.map nE)] [] (IsQ (fun z : List Nat => True) (fun _ => .sl 2 0 (keptN ps fr l).length) (fun z => [plB ps rs, K.frB fr, .arr 1 ((keptN ps fr l ++ z).map nE)])) := by
 refine okN_of pol [0, 1, 2] lw53 (by simp) ⟨trivial, trivial, trivial, trivial⟩ (by simp; omega) ?_
 unfold c53
 simp -implicitDefEqProofs only [rX,ofConst,↓reduceIte,Nat.reduceEqDiff,Nat.reduceAdd,reduceCtorEq,cxN,args0,cxN]
 have htk : yE l.length (l.map nE) = l.map nE := yI (by simp)
 refine call_isN [0, 1] [.bro 1 (l.map nE), .clo 54 [.ptr 1 0 0, .ptr 0 0 0]] (.i (firstF ps fr l)) (.i (firstF ps fr l)) [plB ps rs, K.frB fr] [plB ps rs, K.frB fr] _ (ok82s ps rs fr l hi hl hn) ⟨by simp, by simp⟩ rfl (by simp [lendsOk, lendOk, lends, lend, wkL, wk, wkB, wkR, pos, lnat, blk, htk]) (by simp) rfl rfl ⟨trivial, trivial, trivial, trivial⟩ ?_
 simp -implicitDefEqProofs only [rX,↓rY,ofConst,↓reduceIte,Nat.reduceEqDiff,Nat.reduceAdd,reduceCtorEq,plB,K.frB,setAll,renB,rens,ren]
 rw [firstF]
 cases hany : l.any (fullB ps fr) with
 | false =>
  simp only [vH, if_false, beq_self_eq_true, br, true_implies]
  have hk : keptN ps fr l = l := by
   rw [keptN, uH]
   intro a ha
   have := vG.1 hany a ha
   simpa using this
  refine ⟨?_, fun h => by cases h⟩
  refine retP_isQ (Q := fun _ : List Nat => True) [] trivial ?_
  simp -implicitDefEqProofs only [rX,↓reduceIte,Nat.reduceAdd,resP,tupV,leH,leB,leV,leVs,keepP,liveP,wfB,wfV,wfL,hk]
 | true =>
 obtain ⟨a, ha, hfa⟩ := vF.1 hany
 have hlt : l.findIdx (fullB ps fr) < l.length := List.findIdx_lt_length_of_exists ⟨a, ha, hfa⟩
 generalize hm0 : l.findIdx (fullB ps fr) = m0 at *
 have hne : (((m0 : Nat) : Int) == -1) = false := by simp
 simp only [if_true, hne, br, vH, false_implies, true_implies, true_and]
 refine ⟨by simp only [lo, Fx.hi]; omega, ?_⟩
 have hpre : (l.take (m0 + 1)).filter (fun i => !fullB ps fr i) = l.take m0 := by
  rw [uB hlt, vM, uH.2]
  ·have : fullB ps fr (l[m0]) = true := by subst hm0; exact List.findIdx_getElem
   simp [this]
  ·intro a ha
   obtain ⟨j, hj, rfl⟩ := yL ha
   rw [List.getElem_take]
   have := List.not_of_lt_findIdx (p := fullB ps fr) (xs := l) (i := j) (by rw [hm0]; rw [List.length_take] at hj; omega)
   simpa using this
 refine loopP_intro (fun g : Nat × List Nat => ⟨[(6, .i g.1), (5, .i ((l.take g.1).filter fun i => !fullB ps fr i).length), (0, .sl 2 0 l.length), (1, .clo 54 [.ptr 1 0 0, .ptr 0 0 0])], [plB ps rs, K.frB fr, .arr 1 (((l.take g.1).filter (fun i => !fullB ps fr i) ++ g.2 ++ l.drop g.1).map nE)], 0⟩) (fun g => g.1 ≤ l.length ∧ 0 < g.2.length ∧ ((l.take g.1).filter fun i => !fullB ps fr i).length + g.2.length = g.1) (fun g => l.length - g.1) (m0 + 1, [l[m0]]) ⟨by omega, by simp, by rw [hpre]; simp; omega⟩ ?_ ?_
 ·simp -implicitDefEqProofs only [rX,↓reduceIte,Nat.reduceEqDiff,reduceCtorEq,leE,leH,leB,leV,leVs,keepP,liveP,wfE,wfB,wfV,wfL,plB,K.frB,hpre]
  refine ⟨⟨by omega, by rw [List.length_take]; omega⟩, ?_⟩
  congr 2
  rw [yU]
  simp
 rintro ⟨j, mid⟩ ⟨hj, hmid, hlen⟩
 simp only at hj hmid hlen
 unfold c53l0
 generalize hA : (l.take j).filter (fun i => !fullB ps fr i) = A at *
 simp -implicitDefEqProofs only [rX,↓rY,↓reduceIte,Nat.reduceEqDiff,arrSz,Nat.reduceAdd,reduceCtorEq,slcOk,plB,K.frB]
 intro hmx
 simp only [br, decide_eq_true_eq, decide_eq_false_iff_not]
 refine ⟨fun h => ?_, fun h => ?_⟩
 ·have hj2 : j < l.length := by omega
  have hLl : (A ++ mid ++ l.drop j).length = l.length := by simp; omega
  have hLj : (A ++ mid ++ l.drop j)[j]'(by omega) = l[j] := by
   rw [uG (by simp; omega)]
   simp [show j - (A.length + mid.length) = 0 by omega]
  refine ⟨⟨by omega, h⟩, by rw [uC]; omega, ?_⟩
  rw [hLj]
  simp -implicitDefEqProofs only [rX,↓rY,nE]
  refine call_isN [0, 1] [.i l[j], .ptr 1 0 0, .ptr 0 0 0] (.b (fullB ps fr l[j])) (.b (fullB ps fr l[j])) [plB ps rs, K.frB fr] [plB ps rs, K.frB fr] _ (ok54 ps rs fr l[j] (hi _ (yG _)) hl) ⟨by simp, by simp⟩ rfl (by simp [lendsOk, lendOk, lends, lend, wkL, wk, pos]) (by simp) rfl rfl ⟨trivial, trivial, trivial, trivial⟩ ?_
  have hA1 : (l.take (j + 1)).filter (fun i => !fullB ps fr i) = A ++ (if fullB ps fr l[j] = true then [] else [l[j]]) := by
   rw [uB hj2, vM, hA]
   cases hfb : fullB ps fr l[j] <;> simp [hfb]
  have hd : l.drop j = l[j] :: l.drop (j + 1) := List.drop_eq_getElem_cons hj2
  cases hb : fullB ps fr l[j] with
  | true =>
   rw [hb, if_pos rfl, yJ] at hA1
   simp -implicitDefEqProofs only [rX,↓rY,ofConst,↓reduceIte,Nat.reduceEqDiff,Nat.reduceAdd,reduceCtorEq,leE,leH,leB,leV,leVs,keepP,liveP,wfE,wfB,wfV,wfL,plB,K.frB,setAll,renB,rens,ren]
   refine ⟨by simp only [lo, Fx.hi]; omega, (j + 1, mid ++ [l[j]]), ?_, ?_⟩
   ·simp only [hA1, yM, yK, vI]
    omega
   ·simp -implicitDefEqProofs only [rX,hA1]
    refine ⟨by omega, ?_⟩
    congr 2
    rw [hd]; simp
  | false =>
   rw [hb, if_neg (by simp)] at hA1
   simp -implicitDefEqProofs only [rX,↓rY,ofConst,cells?,splice,↓reduceIte,Nat.reduceEqDiff,arrSz,Nat.reduceAdd,reduceCtorEq,leE,leH,leB,leV,leVs,keepP,liveP,wfE,wfB,wfV,wfL,isD,isC,plB,K.frB,setAll,renB,rens,ren]
   obtain ⟨x, ms, rfl⟩ : ∃ x ms, mid = x :: ms := by
    cases mid with
    | nil => simp at hmid
    | cons x ms => exact ⟨x, ms, rfl⟩
   simp only [yK] at hlen
   refine ⟨⟨by omega, by omega⟩, by rw [uC, yK]; omega, by simp only [lo, Fx.hi]; omega, by simp only [lo, Fx.hi]; omega, (j + 1, ms ++ [l[j]]), ?_, ?_⟩
   ·simp only [hA1, yM, yK, vI]
    omega
   ·simp only [hA1, yM, yK, vI]
    refine ⟨⟨by omega, by omega⟩, ?_⟩
    congr 1
    have e : (V.v (.int .i64 ((l[j] : Nat) : Int)) :: List.drop 1 (nE ((A ++ x :: ms ++ l.drop j)[A.length]'(by simp)))) = nE l[j] := rfl
    rw [e, ← vW]
    congr 1
    rw [hd]
    simp
 ·have hj3 : j = l.length := by omega
  subst hj3
  rw [List.take_length] at hA
  have hk : keptN ps fr l = A := hA
  refine ⟨⟨⟨by omega, by omega⟩, by omega⟩, by rw [uC]; omega, ⟨⟨by omega, by omega⟩, by omega, by omega⟩, ?_⟩
  refine retP_isQ (Q := fun _ : List Nat => True) (yA (l.length - A.length) 0) trivial ?_
  rw [hk, List.drop_length, yJ]
  have e1 : yE A.length ((A ++ mid).map nE) = A.map nE := by simp
  have e2 : List.drop (A.length + (l.length - A.length)) ((A ++ mid).map nE) = [] := List.drop_of_length_le (by simp; omega)
  rw [e1, e2]
  simp -implicitDefEqProofs only [rX,↓reduceIte,Nat.reduceAdd,resP,tupV,leH,leB,leV,leVs,keepP,liveP,wfB,wfV,wfL,vP,List.map_replicate]
  refine ⟨rfl, ?_⟩
  rfl
theorem ok27 (hi : ps.length ≤ 10) (hl : ps.length ≤ fr.flow.length) : Ok 27 [plant ps rs, fr.enc] (Is (lnat (keptN ps fr (ofN ps 1 ps.length)))) := by
 refine okN_give (R := fun r hs => wk (lnat (keptN ps fr (ofN ps 1 ps.length))) (gvV (fun _ => true) hs r)) ?_ fun _ _ h => h
 refine ok_of lw27 (by simp) ?_
 unfold c27 plant sps rds Fr.enc li
 simp -implicitDefEqProofs only [rX,↓rY,ofConst,cells?,↓reduceIte,Nat.reduceEqDiff,Nat.reduceAdd,reduceCtorEq,freshP,cxN,args0]
 refine call_isA [plant ps rs, .i 1] (.sl 1 0 (ofN ps 1 ps.length).length) (.sl 3 0 (ofN ps 1 ps.length).length) [.dead, .arr 1 ((ofN ps 1 ps.length).map nE)] [.dead, .arr 1 ((ofN ps 1 ps.length).map nE)] (ok47a ps rs 1 (by omega)) (by simp [plant, sps, rds, lendsOk, lendOk, lends, lend, wkL, wk, wkR]) rfl rfl trivial ?_
 simp -implicitDefEqProofs only [rX,↓reduceIte,Nat.reduceEqDiff]
 refine call_isM (fun z : List Nat => True) [0, 1, 3] [] [] [.sl 2 0 (ofN ps 1 ps.length).length, .clo 54 [.ptr 1 0 0, .ptr 0 0 0]] (fun _ => .sl 2 0 (keptN ps fr (ofN ps 1 ps.length)).length) [plB ps rs, K.frB fr, .arr 1 ((ofN ps 1 ps.length).map nE)] (fun z => [plB ps rs, K.frB fr, .arr 1 ((keptN ps fr (ofN ps 1 ps.length) ++ z).map nE)]) (ok53 ps rs fr _ (fun i h => ofN_mem h) hl (by have := ofN_len (ps := ps) (kind := 1) (n := ps.length); omega)) ⟨by simp, by simp⟩ ⟨rfl, by simp⟩ rfl (by simp [lendsOk, lendOk, lends, lend, wkL, wk, pos]) fun z _ => ⟨trivial, ?_⟩
 simp -implicitDefEqProofs only [rX,↓reduceIte,Nat.reduceAdd,resP,tupV,keepP,killE,killB,kill,kills,St.kill,plB,K.frB,setAll,ren,rens,renB,retP_eq]
 have hb : back [0, 1, 3] 4 2 = some 3 := rfl
 rw [hb]
 refine ⟨_, ⟨leH_rf _, by simp, by simp [wfB, wfL, wfV, liveP]⟩, ?_⟩
 simp [gvV, gvL, wk, wkR, blk, lnat]
end
set_option maxRecDepth 20000
theorem kept_lack {ps : List Spot} {fr : Fr} {n : Nat} : keptN ps fr (ofN ps 1 n) = lackN ps fr n := by
 simp only [keptN, lackN, fullB]
 congr 1
 funext i
 by_cases h : fr.fl i < capAt ps i
 ·rw [decide_eq_true h, decide_eq_false (by omega)]; rfl
 ·rw [decide_eq_false h, decide_eq_true (by omega)]; rfl
theorem ok9 (ps : List Spot) (rs : List Road) (other : List Int) : Ok 9 [plant ps rs, li other] (Is (.b true)) := by
 refine ok_of lw9 (by simp) ?_
 unfold c9 plant sps rds li
 simp -implicitDefEqProofs only [rX,↓rY,ofConst,cells?,↓reduceIte,Nat.reduceEqDiff,Nat.reduceAdd,freshP,cxN,args0]
 refine call_is (ok19 ps rs) (by simp [plant, sps, rds, lendsOk, lendOk, lends, lend, wkL, wk, wkR]) rfl trivial ?_
 cases hF : fewB ps rs with
 | false =>
  simp -implicitDefEqProofs only [rX,↓rY,↓reduceIte]
  refine s10 rfl rfl ?_
  simp -implicitDefEqProofs only [rX,↓reduceIte,resP,tupV,wfV]
 | true =>
 have hF : FewP ps rs := by simpa [fewB] using hF
 obtain ⟨hc, hl, hr⟩ := id hF
 obtain ⟨⟨_, _⟩, hcap, hv⟩ := chk_caps hc
 have hV := net_val hc
 have hVF := FVal hV
 have hb := chk_net hc hl hr
 have eN : ((nN ps : Nat) : Int) = 2 + 2 * ps.length := by simp [nN]
 have hE : ((0 : Int) ≤ 0 ∧ (0 : Int) < nN ps) ∧ ((0 : Int) ≤ 1 ∧ (1 : Int) < nN ps) ∧ (0 : Int) ≠ 1 := by omega
 have he : F.endsB (nN ps) 0 1 = true := by simpa [F.endsB] using hE
 simp -implicitDefEqProofs only [rX,↓rY,↓reduceIte,Nat.reduceEqDiff,Nat.reduceAdd]
 refine call_isM (fun fr => IsPlan ps rs fr) [] [] [] [plant ps rs] (fun fr => .tup [fr.enc, .i 0]) [] (fun _ => []) (ok13 ps rs hF) ⟨by simp, by simp⟩ ⟨rfl, by simp⟩ rfl (by simp [plant, sps, rds, lendsOk, lendOk, lends, lend, wkL, wk, wkR]) fun fr hfr => ⟨trivial, ?_⟩
 simp -implicitDefEqProofs only [rX,↓rY,ofConst,cells?,splice,↓reduceIte,Nat.reduceEqDiff,Nat.reduceAdd,freshP,resP,tupV,wfV,killE,killB,kill,kills,St.kill,isC,Fr.enc,li,setAll,ren,rens,bne_self_eq_false]
 refine call_is (ok20 ps rs fr) (by simp [plant, sps, rds, Fr.enc, li, lendsOk, lendOk, lends, lend, wkL, wk, wkR]) rfl trivial ?_
 simp -implicitDefEqProofs only [rX,↓rY,ofConst,↓reduceIte,Nat.reduceEqDiff,Nat.reduceAdd,resP,tupV,wfV,hfr.acc0,bne_self_eq_false]
 refine call_is (ok15 ps rs (by omega) (by omega) hv) (by simp [plant, sps, rds, lendsOk, lendOk, lends, lend, wkL, wk, wkR]) rfl trivial ?_
 simp -implicitDefEqProofs only [rX,↓rY,ofConst,cells?,splice,↓reduceIte,Nat.reduceEqDiff,Nat.reduceAdd,freshP,isC,net]
 rw [nN_eq]
 obtain ⟨r, hg⟩ := F.grt hVF hE
 refine call_is (F.ok36d (nN ps) (netOf ps rs) 0 1 r hVF he hg.run hg.len) (by simp [net, lendsOk, lendOk, lends, lend, wkL, wk, wkR]) rfl trivial ?_
 simp -implicitDefEqProofs only [rX,↓rY,rdK,ofConst,↓reduceIte,Nat.reduceEqDiff,Nat.reduceAdd,resP,tupV,wfV,li,F.lb,bne_self_eq_false]
 have hvs : ∀ a ∈ netOf ps rs, (0 ≤ a.from_ ∧ a.from_ < (nN ps : Nat)) ∧ (0 ≤ a.to ∧ a.to < (nN ps : Nat)) ∧ a.from_ ≠ a.to := fun a ha => (hVF.ha a ha).1
 have hmost := hfr.most hg
 have hfl := hfr.acc.fl
 have hs0 := hfr.acc.hs
 have hr37 := F.ok37 (nN ps) 0 (netOf ps rs) r hg.len (by omega) (by omega) (hVF.flow hg.len hg.pos) hvs (by omega)
 rw [valFK, hmost] at hr37
 refine call_is hr37 (by simp [net, li, lendsOk, lendOk, lends, lend, wkL, wk, wkR]) rfl trivial ?_
 simp -implicitDefEqProofs only [rX,↓rY,rdK,↓reduceIte,Nat.reduceEqDiff,Nat.reduceAdd,bne_self_eq_false]
 obtain ⟨s1, s2, s3⟩ := F.strong hVF hE hg
 have hr38 := F.ok38 (nN ps) (netOf ps rs) (F.cutOf (netOf ps rs) (nN ps) 0 r) hVF F.cutOf_len
 rw [s3, valFK, hmost] at hr38
 refine call_is hr38 (by simp [net, F.blb, lendsOk, lendOk, lends, lend, wkL, wk, wkB, wkR]) rfl trivial ?_
 simp -implicitDefEqProofs only [rX,↓rY,rdK,ofConst,↓reduceIte,Nat.reduceEqDiff,Nat.reduceAdd,bne_self_eq_false]
 have hf37 := F.ok37 (nN ps) 0 (netOf ps rs) fr.flow hfl.hl (by omega) (by omega) (hVF.flow hfl.hl hfl.hp) hvs (by omega)
 rw [valFK, hfr.acc.hv] at hf37
 refine call_is hf37 (by simp [net, li, lendsOk, lendOk, lends, lend, wkL, wk, wkR]) rfl trivial ?_
 simp -implicitDefEqProofs only [rX,↓rY,rdK,↓reduceIte,Nat.reduceEqDiff,Nat.reduceAdd,bne_self_eq_false]
 have hfl2 : ps.length ≤ fr.flow.length := by rw [hfl.hl, netOf_len]; omega
 have e27 := ok27 ps rs fr hl hfl2
 rw [kept_lack] at e27
 refine call_is e27 (by simp [plant, sps, rds, Fr.enc, li, lendsOk, lendOk, lends, lend, wkL, wk, wkR]) rfl trivial ?_
 simp -implicitDefEqProofs only [rX,↓rY,ofConst,↓reduceIte,Nat.reduceEqDiff,lnat]
 intro hm1
 refine call_is (ok17 ps rs (by omega) hcap) (by simp [plant, sps, rds, lendsOk, lendOk, lends, lend, wkL, wk, wkR]) rfl trivial ?_
 have hsh := hfr.short
 have hgt : decide (fr.sent < dem ps) = decide (0 < (lackN ps fr ps.length).length) := by
  rw [decide_eq_decide, ← hsh, List.length_pos_iff]
 have hg2 : decide ((0 : Int) < ((lackN ps fr ps.length).length : Int)) = decide (0 < (lackN ps fr ps.length).length) := by
  rw [decide_eq_decide]; omega
 simp -implicitDefEqProofs only [rX,↓rY,↓reduceIte,Nat.reduceEqDiff,Nat.reduceAdd,hgt,hg2,bne_self_eq_false]
 refine call_is e27 (by simp [plant, sps, rds, Fr.enc, li, lendsOk, lendOk, lends, lend, wkL, wk, wkR]) rfl trivial ?_
 simp -implicitDefEqProofs only [rX,↓rY,ofConst,↓reduceIte,Nat.reduceEqDiff,Nat.reduceAdd,reduceCtorEq,freshP,lnat]
 intro hm2
 by_cases hla : fr.sent < dem ps
 case neg =>
  have hg3 : decide ((0 : Int) < ((lackN ps fr ps.length).length : Int)) = false := by
   rw [hg2, ← hgt]; exact decide_eq_false hla
  simp -implicitDefEqProofs only [↓rY,hg3]
  refine call_is (F.ok40 (nN ps) (netOf ps rs) 0 1 other hVF) (by simp [net, li, lendsOk, lendOk, lends, lend, wkL, wk, wkR]) rfl trivial ?_
  by_cases hck : F.checkI (nN ps) (netOf ps rs) 0 1 other = 0
  case neg =>
   have hckb : (F.checkI (nN ps) (netOf ps rs) 0 1 other != 0) = true := by simpa using hck
   simp -implicitDefEqProofs only [rX,↓rY,ofConst,↓reduceIte,Nat.reduceEqDiff,Nat.reduceAdd,hckb]
   refine s10 rfl rfl ?_
   simp -implicitDefEqProofs only [rX,↓reduceIte,resP,tupV,wfV]
  simp -implicitDefEqProofs only [rX,↓rY,ofConst,↓reduceIte,Nat.reduceEqDiff,Nat.reduceAdd,hck,bne_self_eq_false]
  have hof := okF_of hck (check_flow hck)
  have hol := hof.hl
  refine fun hmN => ?_
  refine loopP_intro (fun k : Nat => ⟨[(122, .i k), (121, .i (netOf ps rs).length), (120, .ro 4 ((netOf ps rs).map Arc.enc)), (14, .i (K.totTo (netOf ps rs) other k)), (1, .ro 1 (other.map encI)), (5, .ptr 1 0 0), (7, .ptr 2 0 0)], [plB ps rs, K.frB fr, .var [.i (nN ps), .ro 4 ((netOf ps rs).map Arc.enc)]], 0⟩) (fun k => k ≤ (netOf ps rs).length) (fun k => (netOf ps rs).length - k) 0 (by omega) ?_ ?_
  ·simp -implicitDefEqProofs only [rX,↓reduceIte,Nat.reduceEqDiff,reduceCtorEq,leE,leH,leB,leV,leVs,keepP,liveP,wfE,wfB,wfV,wfL,yC,K.totTo,plB,K.frB]
  rintro k hk
  unfold c9l1
  simp -implicitDefEqProofs only [rX,↓rY,rZ,ofConst,cells?,splice,↓reduceIte,Nat.reduceEqDiff,Nat.reduceAdd,freshP,leE,leH,leB,leV,leVs,keepP,liveP,wfE,wfB,wfV,wfL,plB,K.frB]
  simp only [br, decide_eq_true_eq, decide_eq_false_iff_not, yB]
  refine ⟨fun h => ?_, fun h => ?_⟩
  ·have hka : k < (netOf ps rs).length := by omega
   have hko : k < other.length := by omega
   have hob := hVF.flow hof.hl hof.hp
   have hac : ∀ a ∈ netOf ps rs, 0 ≤ a.cost ∧ a.cost ≤ 1048576 := fun a ha => (hV.ha a ha).2.2.2.2
   have b1 := K.totTo_bound (netOf ps rs) other hob hac k
   have b2 := K.totTo_bound (netOf ps rs) other hob hac (k + 1)
   have b3 := K.totTo_step (flow := other) hka hko
   have hkb : (k : Int) + 1 ≤ 100 := by omega
   refine ⟨⟨by omega, h⟩, hka, ⟨by omega, by omega⟩, hko, ?_⟩
   rw [b3] at b2
   simp only [lo, Fx.hi]
   refine ⟨⟨by omega, by omega⟩, ⟨by omega, by omega⟩, ⟨by omega, by omega⟩, k + 1, ⟨by omega, by omega⟩, by omega, b3.symm⟩
  ·have hk2 : k = (netOf ps rs).length := by omega
   subst hk2
   have ho37 := F.ok37 (nN ps) 0 (netOf ps rs) other hol (by omega) (by omega) (hVF.flow hof.hl hof.hp) hvs (by omega)
   rw [valFK] at ho37
   have hle := grt_most hV hE hg hof
   rw [hmost] at hle
   have hch := fun he => hfr.cheap hof he
   generalize K.valTo (netOf ps rs) 0 other (netOf ps rs).length = vo at ho37 hle hch
   generalize K.totTo (netOf ps rs) other (netOf ps rs).length = to at hch ⊢
   refine call_is ho37 (by simp [net, li, lendsOk, lendOk, lends, lend, wkL, wk, wkR]) rfl trivial ?_
   simp -implicitDefEqProofs only [rX,↓reduceIte,Nat.reduceAdd]
   refine s10 rfl rfl ?_
   have q1 : decide (vo ≤ fr.sent) = true := decide_eq_true hle
   have e41 := K.ok41 (nN ps) (netOf ps rs)
   rw [hV.chk] at e41
   by_cases q2 : vo < fr.sent
   ·have q3 : decide (vo < fr.sent) = true := decide_eq_true q2
    simp -implicitDefEqProofs only [rX,↓rY,ofConst,↓reduceIte,Nat.reduceEqDiff,Nat.reduceAdd,q1,q3]
    refine call_is e41 (by simp [net, li, lendsOk, lendOk, lends, lend, wkL, wk, wkR]) rfl trivial ?_
    simp -implicitDefEqProofs only [rX,↓rY,ofConst,↓reduceIte,Nat.reduceEqDiff,resP,tupV,wfV,beq_self_eq_true]
   ·have q3 : decide (vo < fr.sent) = false := decide_eq_false q2
    have q4 : decide (fr.cost ≤ to) = true := decide_eq_true (hch (by omega))
    simp -implicitDefEqProofs only [rX,↓rY,↓reduceIte,Nat.reduceEqDiff,Nat.reduceAdd,q1,q3,q4]
    refine call_is e41 (by simp [net, li, lendsOk, lendOk, lends, lend, wkL, wk, wkR]) rfl trivial ?_
    simp -implicitDefEqProofs only [rX,↓rY,ofConst,↓reduceIte,Nat.reduceEqDiff,resP,tupV,wfV,beq_self_eq_true]
 have hg3 : decide ((0 : Int) < ((lackN ps fr ps.length).length : Int)) = true := by
  rw [hg2, ← hgt]; exact decide_eq_true hla
 simp -implicitDefEqProofs only [↓rY,hg3]
 have hcut := hfr.acc.hc
 rw [if_neg (by omega)] at hcut
 have hN1 := hV.hn
 refine ⟨⟨⟨by omega, by omega⟩, by omega, by omega⟩, fun hm3 => ?_⟩
 refine loopP_intro (fun k : Nat => ⟨[(92, .i k), (91, .i fr.cut.length), (90, .ro 1 (fr.cut.map encI)), (11, .sl 3 0 (nN ps)), (1, .ro 1 (other.map encI)), (5, .ptr 1 0 0), (7, .ptr 2 0 0)], [plB ps rs, K.frB fr, .var [.i (nN ps), .ro 4 ((netOf ps rs).map Arc.enc)], .arr 1 ((mineK (nN ps) fr.cut k).map encB)], 0⟩) (fun k => k ≤ fr.cut.length) (fun k => fr.cut.length - k) 0 (by omega) ?_ ?_
 ·simp -implicitDefEqProofs only [rX,↓reduceIte,Nat.reduceEqDiff,reduceCtorEq,leE,leH,leB,leV,leVs,keepP,liveP,wfE,wfB,wfV,wfL,yC,plB,K.frB,mine_0,List.map_replicate]
  rfl
 rintro k hk
 unfold c9l0
 have hml : (mineK (nN ps) fr.cut k).length = nN ps := mine_len
 simp -implicitDefEqProofs only [rX,↓rY,rZ,ofConst,cells?,splice,↓reduceIte,Nat.reduceEqDiff,arrSz,Nat.reduceAdd,resP,tupV,leE,leH,leB,leV,leVs,keepP,liveP,wfE,wfB,wfV,wfL,isD,isC,plB,K.frB,hml]
 simp only [br, decide_eq_true_eq, decide_eq_false_iff_not, yB]
 refine ⟨fun h => ?_, fun h => ?_⟩
 ·have hk2 : k < fr.cut.length := by omega
  have hcr := (hcut.hs.h k hk2 hk2).1
  refine ⟨⟨by omega, h⟩, hk2, fun h4 => by omega, fun h4 => ⟨fun h5 => by omega, fun h5 => ⟨⟨by omega, by omega⟩, by omega, by simp only [lo, Fx.hi, maxLen] at *; omega, k + 1, ⟨by omega, by omega⟩, by omega, ?_⟩⟩⟩
  rw [← mine_s hk2 hcr, vW]
  rfl
 have hk2 : k = fr.cut.length := by omega
 subst hk2
 have e39 := F.ok39 (nN ps) (netOf ps rs) 0 1 fr.flow (mineK (nN ps) fr.cut fr.cut.length) hVF
 rw [mine_proves hV he hE hfl (by rw [hfr.acc.hv]; omega) hcut] at e39
 have htk : yE (nN ps) ((mineK (nN ps) fr.cut fr.cut.length).map encB) = (mineK (nN ps) fr.cut fr.cut.length).map encB := yI (by simp [hml])
 refine call_is e39 (by simp [net, li, F.blb, lendsOk, lendOk, lends, lend, wkL, wk, wkB, wkR, blk, htk, hml]) rfl trivial ?_
 simp -implicitDefEqProofs only [rX,↓rY,ofConst,↓reduceIte,Nat.reduceEqDiff,Nat.reduceAdd]
 refine call_is (F.ok40 (nN ps) (netOf ps rs) 0 1 other hVF) (by simp [net, li, lendsOk, lendOk, lends, lend, wkL, wk, wkR]) rfl trivial ?_
 by_cases hck : F.checkI (nN ps) (netOf ps rs) 0 1 other = 0
 case neg =>
  have hckb : (F.checkI (nN ps) (netOf ps rs) 0 1 other != 0) = true := by simpa using hck
  simp -implicitDefEqProofs only [rX,↓rY,ofConst,↓reduceIte,Nat.reduceEqDiff,Nat.reduceAdd,hckb]
  refine s10 rfl rfl ?_
  simp -implicitDefEqProofs only [rX,↓reduceIte,resP,tupV,wfV]
 simp -implicitDefEqProofs only [rX,↓rY,ofConst,↓reduceIte,Nat.reduceEqDiff,Nat.reduceAdd,hck,bne_self_eq_false]
 have hof := okF_of hck (check_flow hck)
 have hol := hof.hl
 refine fun hmN => ?_
 refine loopP_intro (fun k : Nat => ⟨[(122, .i k), (121, .i (netOf ps rs).length), (120, .ro 4 ((netOf ps rs).map Arc.enc)), (14, .i (K.totTo (netOf ps rs) other k)), (1, .ro 1 (other.map encI)), (5, .ptr 1 0 0), (7, .ptr 2 0 0)], [plB ps rs, K.frB fr, .var [.i (nN ps), .ro 4 ((netOf ps rs).map Arc.enc)], .arr 1 ((mineK (nN ps) fr.cut fr.cut.length).map encB)], 0⟩) (fun k => k ≤ (netOf ps rs).length) (fun k => (netOf ps rs).length - k) 0 (by omega) ?_ ?_
 ·simp -implicitDefEqProofs only [rX,↓reduceIte,Nat.reduceEqDiff,leE,leH,leB,leV,leVs,keepP,liveP,wfE,wfB,wfV,wfL,yC,K.totTo,plB,K.frB]
 rintro k hk
 unfold c9l1
 simp -implicitDefEqProofs only [rX,↓rY,rZ,ofConst,cells?,splice,↓reduceIte,Nat.reduceEqDiff,Nat.reduceAdd,freshP,leE,leH,leB,leV,leVs,keepP,liveP,wfE,wfB,wfV,wfL,plB,K.frB]
 simp only [br, decide_eq_true_eq, decide_eq_false_iff_not, yB]
 refine ⟨fun h => ?_, fun h => ?_⟩
 ·have hka : k < (netOf ps rs).length := by omega
  have hko : k < other.length := by omega
  have hob := hVF.flow hof.hl hof.hp
  have hac : ∀ a ∈ netOf ps rs, 0 ≤ a.cost ∧ a.cost ≤ 1048576 := fun a ha => (hV.ha a ha).2.2.2.2
  have b1 := K.totTo_bound (netOf ps rs) other hob hac k
  have b2 := K.totTo_bound (netOf ps rs) other hob hac (k + 1)
  have b3 := K.totTo_step (flow := other) hka hko
  have hkb : (k : Int) + 1 ≤ 100 := by omega
  refine ⟨⟨by omega, h⟩, hka, ⟨by omega, by omega⟩, hko, ?_⟩
  rw [b3] at b2
  simp only [lo, Fx.hi]
  refine ⟨⟨by omega, by omega⟩, ⟨by omega, by omega⟩, ⟨by omega, by omega⟩, k + 1, ⟨by omega, by omega⟩, by omega, b3.symm⟩
 ·have hk2 : k = (netOf ps rs).length := by omega
  subst hk2
  have ho37 := F.ok37 (nN ps) 0 (netOf ps rs) other hol (by omega) (by omega) (hVF.flow hof.hl hof.hp) hvs (by omega)
  rw [valFK] at ho37
  have hle := grt_most hV hE hg hof
  rw [hmost] at hle
  have hch := fun he => hfr.cheap hof he
  generalize K.valTo (netOf ps rs) 0 other (netOf ps rs).length = vo at ho37 hle hch
  generalize K.totTo (netOf ps rs) other (netOf ps rs).length = to at hch ⊢
  refine call_is ho37 (by simp [net, li, lendsOk, lendOk, lends, lend, wkL, wk, wkR]) rfl trivial ?_
  simp -implicitDefEqProofs only [rX,↓reduceIte,Nat.reduceAdd]
  refine s10 rfl rfl ?_
  have q1 : decide (vo ≤ fr.sent) = true := decide_eq_true hle
  have e41 := K.ok41 (nN ps) (netOf ps rs)
  rw [hV.chk] at e41
  by_cases q2 : vo < fr.sent
  ·have q3 : decide (vo < fr.sent) = true := decide_eq_true q2
   simp -implicitDefEqProofs only [rX,↓rY,ofConst,↓reduceIte,Nat.reduceEqDiff,Nat.reduceAdd,q1,q3]
   refine call_is e41 (by simp [net, li, lendsOk, lendOk, lends, lend, wkL, wk, wkR]) rfl trivial ?_
   simp -implicitDefEqProofs only [rX,↓rY,ofConst,↓reduceIte,Nat.reduceEqDiff,resP,tupV,wfV,beq_self_eq_true]
  ·have q3 : decide (vo < fr.sent) = false := decide_eq_false q2
   have q4 : decide (fr.cost ≤ to) = true := decide_eq_true (hch (by omega))
   simp -implicitDefEqProofs only [rX,↓rY,↓reduceIte,Nat.reduceEqDiff,Nat.reduceAdd,q1,q3,q4]
   refine call_is e41 (by simp [net, li, lendsOk, lendOk, lends, lend, wkL, wk, wkR]) rfl trivial ?_
   simp -implicitDefEqProofs only [rX,↓rY,ofConst,↓reduceIte,Nat.reduceEqDiff,resP,tupV,wfV,beq_self_eq_true]
abbrev tLi : Fx.T := .sl 1 (.int .i64)
theorem wf_l {x : List V} (h : WfT tLi x) : ∃ l, x = [li l] := by
 rw [WfT] at h
 obtain ⟨els, h1, _, he⟩ := h
 obtain ⟨l, rfl⟩ := exM (g := encI) (fun x hx => by
  have := he x hx
  simp only [WfT] at this
  obtain ⟨n, rfl, _⟩ := this
  exact ⟨n, rfl⟩)
 exact ⟨l, by simpa [li] using h1⟩
theorem wf_li {x : V} (h : WfV tLi x) : ∃ l, x = li l := by
 simp only [WfV] at h
 obtain ⟨l, h⟩ := wf_l h
 exact ⟨l, by simpa using h⟩
theorem fn9 : ∀ xs, WfA [tPl, .sl 1 (.int .i64)] xs → Fn Try.prog 9 xs [] [] (fun r _ => r = .b true) := by
 intro xs h
 obtain ⟨x1, _, rfl, h1, h⟩ := h
 obtain ⟨x2, _, rfl, h2, h⟩ := h
 obtain rfl : _ = [] := h
 obtain ⟨ps, rs, rfl⟩ := wf_plant h1
 obtain ⟨o, rfl⟩ := wf_li h2
 exact fn_of' (ok9 ps rs o)
end Go.Fx.P
