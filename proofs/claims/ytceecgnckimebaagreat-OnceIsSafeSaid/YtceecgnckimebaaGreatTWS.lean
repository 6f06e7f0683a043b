import Derived.Test.YtceecgnckimebaaGreatT65
import Derived.Test.YtceecgnckimebaaGreatOCode
set_option linter.unusedVariables false
set_option linter.unusedSimpArgs false
set_option linter.unusedSectionVars false
open Bool renaming true_and → yA
open List renaming take_succ_cons → yB, drop_succ_cons → yC, take → yD, take_of_length_le → yE, getElem_mem → yF, map_append → yG, length_set → yH, length_append → yI, getElem_of_mem → yJ, getD_eq_getElem?_getD → yK, getElem?_eq_getElem → yL
namespace Go.Fx.O
open Go Go.Fx Go.Proofs Go.Fx.R
set_option maxRecDepth 20000
theorem do4 (all : List Purse) (way : List Ltr) (spent : List Int) (kind party to m : Int) (h1 : kind.tmod 5 = 4) (h2 : 0 ≤ party ∧ party ≤ 255) (h5 : 0 ≤ m ∧ m ≤ 255) (hw : way.length ≤ 100000) (hw0 : way.length ≠ 0)
  (i : Nat) (hi : i < way.length) (him : m.tmod way.length = i) (k : Nat) (hk : k < all.length) (hkp : way[i].to = k) (hr : Rt all[k]) : OkN Tryz.prog 24 [.ptr 0 0 0, .agg [u8 kind, u8 party, u8 to, u8 m]] (hW all way spent) [2, 3] (IsA (.tup []) (hW (all.set k (hearA all[k] way[i]).1) (way ++ ansL all[k] way[i] (hearA all[k] way[i]).2) spent)) := by
 refine okN_of pol [0, 1] lw24 (by simp) (by simp [keepP, liveP, hW]) (by simp [hW]; omega) ?_
 unfold c24 hW
 have e0 : (kind.tmod 5 == 0) = false := by rw [beq_eq_false_iff_ne]; omega
 have e1 : (kind.tmod 5 == 1) = false := by rw [beq_eq_false_iff_ne]; omega
 have e2 : (kind.tmod 5 == 2) = false := by rw [beq_eq_false_iff_ne]; omega
 have e3 : (kind.tmod 5 == 3) = false := by rw [beq_eq_false_iff_ne]; omega
 have e4 : ((way.length : Int) == 0) = false := by rw [beq_eq_false_iff_ne]; omega
 simp -implicitDefEqProofs only [rX,↓rY,rdK,ofConst,cells?,splice,↓reduceIte,Nat.reduceEqDiff,arrSz,Nat.reduceAdd,reduceCtorEq,freshP,slcOk,litsP,killE,killB,kill,kills,St.kill,isC,Nat.reduceLeDiff,cxN,zc22,zc21,yC,yB,yA,args0,e0,e1,e2,e3,e4,him,hkp,l_len,le_18,l_C,l_t,l_kill]
 have hb : ∀ {x : Int}, 0 ≤ x ∧ x ≤ 255 → lo IntKind.i64 ≤ x ∧ x ≤ Fx.hi IntKind.i64 := fun h => by simp only [lo, Fx.hi]; omega
 have h18 := ok18 all[k] way[i] hr.l.v hr.s.v hr.mh hr.ms (hle hr)
 have hA : (ansL all[k] way[i] (hearA all[k] way[i]).2).length ≤ 1 := by unfold ansL; split <;> simp
 refine ⟨hb h2, by decide, by decide, fun _ => ⟨hb h5, fun _ => ⟨by omega, by omega, hi, by decide, by omega, hk, ?_⟩⟩⟩
 generalize ansL all[k] way[i] (hearA all[k] way[i]).2 = A at h18 hA ⊢
 generalize (hearA all[k] way[i]).1 = q at h18 ⊢
 have hset : (all.map Purse.enc).set k [u8 q.id.a0, u8 q.id.a1, u8 q.id.a2, u8 q.id.a3, u8 q.id.a4, u8 q.id.a5, u8 q.id.a6, u8 q.id.a7, u8 q.id.a8, u8 q.id.a9, u8 q.id.a10, u8 q.id.a11, u8 q.id.a12, u8 q.id.a13, u8 q.id.a14, u8 q.id.a15, .i q.me, spans q.left, spans q.spent, spans q.sent, spans q.heard, gifts q.out] = (all.set k q).map Purse.enc := p_set
 have htk : yD way.length (way.map Ltr.enc) = way.map Ltr.enc := yE (by simp)
 constructor
 ·refine call_is h18 pl_lend rfl (by simp [keepP, liveP]) ?_
  simp -implicitDefEqProofs only [rX,↓rY,ofConst,cells?,splice,↓reduceIte,Nat.reduceEqDiff,arrSz,Nat.reduceAdd,reduceCtorEq,freshP,killE,killB,kill,kills,St.kill,isD,isC,Nat.reduceLeDiff,zc22,yC,yB,yA,hkp,le_18,l_kill]
  refine ⟨by omega, hk, .inr trivial, by omega, ?_⟩
  rw [hset, htk, ← yG, retP_isA]
  simp -implicitDefEqProofs only [rX,Nat.reduceAdd,resP,tupV,leH,leB,leV,leVs,keepP,liveP,wfB,wfV,wfL,yH]
 ·refine call_is h18 pl_lend rfl (by simp [keepP, liveP]) ?_
  simp -implicitDefEqProofs only [rX,↓rY,cells?,splice,↓reduceIte,Nat.reduceEqDiff,arrSz,Nat.reduceAdd,reduceCtorEq,killE,killB,kill,kills,St.kill,isD,isC,Nat.reduceLeDiff,yC,yB,yA,hkp,le_18,l_kill]
  refine ⟨by omega, hk, .inr trivial, by omega, ?_⟩
  rw [hset, htk, ← yG, retP_isA]
  simp -implicitDefEqProofs only [rX,Nat.reduceAdd,resP,tupV,leH,leB,leV,leVs,keepP,liveP,wfB,wfV,wfL,yH]
end Go.Fx.O
namespace Go.Fx.O
open Go Go.Fx Go.Proofs Go.Fx.R
set_option maxRecDepth 20000
def hV (all : List Purse) (way : List Ltr) (spent : List Int) : List Blk := [.var [.sl 1 0 all.length, .sl 6 0 way.length, .sl 3 0 spent.length], .arr 22 (all.map Purse.enc), .dead, .arr 1 (spent.map encI), .dead, .dead, .arr 21 (way.map Ltr.enc)]
theorem do3r (all : List Purse) (way : List Ltr) (spent : List Int) (kind party to m : Int) (h1 : kind.tmod 5 = 3) (h2 : 0 ≤ party ∧ party ≤ 255) (h5 : 0 ≤ m ∧ m ≤ 255) (hw : way.length ≤ 100000) (hw0 : way.length ≠ 0)
  (i : Nat) (hi : i < way.length) (him : m.tmod way.length = i) (k : Nat) (hk : k < all.length) (hkp : way[i].to = k) (hr : Rt all[k]) : OkN Tryz.prog 24 [.ptr 0 0 0, .agg [u8 kind, u8 party, u8 to, u8 m]] (hW all way spent) [2, 3] (IsA (.tup []) (hV (all.set k (hearA all[k] way[i]).1) ((way.take i ++ way.drop (i + 1)) ++ ansL all[k] way[i] (hearA all[k] way[i]).2) spent)) := by
 refine okN_of pol [0, 1] lw24 (by simp) (by simp [keepP, liveP, hW]) (by simp [hW]; omega) ?_
 unfold c24 hW
 have e0 : (kind.tmod 5 == 0) = false := by rw [beq_eq_false_iff_ne]; omega
 have e1 : (kind.tmod 5 == 1) = false := by rw [beq_eq_false_iff_ne]; omega
 have e2 : (kind.tmod 5 == 2) = false := by rw [beq_eq_false_iff_ne]; omega
 have e3 : (kind.tmod 5 == 3) = true := by rw [beq_iff_eq]; exact h1
 have e4 : ((way.length : Int) == 0) = false := by rw [beq_eq_false_iff_ne]; omega
 have hti : ((i : Int) + 1).toNat = i + 1 := by omega
 have htz : Int.toNat 0 = 0 := rfl
 simp -implicitDefEqProofs only [rX,↓rY,rdK,ofConst,cells?,splice,↓reduceIte,Nat.reduceEqDiff,arrSz,Nat.reduceAdd,reduceCtorEq,freshP,slcOk,litsP,killE,killB,kill,kills,St.kill,isC,Nat.reduceLeDiff,cxN,zc22,zc21,yC,yB,yA,args0,e0,e1,e2,e3,e4,him,hkp,hti,htz,Nat.sub_zero,l_len,le_18,l_C,l_t,l_kill]
 have hb : ∀ {x : Int}, 0 ≤ x ∧ x ≤ 255 → lo IntKind.i64 ≤ x ∧ x ≤ Fx.hi IntKind.i64 := fun h => by simp only [lo, Fx.hi]; omega
 have h18 := ok18 all[k] way[i] hr.l.v hr.s.v hr.mh hr.ms (hle hr)
 have hA : (ansL all[k] way[i] (hearA all[k] way[i]).2).length ≤ 1 := by unfold ansL; split <;> simp
 refine ⟨hb h2, by decide, by decide, fun _ => ⟨hb h5, fun _ => ⟨by omega, by omega, hi, by decide, by omega, by simp only [lo, Fx.hi]; omega, by omega, by omega, .inr trivial, by simp; omega, by omega, .inr trivial, by simp; omega, by omega, hk, ?_⟩⟩⟩
 generalize ansL all[k] way[i] (hearA all[k] way[i]).2 = A at h18 hA ⊢
 generalize (hearA all[k] way[i]).1 = q at h18 ⊢
 have hset : (all.map Purse.enc).set k [u8 q.id.a0, u8 q.id.a1, u8 q.id.a2, u8 q.id.a3, u8 q.id.a4, u8 q.id.a5, u8 q.id.a6, u8 q.id.a7, u8 q.id.a8, u8 q.id.a9, u8 q.id.a10, u8 q.id.a11, u8 q.id.a12, u8 q.id.a13, u8 q.id.a14, u8 q.id.a15, .i q.me, spans q.left, spans q.spent, spans q.sent, spans q.heard, gifts q.out] = (all.set k q).map Purse.enc := p_set
 have z1 : yD i (List.map Ltr.enc way) = (way.take i).map Ltr.enc := List.map_take.symm
 have z2 : yD (way.length - (i + 1)) (List.drop (i + 1) (List.map Ltr.enc way)) = (way.drop (i + 1)).map Ltr.enc := by rw [yE (by simp), List.map_drop]
 have z3 : (way.take i).length + (way.drop (i + 1)).length + 1 ≤ 100001 := by rw [List.length_take, List.length_drop]; omega
 rw [z1, z2]
 generalize way.take i = B1 at z3 ⊢
 generalize way.drop (i + 1) = B2 at z3 ⊢
 have z4 : ∀ l : List Ltr, yD l.length (l.map Ltr.enc) = l.map Ltr.enc := fun l => yE (by simp)
 have z5 : ∀ l l' : List Ltr, yD (l.length + l'.length) (l.map Ltr.enc ++ l'.map Ltr.enc) = l.map Ltr.enc ++ l'.map Ltr.enc := fun l l' => yE (by simp)
 constructor
 ·refine call_is h18 pl_lend rfl (by simp [keepP, liveP]) ?_
  simp -implicitDefEqProofs only [rX,↓rY,ofConst,cells?,splice,↓reduceIte,Nat.reduceEqDiff,arrSz,Nat.reduceAdd,reduceCtorEq,freshP,killE,killB,kill,kills,St.kill,isD,isC,Nat.reduceLeDiff,zc22,yC,yB,yA,hkp,le_18,l_kill,z4,z5]
  refine ⟨by omega, hk, .inr trivial, by omega, ?_⟩
  rw [hset, retP_isA]
  simp -implicitDefEqProofs only [rX,Nat.reduceAdd,resP,tupV,leH,leB,leV,leVs,keepP,liveP,wfB,wfV,wfL,Nat.reduceLeDiff,hV,yH,yG]
 ·refine call_is h18 pl_lend rfl (by simp [keepP, liveP]) ?_
  simp -implicitDefEqProofs only [rX,↓rY,cells?,splice,↓reduceIte,Nat.reduceEqDiff,arrSz,Nat.reduceAdd,reduceCtorEq,killE,killB,kill,kills,St.kill,isD,isC,Nat.reduceLeDiff,yC,yB,yA,hkp,le_18,l_kill,z4,z5]
  refine ⟨by omega, hk, .inr trivial, by omega, ?_⟩
  rw [hset, retP_isA]
  simp -implicitDefEqProofs only [rX,Nat.reduceAdd,resP,tupV,leH,leB,leV,leVs,keepP,liveP,wfB,wfV,wfL,Nat.reduceLeDiff,hV,yH,yG]
theorem do3 (all : List Purse) (way : List Ltr) (spent : List Int) (kind party to m : Int) (h1 : kind.tmod 5 = 3) (h2 : 0 ≤ party ∧ party ≤ 255) (h5 : 0 ≤ m ∧ m ≤ 255) (hw : way.length ≤ 100000) (hw0 : way.length ≠ 0)
  (i : Nat) (hi : i < way.length) (him : m.tmod way.length = i) (k : Nat) (hk : k < all.length) (hkp : way[i].to = k) (hr : Rt all[k]) : OkN Tryz.prog 24 [.ptr 0 0 0, .agg [u8 kind, u8 party, u8 to, u8 m]] (hW all way spent) [2, 3] (IsA (.tup []) (hW (all.set k (hearA all[k] way[i]).1) ((way.take i ++ way.drop (i + 1)) ++ ansL all[k] way[i] (hearA all[k] way[i]).2) spent)) := by
 have h := do3r all way spent kind party to m h1 h2 h5 hw hw0 i hi him k hk hkp hr
 generalize ((way.take i ++ way.drop (i + 1)) ++ ansL all[k] way[i] (hearA all[k] way[i]).2) = W at h ⊢
 generalize all.set k (hearA all[k] way[i]).1 = A at h ⊢
 refine ⟨h.1, Fn_ghostN [0, 1] (by simp [hW]; omega) (by simp [hW]) h.2 ?_⟩
 rintro r hs ⟨rfl, rfl⟩
 refine ⟨by simp [keepP, liveP, hV], _, _, ⟨rfl, rfl⟩, by simp [hW], ?_⟩
 refine ⟨_, .mv 2 6 (.arr 21 (W.map Ltr.enc)) (by decide) rfl rfl (by simp) (.refl _), ?_⟩
 simp [hV, hW, mvE, mvV, mvL, mvB, leS, leE, leH, leB, leVs, leV, keepP, liveP, wfE, wfB, wfV, wfL, get]
end Go.Fx.O
namespace Go.Fx.O
open Go Go.Fx Go.Proofs Go.Fx.R
set_option maxRecDepth 20000
structure Act where
 kind : Int
 party : Int
 to : Int
 n : Int
abbrev Act.enc (a : Act) : List V := [u8 a.kind, u8 a.party, u8 a.to, u8 a.n]
structure Act.Ok (a : Act) : Prop where
 k : 0 ≤ a.kind ∧ a.kind ≤ 255
 p : 0 ≤ a.party ∧ a.party ≤ 255
 t : 0 ≤ a.to ∧ a.to ≤ 255
 n : 0 ≤ a.n ∧ a.n ≤ 255
structure Wld where
 all : List Purse
 way : List Ltr
 spent : List Int
def Wld.I (n : Nat) (w : Wld) : Prop := Inv n w.all w.way w.spent
abbrev Wld.h (w : Wld) : List Blk := hW w.all w.way w.spent
def pOf (w : Wld) (k : Nat) : Purse := w.all.getD k default
def lOf (w : Wld) (i : Nat) : Ltr := w.way.getD i default
def doW (w : Wld) (a : Act) : Wld :=
 if a.kind.tmod 5 = 0 then ⟨w.all.set (a.party.tmod 4).toNat (spendP (pOf w (a.party.tmod 4).toNat)).1, w.way, if (spendP (pOf w (a.party.tmod 4).toNat)).2.2 = 0 then w.spent ++ [(spendP (pOf w (a.party.tmod 4).toNat)).2.1] else w.spent⟩
 else if a.kind.tmod 5 = 1 then ⟨w.all.set (a.party.tmod 4).toNat (giveP (pOf w (a.party.tmod 4).toNat) (a.to.tmod 4) (a.n.tmod 8)).1, w.way, w.spent⟩
 else if a.kind.tmod 5 = 2 then ⟨w.all, if w.way.length < 200 then w.way ++ lettersP (pOf w (a.party.tmod 4).toNat) else w.way, w.spent⟩
 else if w.way.length = 0 then w
 else
  let i := (a.n.tmod w.way.length).toNat
  let L := lOf w i
  let q := pOf w L.to.toNat
  ⟨w.all.set L.to.toNat (hearA q L).1, (if a.kind.tmod 5 = 3 then w.way.take i ++ w.way.drop (i + 1) else w.way) ++ ansL q L (hearA q L).2, w.spent⟩
theorem tm {a m : Int} (h : 0 ≤ a) (hm : 0 < m) : 0 ≤ a.tmod m ∧ a.tmod m < m := ⟨Int.tmod_nonneg _ h, Int.tmod_lt_of_pos _ hm⟩
theorem pOf_eq {w : Wld} {k : Nat} (h : k < w.all.length) : pOf w k = w.all[k] := by unfold pOf; rw [yK, yL h]; rfl
theorem lOf_eq {w : Wld} {k : Nat} (h : k < w.way.length) : lOf w k = w.way[k] := by unfold lOf; rw [yK, yL h]; rfl
theorem ok24 {n : Nat} (w : Wld) (a : Act) (ha : a.Ok) (hI : w.I n) (hw : w.way.length ≤ 100000) (hs : w.spent.length ≤ 1000) : OkN Tryz.prog 24 [.ptr 0 0 0, .agg a.enc] w.h [2, 3] (IsA (.tup []) (doW w a).h) := by
 have hl := hI.len
 have hp := tm (m := 4) ha.p.1 (by omega)
 have hk := tm (m := 5) ha.k.1 (by omega)
 generalize hpk : (a.party.tmod 4).toNat = k
 have hkl : k < w.all.length := by omega
 have hkp : a.party.tmod 4 = k := by omega
 have hr := (hI.rt k hkl).1
 have e := pOf_eq hkl
 unfold doW
 rw [hpk, e]
 by_cases c0 : a.kind.tmod 5 = 0
 ·rw [if_pos c0]
  exact do0 w.all w.way w.spent a.kind a.party a.to a.n c0 ha.p hl hs k hkl hkp hr
 rw [if_neg c0]
 by_cases c1 : a.kind.tmod 5 = 1
 ·rw [if_pos c1]
  exact do1 w.all w.way w.spent a.kind a.party a.to a.n c1 ha.p ha.t ha.n k hkl hkp hr
 rw [if_neg c1]
 by_cases c2 : a.kind.tmod 5 = 2
 ·rw [if_pos c2]
  exact do2 w.all w.way w.spent a.kind a.party a.to a.n c2 ha.p hw k hkl hkp hr
 rw [if_neg c2]
 by_cases c3 : w.way.length = 0
 ·rw [if_pos c3]
  have hnil : w.way = [] := List.length_eq_zero_iff.1 c3
  have := do34n w.all w.spent a.kind a.party a.to a.n (by omega) ha.p
  unfold Wld.h
  rw [hnil]
  exact this
 rw [if_neg c3]
 have hi := tm (m := w.way.length) ha.n.1 (by omega)
 generalize hii : (a.n.tmod w.way.length).toNat = i
 have hil : i < w.way.length := by omega
 have him : a.n.tmod w.way.length = i := by omega
 simp only [lOf_eq hil]
 obtain ⟨_, _, j, _, hj, _, _, hto, hz⟩ := hI.lt _ (yF hil)
 clear hz
 have hjn : w.way[i].to.toNat = j := by rw [hto]; exact Int.toNat_natCast j
 rw [hjn, pOf_eq hj]
 have hrj := (hI.rt j hj).1
 by_cases c4 : a.kind.tmod 5 = 3
 ·rw [if_pos c4]
  exact do3 w.all w.way w.spent a.kind a.party a.to a.n c4 ha.p ha.n hw c3 i hil him j hj hto hrj
 ·rw [if_neg c4]
  have c5 : a.kind.tmod 5 = 4 := by omega
  exact do4 w.all w.way w.spent a.kind a.party a.to a.n c5 ha.p ha.n hw c3 i hil him j hj hto hrj
theorem inv_do {n : Nat} {w : Wld} {a : Act} (ha : a.Ok) (hI : w.I n) : (doW w a).I n := by
 have hl := hI.len
 have hp := tm (m := 4) ha.p.1 (by omega)
 have hk := tm (m := 5) ha.k.1 (by omega)
 generalize hpk : (a.party.tmod 4).toNat = k
 have hkl : k < w.all.length := by omega
 have e := pOf_eq hkl
 unfold doW
 rw [hpk, e]
 split
 ·exact inv_spend hI hkl
 split
 ·exact hI.step (stp_give hI hkl (tm ha.t.1 (by omega)))
 split
 ·unfold Wld.I
  simp only
  split
  ·exact inv_send hI hkl
  ·exact hI
 split
 ·exact hI
 rename_i c3
 have hi := tm (m := w.way.length) ha.n.1 (by omega)
 generalize hii : (a.n.tmod w.way.length).toNat = i
 have hil : i < w.way.length := by omega
 simp only [lOf_eq hil]
 obtain ⟨_, _, j, _, hj, _, _, hto, hz⟩ := hI.lt _ (yF hil)
 clear hz
 have hjn : w.way[i].to.toNat = j := by rw [hto]; exact Int.toNat_natCast j
 rw [hjn, pOf_eq hj]
 have h1 := inv_hear hI (yF hil) hj hto
 refine h1.way fun L hL => ?_
 rcases List.mem_append.1 hL with hL | hL
 ·refine List.mem_append_left _ ?_
  split at hL
  ·rcases List.mem_append.1 hL with hL | hL
   ·exact List.mem_of_mem_take hL
   ·exact List.mem_of_mem_drop hL
  ·exact hL
 ·exact List.mem_append_right _ hL
theorem do_len {n : Nat} {w : Wld} {a : Act} {m : Nat} (ha : a.Ok) (hI : w.I n) (h1 : w.way.length ≤ 264 + m) (h2 : w.spent.length ≤ m) : (doW w a).way.length ≤ 264 + (m + 1) ∧ (doW w a).spent.length ≤ m + 1 := by
 have hl := hI.len
 have hp := tm (m := 4) ha.p.1 (by omega)
 generalize hpk : (a.party.tmod 4).toNat = k
 have hkl : k < w.all.length := by omega
 have e := pOf_eq hkl
 have hr := (hI.rt k hkl).1
 unfold doW
 rw [hpk, e]
 split
 ·simp only
  refine ⟨by omega, ?_⟩
  split
  ·rw [yI]; simp; omega
  ·omega
 split
 ·simp only; omega
 split
 ·simp only
  refine ⟨?_, by omega⟩
  split
  ·have : (lettersP w.all[k]).length ≤ 64 := by unfold lettersP; rw [List.length_map]; exact hr.n
   rw [yI]; omega
  ·omega
 split
 ·omega
 simp only
 refine ⟨?_, by omega⟩
 generalize lOf w _ = L
 generalize pOf w _ = q
 have hA : (ansL q L (hearA q L).2).length ≤ 1 := by unfold ansL; split <;> simp
 rw [yI]
 split
 ·rw [yI, List.length_take, List.length_drop]; omega
 ·omega
end Go.Fx.O
namespace Go.Fx.O
open Go Go.Fx Go.Proofs Go.Fx.R
set_option maxRecDepth 20000
theorem call_isMA {cx : Cx} {f : FuncId} {args : List V} {e : Env} {h : List Blk} {b : Nat} {K : V → St → Prop} (ι mv M : List Nat) (xs : List V) (x x' : V) (h0 h1 h' : List Blk) (e' : Env) (hC : cx.C f xs h0 mv (IsA x h1))
  (hι : ι.Nodup ∧ ∀ k ∈ ι, k < h.length ∧ k ∉ cx.bn) (hM : mv.filterMap (ι[·]?) = M ∧ ∀ j ∈ mv, ∀ k, ι[j]? = some k → k ∉ cx.fx) (r0 : ι.map (fun k => renB (pos ι) (blk h k)) = h0) (ha : lendsOk h (pos ι) args ∧ wkL xs (lends h (pos ι) args))
  (hh : setAll ι (h1.map (renB (back ι h.length))) (h.map (killB M)) = h') (hx : ren (back ι h.length) x = x') (he : killE M e = e') (keep : keepP cx.fx h') (h3 : K x' ⟨e', h', b⟩) : callP cx f args ⟨e, h, b⟩ K := by
 refine ⟨ι, xs, mv, IsA x h1, ⟨hι, hM.2⟩, ha.1, ha.2, by rw [r0]; exact hC, ?_⟩
 rintro r h2 ⟨rfl, rfl⟩ _
 rw [hM.1, hh, hx, he]
 exact ⟨keep, h3⟩
def runW (n : Nat) (acts : List Act) (k : Nat) : Wld := (acts.take k).foldl doW ⟨begL n, [], []⟩
theorem runW_0 {n : Nat} {acts : List Act} : runW n acts 0 = ⟨begL n, [], []⟩ := rfl
theorem runW_s {n : Nat} {acts : List Act} {k : Nat} (h : k < acts.length) : runW n acts (k + 1) = doW (runW n acts k) acts[k] := by
 unfold runW
 rw [List.take_succ_eq_append_getElem h, List.foldl_append]; rfl
structure Run (n k : Nat) (w : Wld) : Prop where
 i : w.I n
 wl : w.way.length ≤ 264 + k
 sl : w.spent.length ≤ k
theorem run_ok {n : Nat} (hn : n ≤ 255) {acts : List Act} (ha : ∀ a ∈ acts, a.Ok) : ∀ k, k ≤ acts.length → Run n k (runW n acts k)
 | 0, _ => ⟨inv_begin hn, Nat.zero_le _, Nat.le_refl _⟩
 | k + 1, h => by
  have ih := run_ok hn ha k (by omega)
  rw [runW_s (by omega)]
  have hm := ha _ (yF (show k < acts.length by omega))
  obtain ⟨h1, h2⟩ := do_len hm ih.i ih.wl ih.sl
  exact ⟨inv_do hm ih.i, h1, h2⟩
theorem Rt.purV {p : Purse} (h : Rt p) : PurV p := ⟨h.l.v, h.s.v, fun g hg => (h.uv g hg).v, h.mh.mks, Nat.le_trans h.mh.len (by omega)⟩
end Go.Fx.O
namespace Go.Fx.O
open Go Go.Fx Go.Proofs Go.Fx.R
set_option maxRecDepth 20000
theorem ok5 (n : Nat) (hn : n ≤ 255) (acts : List Act) (ha : ∀ a ∈ acts, a.Ok) : Ok 5 [u8 n, .ro 4 (acts.map Act.enc)] (Is (.b true)) := by
 refine ok_of lw5 (by simp) ?_
 unfold c5
 simp -implicitDefEqProofs only [rX,↓rY,ofConst,↓reduceIte,Nat.reduceEqDiff,reduceCtorEq,cxN,yA,args0]
 intro hml
 by_cases hc : acts.length ≤ 300
 rotate_left
 ·have hd : decide ((300 : Int) < (acts.length : Int)) = true := decide_eq_true (by omega)
  simp -implicitDefEqProofs only [↓rY,hd]
  refine call_is ok9 (by simp [lendsOk, lends, wkL]) rfl trivial ?_
  simp -implicitDefEqProofs only [rX,↓reduceIte,resP,tupV,wfV]
 have hd : decide ((300 : Int) < (acts.length : Int)) = false := decide_eq_false (by omega)
 simp -implicitDefEqProofs only [↓rY,hd]
 refine ⟨by simp only [lo, hi]; omega, ?_⟩
 refine call_isA [.i n] (.agg [.sl 2 0 4, .nil, .nil]) (.agg [.sl 3 0 4, .nil, .nil]) [.dead, .dead, .arr 22 ((begL n).map Purse.enc)] [.dead, .dead, .arr 22 ((begL n).map Purse.enc)] (ok23 n hn) (by simp [lendsOk, lendOk, lends, lend, wkL, wk, wkR]) rfl rfl trivial ?_
 simp -implicitDefEqProofs only [rX,↓rY,ofConst,cells?,splice,↓reduceIte,Nat.reduceEqDiff,Nat.reduceAdd,freshP,isC,yC,yA]
 refine loopP_ghost (.mv 1 3 (.arr 22 ((begL n).map Purse.enc)) (by decide) rfl rfl (by simp) (.virtAt 2 21 (by decide) rfl (.virtAt 3 1 (by decide) rfl (.nilB 0 [.sl 1 0 4, .nil, .nil] [.sl 1 0 4, .sl 2 0 0, .sl 3 0 0] rfl ⟨rfl, fun i x y h1 h2 => by
  match i with
  | 0 => simp at h1 h2; subst h1 h2; exact .inl rfl
  | 1 => simp at h1 h2; subst h1 h2; exact .inr ⟨rfl, 2, rfl⟩
  | 2 => simp at h1 h2; subst h1 h2; exact .inr ⟨rfl, 3, rfl⟩
  | i + 3 => simp at h1⟩ (.refl _))))) (fun k : Nat => ⟨[(7, .i k), (6, .ptr 0 0 0), (5, .i n), (4, .b false), (0, u8 n), (1, .ro 4 (acts.map Act.enc))], (runW n acts k).h, 4⟩) (fun k => k ≤ acts.length) (fun k => acts.length - k) 0 (by omega) ?_ ?_
 ·simp -implicitDefEqProofs only [rX,↓reduceIte,Nat.reduceEqDiff,reduceCtorEq,leE,leH,leB,leV,leVs,keepP,liveP,wfE,wfB,wfV,wfL,Int.natCast_zero,runW_0,Wld.h,hW,mvE,mvV,mvL,mvB]
  rfl
 rintro k hk
 have hR := run_ok hn ha k hk
 unfold c5l0
 rcases Nat.lt_or_ge k acts.length with hk' | hk'
 ·have h1 : decide ((k : Int) < (acts.length : Int)) = true := decide_eq_true (by omega)
  have hkk : (0 : Int) ≤ k ∧ (k : Int) < acts.length := ⟨by omega, by omega⟩
  have hak := ha _ (yF hk')
  have hR' := run_ok hn ha (k + 1) hk'
  have h24 := ok24 (runW n acts k) acts[k] hak hR.i (by have := hR.wl; omega) (by have := hR.sl; omega)
  rw [← runW_s hk'] at h24
  generalize runW n acts k = w at h24 ⊢
  have h25 := ok25b (runW n acts (k + 1)).all fun p hp => by
   obtain ⟨i, hi, rfl⟩ := yJ hp
   exact (hR'.i.rt i hi).1.purV
  rw [known_ok (n := n) (fun p hp q hq => by
   obtain ⟨i, hi, rfl⟩ := yJ hp
   obtain ⟨j, hj, rfl⟩ := yJ hq
   rw [(hR'.i.rt i hi).2.1, (hR'.i.rt j hj).2.1]) hR'.i.tt] at h25
  have htk : yD (runW n acts (k + 1)).all.length ((runW n acts (k + 1)).all.map Purse.enc) = (runW n acts (k + 1)).all.map Purse.enc := yE (by simp)
  simp -implicitDefEqProofs only [rX,↓rY,↓reduceIte,Nat.reduceEqDiff,Nat.reduceAdd,reduceCtorEq,yB,yA,h1,Wld.h,hW]
  refine fun _ => ⟨hkk, hk', ?_⟩
  generalize hw' : runW n acts (k + 1) = w' at h24 h25 htk ⊢
  refine call_isMA [0, 1, 2, 3] [2, 3] [2, 3] [.ptr 0 0 0, .agg acts[k].enc] (.tup []) (.tup []) w.h w'.h w'.h _ h24 (by simp) (by simp) rfl (by simp [lendsOk, lendOk, lends, lend, wkL, wk, wkR, pos]) rfl rfl rfl trivial ?_
  simp -implicitDefEqProofs only [rX,↓rY,↓reduceIte,Nat.reduceEqDiff,Nat.reduceAdd,reduceCtorEq,killE,kill,kills,St.kill,Wld.h,hW]
  by_cases h0 : n = 0
  ·rw [if_pos h0] at h25
   refine call_is h25 (by simp [lendsOk, lendOk, lends, lend, wkL, wk, wkB, blk, htk]) rfl trivial ?_
   have h2 : ((0 : Int) != (n : Int)) = false := by subst h0; rfl
   have h3 : decide ((0 : Int) < (n : Int)) = false := decide_eq_false (by omega)
   simp -implicitDefEqProofs only [rX,↓rY,↓reduceIte,Nat.reduceEqDiff,Nat.reduceAdd]
   refine call_is (ok26 [] vd_nil) (by simp [lendsOk, lendOk, lends, lend, wkL, wk, wkR]) rfl trivial ?_
   rw [tot_nil]
   simp -implicitDefEqProofs only [rX,↓rY,ofConst,↓reduceIte,Nat.reduceEqDiff,Nat.reduceAdd,reduceCtorEq,leE,leH,leB,leV,leVs,keepP,liveP,wfE,wfB,wfV,wfL,yA,h2,h3]
   exact ⟨by simp only [lo, hi]; omega, k + 1, ⟨by omega, by omega⟩, by simp, by rw [hw']; exact ⟨⟨rfl, rfl, rfl⟩, rfl, rfl, rfl⟩⟩
  ·rw [if_neg h0] at h25
   refine call_is h25 (by simp [lendsOk, lendOk, lends, lend, wkL, wk, wkB, blk, htk]) rfl trivial ?_
   have hvd : Vd [(1, (n : Int) + 1)] := vd_iff.1 (by simp [vd, vdB]; omega)
   have h2 : (tot [(1, (n : Int) + 1)] != (n : Int)) = false := by
    rw [tot_cons, tot_nil]; simp
   have h3 : decide ((0 : Int) < (n : Int)) = true := decide_eq_true (by omega)
   simp -implicitDefEqProofs only [rX,↓rY,↓reduceIte,Nat.reduceEqDiff,Nat.reduceAdd]
   refine call_is (ok26 [(1, (n : Int) + 1)] hvd) (by simp [lendsOk, lendOk, lends, lend, wkL, wk, wkR]) rfl trivial ?_
   simp -implicitDefEqProofs only [rX,↓rY,ofConst,↓reduceIte,Nat.reduceEqDiff,Nat.reduceAdd,reduceCtorEq,leE,leH,leB,leV,leVs,keepP,liveP,wfE,wfB,wfV,wfL,yA,h2,h3]
   refine call_is (ok27 1 n (by omega)) (by simp [lendsOk, lendOk, lends, lend, wkL, wk, wkR]) rfl trivial ?_
   simp -implicitDefEqProofs only [rX,↓rY,↓reduceIte,Nat.reduceEqDiff]
   refine call_is (ok20 [(1, (n : Int) + 1)] [(1, (n : Int) + 1)]) (by simp [lendsOk, lendOk, lends, lend, wkL, wk, wkR]) rfl trivial ?_
   simp -implicitDefEqProofs only [rX,↓rY,ofConst,↓reduceIte,Nat.reduceEqDiff,Nat.reduceAdd,reduceCtorEq,leE,leH,leB,leV,leVs,keepP,liveP,wfE,wfB,wfV,wfL,yA,beq_self_eq_true]
   exact ⟨by simp only [lo, hi]; omega, k + 1, ⟨by omega, by omega⟩, by simp, by rw [hw']; exact ⟨⟨rfl, rfl, rfl⟩, rfl, rfl, rfl⟩⟩
 ·obtain rfl : k = acts.length := by omega
  have h1 : decide ((acts.length : Int) < (acts.length : Int)) = false := decide_eq_false (by omega)
  generalize runW n acts acts.length = w at hR ⊢
  simp -implicitDefEqProofs only [rX,↓rY,ofConst,↓reduceIte,Nat.reduceEqDiff,Nat.reduceAdd,reduceCtorEq,yA,h1,Wld.h,hW]
  refine fun _ => ?_
  refine loopP_intro (fun k : Nat => ⟨[(10, .i k), (6, .ptr 0 0 0), (5, .i n), (4, .b false), (0, u8 n), (1, .ro 4 (acts.map Act.enc))], w.h, 4⟩) (fun k => k ≤ 4) (fun k => 4 - k) 0 (by omega) ?_ ?_
  ·simp -implicitDefEqProofs only [rX,↓reduceIte,Nat.reduceEqDiff,reduceCtorEq,leE,leH,leB,leV,leVs,keepP,liveP,wfE,wfB,wfV,wfL,Int.natCast_zero,Wld.h,hW]
  rintro k hk
  unfold c5l1
  have hl := hR.i.len
  rcases Nat.lt_or_ge k 4 with hk' | hk'
  ·have h1 : decide ((k : Int) < 4) = true := decide_eq_true (by omega)
   have hkl : k < w.all.length := by omega
   have hkk : (0 : Int) ≤ k ∧ (k : Int) < w.all.length := ⟨by omega, by omega⟩
   have hr := (hR.i.rt k hkl).1
   simp -implicitDefEqProofs only [rX,↓rY,ofConst,↓reduceIte,Nat.reduceEqDiff,arrSz,Nat.reduceAdd,yB,yA,h1,Wld.h,hW]
   refine ⟨hkk, hkl, ?_⟩
   refine call_is (ok8 w.all[k] (Nat.le_trans hr.n (by omega))) (by simp [lendsOk, lendOk, lends, lend, wkL, wk, wkR]) rfl trivial ?_
   rw [hr.chk]
   simp -implicitDefEqProofs only [rX,↓rY,ofConst,↓reduceIte,Nat.reduceEqDiff,Nat.reduceAdd,reduceCtorEq,resP,tupV,leE,leH,leB,leV,leVs,keepP,liveP,wfE,wfB,wfV,wfL,yA,bne_self_eq_false]
   exact ⟨by simp only [lo, hi]; omega, k + 1, ⟨by omega, by omega⟩, by simp⟩
  ·obtain rfl : k = 4 := by omega
   have h1 : decide (((4 : Nat) : Int) < 4) = false := rfl
   simp -implicitDefEqProofs only [rX,↓rY,ofConst,↓reduceIte,Nat.reduceEqDiff,arrSz,Nat.reduceAdd,yB,yA,h1,Wld.h,hW]
   refine call_is ok9 (by simp [lendsOk, lends, wkL]) rfl trivial ?_
   simp -implicitDefEqProofs only [rX,↓rY,↓reduceIte,Nat.reduceEqDiff]
   refine call_isN [0, 1, 2, 3] [.ptr 0 0 0, .i n] (.b true) (.b true) w.h w.h w.h (ok28 w.all w.way w.spent n (fun x hx => hR.i.range hx) hR.i.nd (by have := hR.sl; omega)) (by simp) rfl (by simp [lendsOk, lendOk, lends, lend, wkL, wk, wkR, pos]) (by simp [hW]) rfl rfl trivial ?_
   simp -implicitDefEqProofs only [rX,↓rY,↓reduceIte,Nat.reduceEqDiff,resP,tupV,wfV]
end Go.Fx.O
namespace Go.Fx.O
open Go Go.Fx Go.Proofs Go.Fx.R
theorem fn_of {f : FuncId} {xs : List V} (h : Ok f xs (Is (.b true))) : Fn Tryz.prog f xs [] [] (fun r _ => r = .b true) := by
 have h := h.2
 intro ρ X w vals h1 h2
 refine Calls.mono (h ρ X w vals h1 h2) ?_
 rintro e w' ⟨val, r, h', ρ', q1, q2, q3, q4, q5, q6⟩
 exact ⟨val, r, h', ρ', q1, ⟨q2.1.1, q2.2⟩, q3, q4, q5, q6⟩
theorem ex_mapP {α β : Type} {g : α → β} {P : α → Prop} : ∀ {els : List β}, (∀ x ∈ els, ∃ a, x = g a ∧ P a) → ∃ l : List α, els = l.map g ∧ ∀ a ∈ l, P a
 | [], _ => ⟨[], rfl, fun _ h => by cases h⟩
 | x :: r, h => by
  obtain ⟨a, rfl, ha⟩ := h x List.mem_cons_self
  obtain ⟨l, rfl, hl⟩ := ex_mapP (els := r) fun y hy => h y (List.mem_cons_of_mem _ hy)
  refine ⟨a :: l, rfl, fun b hb => ?_⟩
  rcases List.mem_cons.1 hb with rfl | hb
  ·exact ha
  ·exact hl b hb
theorem wf_int {k : IntKind} {x : List V} (h : WfT (.int k) x) : ∃ n : Int, x = [.v (.int k n)] ∧ lo k ≤ n ∧ n ≤ hi k := by
 simpa only [WfT] using h
theorem wf_cons {t : Fx.T} {ts : List Fx.T} {x : List V} (h : WfTs (t :: ts) x) : ∃ a b, x = a ++ b ∧ WfT t a ∧ WfTs ts b := by
 rwa [WfTs.eq_2] at h
end Go.Fx.O
namespace Go.Fx.O
open Go Go.Fx Go.Proofs Go.Fx.R
theorem wf_act {x : List V} (h : WfT (.st [.int .u8, .int .u8, .int .u8, .int .u8]) x) : ∃ a : Act, x = a.enc ∧ a.Ok := by
 rw [WfT] at h
 obtain ⟨_, _, rfl, q0, h⟩ := wf_cons h
 obtain ⟨_, _, rfl, q1, h⟩ := wf_cons h
 obtain ⟨_, _, rfl, q2, h⟩ := wf_cons h
 obtain ⟨_, _, rfl, q3, h⟩ := wf_cons h
 rw [WfTs.eq_1] at h
 subst h
 obtain ⟨n0, rfl, h0⟩ := wf_int q0
 obtain ⟨n1, rfl, h1⟩ := wf_int q1
 obtain ⟨n2, rfl, h2⟩ := wf_int q2
 obtain ⟨n3, rfl, h3⟩ := wf_int q3
 exact ⟨⟨n0, n1, n2, n3⟩, rfl, h0, h1, h2, h3⟩
theorem wv_u8 {x : V} (h : WfV (.int .u8) x) : ∃ n : Int, x = u8 n ∧ 0 ≤ n ∧ n ≤ 255 := by
 simp only [WfV] at h
 obtain ⟨n, h1, h2, h3⟩ := wf_int h
 exact ⟨n, by simpa using h1, h2, h3⟩
theorem wv_acts {x : V} (h : WfV (.sl 4 (.st [.int .u8, .int .u8, .int .u8, .int .u8])) x) : ∃ l : List Act, x = .ro 4 (l.map Act.enc) ∧ ∀ a ∈ l, a.Ok := by
 simp only [WfV] at h
 rw [WfT] at h
 obtain ⟨els, h, _, he⟩ := h
 obtain ⟨l, rfl, hl⟩ := ex_mapP (g := Act.enc) (P := Act.Ok) fun x hx => wf_act (he x hx)
 exact ⟨l, by simpa using h, hl⟩
theorem fn5 : ∀ xs, WfA [.int .u8, .sl 4 (.st [.int .u8, .int .u8, .int .u8, .int .u8])] xs → Fn Tryz.prog 5 xs [] [] (fun r _ => r = .b true) := by
 intro xs h
 obtain ⟨x1, _, rfl, h1, x2, _, rfl, h2, h⟩ := h
 obtain rfl : _ = [] := h
 obtain ⟨n, rfl, h3, h4⟩ := wv_u8 h1
 obtain ⟨l, rfl, hl⟩ := wv_acts h2
 obtain ⟨m, rfl⟩ := Int.eq_ofNat_of_zero_le h3
 exact fn_of (ok5 m (by omega) l hl)
end Go.Fx.O
