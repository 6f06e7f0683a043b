import Derived.Test.YtemlboicdekgbaaT19
import Derived.Test.YtemlboicdekgbaaFxRunSound
set_option linter.unusedVariables false
set_option linter.unusedSimpArgs false
set_option linter.unusedSectionVars false
open Int renaming toNat_natCast → yA, le_trans → yB, le_refl → yC, natCast_zero → yF, le_of_eq → yM, toNat_of_nonneg → yS
open List renaming mem_cons_self → yD, mem_cons_of_mem → yE, take_succ_eq_append_getElem → yG, getElem_mem → yI, range → yJ, nodup_cons → yK, getElem?_eq_getElem → yL, ext_getElem → yN, cons_append → yO, mem_map → yP, getD_eq_getElem?_getD → yQ, take_append_drop → yT, set_eq_take_append_cons_drop → yU, nodup_iff_pairwise_ne → yV
open Nat renaming le_refl → yH
namespace Go.Fx.P
open Go Go.Fx Go.Proofs
set_option maxRecDepth 20000
section
variable {ps : List Spot} {rs : List Road} {fr : Fr} {ws : List (List Nat)} {ns : List Int}
theorem sumI_le_n {f : Nat → Int} (h : ∀ i, 0 ≤ f i) {a : Nat} : ∀ {b : Nat}, a ≤ b → sumI f a ≤ sumI f b
 | 0, hb => by
  have : a = 0 := by omega
  subst this; exact yC _
 | b + 1, hb => by
  by_cases e : a = b + 1
  ·subst e; exact yC _
  ·have := sumI_le_n h (a := a) (b := b) (by omega)
   have := h b
   simp only [sumI]; omega
def allS (P : Nat → Bool) (L : Nat → Nat) (f : Nat → Nat → Int) (i : Nat) : Int := sumI (fun i' => if P i' then sumI (f i') (L i') else 0) i
theorem part_le {f : Nat → Nat → Int} (h0 : ∀ i n, 0 ≤ f i n) {P : Nat → Bool} {L : Nat → Nat} {i N m : Nat} (hi : i < N) (hP : P i = true) (hm : m < L i) : allS P L f i + sumI (f i) m + f i m ≤ allS P L f N := by
 have h1 : allS P L f (i + 1) ≤ allS P L f N := by
  refine sumI_le_n (fun j => ?_) (by omega)
  split
  ·exact sumI_nn fun n _ => h0 j n
  ·exact yC _
 have h2 : sumI (f i) (m + 1) ≤ sumI (f i) (L i) := sumI_le_n (h0 i) (by omega)
 have h3 : allS P L f (i + 1) = allS P L f i + sumI (f i) (L i) := by
  unfold allS
  rw [sumI, if_pos hP]
 simp only [sumI] at h2
 omega
theorem allS_nn {f : Nat → Nat → Int} (h0 : ∀ i n, 0 ≤ f i n) {P : Nat → Bool} {L : Nat → Nat} {i : Nat} : 0 ≤ allS P L f i := sumI_nn fun j _ => by
 split
 ·exact sumI_nn fun n _ => h0 j n
 ·exact yC _
theorem way_site (hv : RInv ps rs rs.length) {w : List Nat} (hw : F.Way (netOf ps rs) 0 1 w) : ∃ i, i < ps.length ∧ isK ps 1 i = true ∧ (F.gA (netOf ps rs) (w.getD 0 0)).to = 2 + 2 * (i : Int) := by
 cases w with
 | nil => exact absurd rfl hw.ne
 | cons j w =>
  obtain ⟨k, hk, hj, hto⟩ := src_arc hv (hw.lt j yD) hw.walk.1
  have := ofN_getD hk
  exact ⟨_, this.1, this.2, hto⟩
theorem tot_le (hv : RInv ps rs rs.length) : ∀ {ws : List (List Nat)} {ns : List Int}, (∀ w ∈ ws, F.Way (netOf ps rs) 0 1 w) → (∀ m ∈ ns, 0 < m) → ns.length = ws.length →
  F.totN ns ≤ sumI (fun i => if isK ps 1 i then sumAt (netOf ps rs) (2 + 2 * (i : Int)) ws ns else 0) ps.length
 | [], [], _, _, _ => by
  simp only [F.totN]
  refine sumI_nn fun i _ => ?_
  split <;> simp [sumAt]
 | [], _ :: _, _, _, h => by simp at h
 | _ :: _, [], _, _, h => by simp at h
 | w :: ws, m :: ms, hw, hn, hl => by
  have ih := tot_le hv (ws := ws) (ns := ms) (fun x hx => hw x (yE _ hx)) (fun x hx => hn x (yE _ hx)) (by simpa using hl)
  have hm := hn m yD
  obtain ⟨i, h1, h2, h3⟩ := way_site hv (hw w yD)
  have e : sumI (fun i => if isK ps 1 i then sumAt (netOf ps rs) (2 + 2 * (i : Int)) (w :: ws) (m :: ms) else 0) ps.length =
    sumI (fun i => if isK ps 1 i then (if (F.gA (netOf ps rs) (w.getD 0 0)).to = 2 + 2 * (i : Int) then m else 0) else 0) ps.length + sumI (fun i => if isK ps 1 i then sumAt (netOf ps rs) (2 + 2 * (i : Int)) ws ms else 0) ps.length := by
   rw [← sumI_plus]
   refine sumI_congr fun i _ => ?_
   simp only [sumAt]
   split <;> simp
  have := sumI_term (f := fun i => if isK ps 1 i then (if (F.gA (netOf ps rs) (w.getD 0 0)).to = 2 + 2 * (i : Int) then m else 0) else 0) h1 (fun i _ => by split <;> (try split) <;> omega)
  simp only [h2, if_true, if_pos h3] at this
  rw [e]
  simp only [F.totN]
  omega
theorem IsPlan.at_eq (h : IsPlan ps rs fr) (hG : F.Good (netOf ps rs) 0 1 fr.flow ws ns) {i : Nat} (hi : i < ps.length) (hk : isK ps 1 i = true) : sumAt (netOf ps rs) (2 + 2 * (i : Int)) ws ns = fr.fl i := by
 have hv := (chk_caps h.chk).2.2
 have h1 := tot_le hv hG.way (fun m hm => (hG.num m hm).1) hG.len
 obtain ⟨v, hv1, hv2⟩ := hG.tot
 rw [valFK, h.acc.hv] at hv1
 have h2 := h.asked
 unfold kindSum at h2
 have h3 : sumI (fun i => (if isK ps 1 i then fr.fl i else 0) + - (if isK ps 1 i then sumAt (netOf ps rs) (2 + 2 * (i : Int)) ws ns else 0)) ps.length ≤ 0 := by
  rw [sumI_plus, sumI_neg, h2]; omega
 have h4 := sumI_term (f := fun i => (if isK ps 1 i then fr.fl i else 0) + - (if isK ps 1 i then sumAt (netOf ps rs) (2 + 2 * (i : Int)) ws ns else 0)) hi (fun j hj => by
  cases hkj : isK ps 1 j with
  | true =>
   have := h.at_le hj hkj hG
   simp only [if_true]; omega
  | false => simp)
 simp only [hk, if_true] at h4
 have h5 := h.at_le hi hk hG
 omega
theorem findW_mem {arcs : List Arc} {tgt : Int} {w : List Nat} : ∀ {ws : List (List Nat)} {ns : List Int} {n : Int}, findW arcs tgt ws ns n = some w → w ∈ ws ∧ (F.gA arcs (w.getD 0 0)).to = tgt
 | [], _, _, h => by simp [findW] at h
 | _ :: _, [], _, h => by simp [findW] at h
 | x :: ws, m :: ms, n, h => by
  simp only [findW] at h
  by_cases e : (F.gA arcs (x.getD 0 0)).to = tgt
  ·rw [if_pos e] at h
   by_cases e2 : n < m
   ·rw [if_pos e2] at h
    cases h
    exact ⟨yD, e⟩
   ·rw [if_neg e2] at h
    have := findW_mem h
    exact ⟨yE _ this.1, this.2⟩
  ·rw [if_neg e] at h
   have := findW_mem h
   exact ⟨yE _ this.1, this.2⟩
theorem findW_some {arcs : List Arc} {tgt : Int} : ∀ {ws : List (List Nat)} {ns : List Int} {n : Int}, n < sumAt arcs tgt ws ns → 0 ≤ n → ∃ w, findW arcs tgt ws ns n = some w
 | [], _, n, h, h0 => by simp only [sumAt] at h; omega
 | _ :: _, [], n, h, h0 => by simp only [sumAt] at h; omega
 | x :: ws, m :: ms, n, h, h0 => by
  simp only [sumAt] at h
  simp only [findW]
  by_cases e : (F.gA arcs (x.getD 0 0)).to = tgt
  ·rw [if_pos e] at h ⊢
   by_cases e2 : n < m
   ·rw [if_pos e2]; exact ⟨_, rfl⟩
   ·rw [if_neg e2]; exact findW_some (by omega) (by omega)
  ·rw [if_neg e] at h ⊢
   exact findW_some (by omega) h0
def Wy (ps : List Spot) (arcs : List Arc) (ws : List (List Nat)) (ns : List Int) (i n : Nat) : List Nat := (rt ps arcs ws ns i n).1
theorem IsPlan.route (h : IsPlan ps rs fr) (hG : F.Good (netOf ps rs) 0 1 fr.flow ws ns) {i n : Nat} (hi : i < ps.length) (hk : isK ps 1 i = true) (hn : (n : Int) < fr.fl i) :
  ∃ w w' K j, findW (netOf ps rs) (2 + 2 * (i : Int)) ws ns n = some w ∧ w ∈ ws ∧ w = j :: w' ∧ ps.length ≤ j ∧ PathP ps rs i K w' ∧ keptW ps w = K ∧ rt ps (netOf ps rs) ws ns i n = (K, 0) ∧ w'.Nodup := by
 have hv := (chk_caps h.chk).2.2
 obtain ⟨w, hw⟩ := findW_some (arcs := netOf ps rs) (tgt := 2 + 2 * (i : Int)) (ws := ws) (ns := ns) (n := n) (by rw [h.at_eq hG hi hk]; exact hn) (by omega)
 obtain ⟨hm, ht⟩ := findW_mem hw
 have hW := hG.way _ hm
 cases w with
 | nil => exact absurd rfl hW.ne
 | cons j w' =>
  obtain ⟨k, hk2, hj, _⟩ := src_arc hv (hW.lt j yD) hW.walk.1
  have ht : (F.gA (netOf ps rs) j).to = 2 + 2 * (i : Int) := ht
  have hwk := hW.walk.2
  rw [ht] at hwk
  obtain ⟨K, hK⟩ := path_of hv _ w' i (yH _) hi hwk (fun x hx => hW.lt x (yE _ hx))
  have hkw : keptW ps (j :: w') = K := by rw [kept_out (by omega), hK.kept]
  refine ⟨j :: w', w', K, j, hw, hm, rfl, by omega, hK, hkw, ?_, (yK.1 (F.nodup_of_map hW.nod)).2⟩
  rw [rt, if_neg (by rw [yA, hk]; simp; omega), if_neg (by omega), hw]
  simp only [hkw]
end
end Go.Fx.P
namespace Go.Fx.P.K
open Go Go.Fx Go.Proofs
abbrev gA (arcs : List Arc) (k : Nat) : Arc := arcs.getD k ⟨0,0,0,0⟩
theorem gA_at {arcs : List Arc} {k : Nat} (h : k < arcs.length) : gA arcs k = arcs[k] := by
 unfold gA
 rw [yQ, yL h]; rfl
theorem Val.at {N : Nat} {arcs : List Arc} (hV : Val N arcs) {k : Nat} (hk : k < arcs.length) : (0 ≤ (gA arcs k).from_ ∧ (gA arcs k).from_ < N) ∧ (0 ≤ (gA arcs k).to ∧ (gA arcs k).to < N) ∧ (gA arcs k).from_ ≠ (gA arcs k).to ∧ (0 ≤ (gA arcs k).cap ∧ (gA arcs k).cap ≤ 1073741824) ∧ 0 ≤ (gA arcs k).cost ∧ (gA arcs k).cost ≤ 1048576 := by
 rw [gA_at hk]
 exact hV.ha arcs[k] (yI hk)
end Go.Fx.P.K
namespace Go.Fx.P.K
open Go Go.Fx Go.Proofs
theorem OkF.at {n : Int} {arcs : List Arc} {f t : Int} {x : List Int} (h : OkF n arcs f t x) {k : Nat} (hk : k < arcs.length) : 0 ≤ x.getD k 0 ∧ x.getD k 0 ≤ (gA arcs k).cap := by
 have hl := h.hl
 have := h.hp k (by omega) hk
 rw [gA_at hk, getD_nat (by omega)]
 exact this
theorem OkC.cut {N : Nat} {arcs : List Arc} (hV : Val N arcs) {f t : Int} (hf : 0 ≤ f ∧ f < N) (ht : 0 ≤ t ∧ t < N) {x cut : List Int} (h : OkC N arcs f t x cut) : ∀ k, k < arcs.length → (hasB cut ((gA arcs k).from_.toNat : Int) = true → hasB cut ((gA arcs k).to.toNat : Int) = false → x.getD k 0 = (gA arcs k).cap) ∧ (hasB cut ((gA arcs k).to.toNat : Int) = true → hasB cut ((gA arcs k).from_.toNat : Int) = false → x.getD k 0 = 0) := by
 intro k hk
 have hv := hV.at hk
 have := h.ha.h k hk hk
 rw [yS hv.1.1, yS hv.2.1.1, gA_at hk]
 exact this
end Go.Fx.P.K
namespace Go.Fx.P
open Go Go.Fx Go.Proofs
set_option maxRecDepth 20000
section
variable {ps : List Spot} {rs : List Road} {fr : Fr} {ws : List (List Nat)} {ns : List Int}
def cntL (q : Nat) : List Nat → Int
 | [] => 0
 | x :: r => (if x = q then 1 else 0) + cntL q r
theorem cntL_nn {q : Nat} : ∀ {K : List Nat}, 0 ≤ cntL q K
 | [] => yC _
 | x :: r => by
  have := cntL_nn (q := q) (K := r)
  simp only [cntL]; split <;> omega
theorem cntP_nn {a b : Nat} : ∀ {K : List Nat}, 0 ≤ cntP a b K
 | [] => by simp [cntP]
 | [_] => by simp [cntP]
 | x :: y :: r => by
  have := cntP_nn (a := a) (b := b) (K := y :: r)
  simp only [cntP]; split <;> omega
theorem cntL_no {q : Nat} : ∀ {K : List Nat}, q ∉ K → cntL q K = 0
 | [], _ => rfl
 | x :: r, h => by
  have h1 : x ≠ q := fun e => h (e ▸ yD)
  rw [cntL, if_neg h1, cntL_no (fun h2 => h (yE _ h2))]; rfl
theorem cntL_nd {q : Nat} : ∀ {K : List Nat}, K.Nodup → cntL q K ≤ if q ∈ K then 1 else 0
 | [], _ => by simp [cntL]
 | x :: r, h => by
  have h1 := yK.1 h
  have ih := cntL_nd (q := q) h1.2
  by_cases e : x = q
  ·subst e
   rw [cntL, if_pos rfl, cntL_no h1.1, if_pos yD]; omega
  ·have : (q ∈ x :: r) ↔ q ∈ r := by
    rw [List.mem_cons]
    constructor
    ·rintro (h2 | h2)
     ·exact absurd h2.symm e
     ·exact h2
    ·exact .inr
   rw [cntL, if_neg e]
   simp only [this]; omega
theorem keptW_nd {w : List Nat} (h : w.Nodup) : (keptW ps w).Nodup := List.Nodup.sublist List.filter_sublist h
theorem IsPlan.all_req (h : IsPlan ps rs fr) (hG : F.Good (netOf ps rs) 0 1 fr.flow ws ns) (G : List Nat → Int) (hG0 : ∀ w, 0 ≤ G w) : allS (isK ps 1) (fun i => (fr.fl i).toNat) (fun i n => G (Wy ps (netOf ps rs) ws ns i n)) ps.length ≤ wAll (fun w => G (keptW ps w)) ws ns := by
 refine yB (yM ?_) (wAt_all (arcs := netOf ps rs) (G := fun w => G (keptW ps w)) (fun w => hG0 _) (isK ps 1) (ws := ws) (ns := ns) (fun m hm => (hG.num m hm).1) ps.length)
 unfold allS
 refine sumI_congr fun i hi => ?_
 cases hk : isK ps 1 i with
 | false => simp
 | true =>
  simp only [if_true]
  rw [← sum_find (fun m hm => (hG.num m hm).1), h.at_eq hG hi hk]
  refine sumI_congr fun n hn => ?_
  obtain ⟨w, w', K, j, h1, _, _, _, _, h6, h7, _⟩ := h.route hG hi hk (n := n) (by omega)
  rw [h1, Wy, h7]
  simp only [optG, h6]
theorem IsPlan.thr (h : IsPlan ps rs fr) (hG : F.Good (netOf ps rs) 0 1 fr.flow ws ns) {q : Nat} : allS (isK ps 1) (fun i => (fr.fl i).toNat) (fun i n => cntL q (Wy ps (netOf ps rs) ws ns i n)) ps.length ≤ fr.fl q := by
 refine yB (h.all_req hG (cntL q) fun _ => cntL_nn) ?_
 refine yB (wAll_mono (H := fun w => if q ∈ w then 1 else 0) (fun w hw => ?_) fun m hm => (hG.num m hm).1) ?_
 ·have hnd := F.nodup_of_map (hG.way w hw).nod
  refine yB (cntL_nd (keptW_nd hnd)) ?_
  split
  ·rename_i hm
   rw [if_pos (List.mem_filter.1 (show q ∈ w.filter _ from hm)).1]; exact yC _
  ·split <;> omega
 ·rw [wAll_use]
  exact hG.use q
def capsN (rs : List Road) (a b : Nat) (k : Nat) : Int := sumI (fun r => if (rs.getD r default).from_ = a ∧ (rs.getD r default).to = b then (rs.getD r default).cap else 0) k
theorem IsPlan.way_path (h : IsPlan ps rs fr) (hG : F.Good (netOf ps rs) 0 1 fr.flow ws ns) {w : List Nat} (hw : w ∈ ws) : ∃ j w' i K, w = j :: w' ∧ PathP ps rs i K w' ∧ keptW ps w = K ∧ w'.Nodup := by
 have hv := (chk_caps h.chk).2.2
 have hW := hG.way _ hw
 obtain ⟨i, h1, h2, h3⟩ := way_site hv hW
 cases w with
 | nil => exact absurd rfl hW.ne
 | cons j w' =>
  obtain ⟨k, hk2, hj, _⟩ := src_arc hv (hW.lt j yD) hW.walk.1
  have h3 : (F.gA (netOf ps rs) j).to = 2 + 2 * (i : Int) := h3
  have hwk := hW.walk.2
  rw [h3] at hwk
  obtain ⟨K, hK⟩ := path_of hv _ w' i (yH _) h1 hwk (fun x hx => hW.lt x (yE _ hx))
  exact ⟨j, w', i, K, rfl, hK, by rw [kept_out (by omega), hK.kept], (yK.1 (F.nodup_of_map hW.nod)).2⟩
theorem IsPlan.alg (h : IsPlan ps rs fr) (hG : F.Good (netOf ps rs) 0 1 fr.flow ws ns) {a b : Nat} : allS (isK ps 1) (fun i => (fr.fl i).toNat) (fun i n => cntP a b (Wy ps (netOf ps rs) ws ns i n)) ps.length ≤ capsN rs a b rs.length := by
 have hpos : ∀ m ∈ ns, 0 < m := fun m hm => (hG.num m hm).1
 refine yB (h.all_req hG (cntP a b) fun _ => cntP_nn) ?_
 refine yB (wAll_mono (H := fun w => sumI (fun r => if (rs.getD r default).from_ = a ∧ (rs.getD r default).to = b ∧ rdB ps + r ∈ w then 1 else 0) rs.length) (fun w hw => ?_) hpos) ?_
 ·obtain ⟨j, w', i, K, rfl, hK, hk, hnd⟩ := h.way_path hG hw
  rw [hk]
  refine yB (hK.pairs hnd) ?_
  refine sumI_le fun r _ => ?_
  split
  ·rename_i h5
   rw [if_pos ⟨h5.1, h5.2.1, yE _ h5.2.2⟩]; exact yC _
  ·split <;> omega
 ·rw [wAll_sum (g := fun r w => if (rs.getD r default).from_ = a ∧ (rs.getD r default).to = b ∧ rdB ps + r ∈ w then 1 else 0)]
  refine sumI_le fun r hr => ?_
  by_cases hc : (rs.getD r default).from_ = a ∧ (rs.getD r default).to = b
  ·rw [if_pos hc]
   have e : wAll (fun w => if (rs.getD r default).from_ = a ∧ (rs.getD r default).to = b ∧ rdB ps + r ∈ w then 1 else 0) ws ns = F.useN ws ns (rdB ps + r) := by
    rw [← wAll_use]
    congr 1
    funext w
    by_cases hm : rdB ps + r ∈ w
    ·rw [if_pos ⟨hc.1, hc.2, hm⟩, if_pos hm]
    ·rw [if_neg (fun h5 => hm h5.2.2), if_neg hm]
   rw [e]
   refine yB (hG.use _) ?_
   have hl := netOf_len (ps := ps) (rs := rs)
   have h1 := h.acc.fl.at (k := rdB ps + r) (by unfold rdB; omega)
   refine yB h1.2 (yM ?_)
   have l3 : (nA3 ps (ofN ps 3 ps.length)).length = rdB ps := by
    simp only [nA3, nA2, nA1, List.length_append, List.length_map, List.length_range, rdB]
   show ((netOf ps rs).getD (rdB ps + r) a0).cap = _
   rw [netOf, nA4, getD_r l3, getD_map default hr]
   rfl
  ·rw [if_neg hc]
   have e : wAll (fun w => if (rs.getD r default).from_ = a ∧ (rs.getD r default).to = b ∧ rdB ps + r ∈ w then 1 else 0) ws ns ≤ wAll (fun _ => 0) ws ns := wAll_mono (fun w _ => by rw [if_neg (fun h5 => hc ⟨h5.1, h5.2.1⟩)]; exact yC _) hpos
   refine yB e (yM ?_)
   clear e hpos hG
   induction ws generalizing ns with
   | nil => simp [wAll]
   | cons w ws ih =>
    cases ns with
    | nil => simp [wAll]
    | cons m ms => simp [wAll, ih]
end
set_option maxRecDepth 20000
set_option maxRecDepth 20000
set_option maxRecDepth 20000
set_option maxRecDepth 20000
def servI (ps : List Spot) (fr : Fr) (place : Int) : Int := if place < 0 ∨ (ps.length : Int) ≤ place then 0 else fr.fl place.toNat
theorem ok22g (ps : List Spot) (rs : List Road) (fr : Fr) (place : Int) (hl : ps.length ≤ fr.flow.length) : Ok 22 [plant ps rs, fr.enc, .i place] (Is (.i (servI ps fr place))) := by
 refine ok_of lw22 (by simp) ?_
 unfold c22 plant sps rds Fr.enc li
 simp -implicitDefEqProofs only [rX,↓rY,rZ,ofConst,cells?,↓reduceIte,Nat.reduceEqDiff,Nat.reduceAdd,reduceCtorEq,freshP,resP,tupV,wfV,cxN,args0]
 simp only [br, decide_eq_true_eq, decide_eq_false_iff_not, yA]
 refine ⟨fun h => by rw [servI, if_pos (.inl h)], fun h hm => ⟨fun h2 => by rw [servI, if_pos (.inr h2)], fun h2 => ⟨⟨by omega, by omega⟩, by omega, ?_⟩⟩⟩
 rw [servI, if_neg (by omega), Fr.fl, yQ, yL (by omega), Option.getD_some]
set_option maxRecDepth 20000
def cellF (N : Nat) (f : Nat → Int) : List V := (yJ N).map fun q => V.i (f q)
theorem cellF_len {N : Nat} {f : Nat → Int} : (cellF N f).length = N := by simp [cellF]
theorem cellF_get {N : Nat} {f : Nat → Int} {q : Nat} (h : q < N) : (cellF N f)[q]? = some (V.i (f q)) := by simp [cellF, h]
theorem cellF_set {N : Nat} {f : Nat → Int} {q : Nat} {x : Int} : (cellF N f).set q (V.i x) = cellF N (fun j => if j = q then x else f j) := by
 apply yN
 ·simp [cellF]
 ·intro j h1 h2
  simp only [cellF, List.getElem_set, List.getElem_map, List.getElem_range]
  by_cases e : q = j
  ·subst e; simp
  ·rw [if_neg e, if_neg (fun h => e h.symm)]
theorem cellF_0 {N : Nat} : List.replicate N (V.v (.int .i64 0)) = cellF N (fun _ => 0) := by
 apply yN
 ·simp [cellF]
 ·intro j h1 h2; simp [cellF]
theorem cellF_congr {N : Nat} {f g : Nat → Int} (h : ∀ q, q < N → f q = g q) : cellF N f = cellF N g := by
 unfold cellF
 refine List.map_congr_left fun q hq => ?_
 rw [List.mem_range] at hq
 rw [h q hq]
theorem arrF {N : Nat} : List.map V.v (Array.replicate N (Value.int .i64 0)).toList = cellF N (fun _ => 0) := by
 rw [Array.toList_replicate, List.map_replicate, cellF_0]
theorem cntL_app {q : Nat} {M : List Nat} : ∀ {L : List Nat}, cntL q (L ++ M) = cntL q L + cntL q M
 | [] => by simp [cntL]
 | x :: r => by
  rw [yO, cntL, cntL, cntL_app (L := r)]; omega
theorem cntP_app {a b : Nat} {M : List Nat} : ∀ {L : List Nat}, cntP a b L ≤ cntP a b (L ++ M)
 | [] => by simp only [cntP]; exact cntP_nn
 | [x] => by simp only [cntP]; exact cntP_nn
 | x :: y :: r => by
  have := cntP_app (a := a) (b := b) (M := M) (L := y :: r)
  simp only [yO, cntP] at this ⊢
  omega
theorem cntP_snoc {a b x y : Nat} : ∀ {L : List Nat}, cntP a b (L ++ [x, y]) = cntP a b (L ++ [x]) + (if x = a ∧ y = b then 1 else 0)
 | [] => by simp [cntP]
 | [z] => by simp [cntP]
 | z :: w :: r => by
  have := cntP_snoc (a := a) (b := b) (x := x) (y := y) (L := w :: r)
  simp only [yO, cntP] at this ⊢
  omega
theorem cntL_take {q k : Nat} {K : List Nat} : cntL q (K.take k) ≤ cntL q K := by
 have e : K = K.take k ++ K.drop k := (yT k K).symm
 have := cntL_app (q := q) (L := K.take k) (M := K.drop k)
 rw [← e] at this
 have := cntL_nn (q := q) (K := K.drop k)
 omega
theorem cntP_take {a b k : Nat} {K : List Nat} : cntP a b (K.take k) ≤ cntP a b K := by
 have e : K = K.take k ++ K.drop k := (yT k K).symm
 have := cntP_app (a := a) (b := b) (L := K.take k) (M := K.drop k)
 rwa [← e] at this
theorem cntL_s {q k : Nat} {K : List Nat} (hk : k < K.length) : cntL q (K.take (k + 1)) = cntL q (K.take k) + (if q = K[k] then 1 else 0) := by
 rw [yG hk, cntL_app]
 simp only [cntL, Int.add_zero]
 congr 1
 by_cases e : q = K[k]
 ·rw [if_pos e, if_pos e.symm]
 ·rw [if_neg e, if_neg (fun h => e h.symm)]
theorem cntP_s {a b k : Nat} {K : List Nat} (hk : k + 1 < K.length) : cntP a b (K.take (k + 1 + 1)) = cntP a b (K.take (k + 1)) + (if K[k] = a ∧ K[k + 1] = b then 1 else 0) := by
 have e1 : K.take (k + 1) = K.take k ++ [K[k]] := yG (by omega)
 rw [yG hk, e1, List.append_assoc]
 exact cntP_snoc
section
variable (ps : List Spot) (rs : List Road) (fr : Fr) (ws : List (List Nat)) (ns : List Int)
abbrev LF (i : Nat) : Nat := (fr.fl i).toNat
def thI (i m : Nat) (K : List Nat) (q : Nat) : Int := allS (isK ps 1) (LF fr) (fun i n => cntL q (Wy ps (netOf ps rs) ws ns i n)) i + sumI (fun n => cntL q (Wy ps (netOf ps rs) ws ns i n)) m + cntL q K
def agI (i m : Nat) (K : List Nat) (q : Nat) : Int := allS (isK ps 1) (LF fr) (fun i n => cntP (q / 10) (q % 10) (Wy ps (netOf ps rs) ws ns i n)) i + sumI (fun n => cntP (q / 10) (q % 10) (Wy ps (netOf ps rs) ws ns i n)) m + cntP (q / 10) (q % 10) K
variable {ps rs fr ws ns}
theorem thI_m {i m q : Nat} : thI ps rs fr ws ns i m (Wy ps (netOf ps rs) ws ns i m) q = thI ps rs fr ws ns i (m + 1) [] q := by
 simp only [thI, sumI, cntL]; omega
theorem agI_m {i m q : Nat} : agI ps rs fr ws ns i m (Wy ps (netOf ps rs) ws ns i m) q = agI ps rs fr ws ns i (m + 1) [] q := by
 simp only [agI, sumI, cntP]; omega
theorem thI_i {i q : Nat} (h : isK ps 1 i = true) : thI ps rs fr ws ns i (LF fr i) [] q = thI ps rs fr ws ns (i + 1) 0 [] q := by
 simp only [thI, sumI, cntL, allS, h, if_true]; omega
theorem agI_i {i q : Nat} (h : isK ps 1 i = true) : agI ps rs fr ws ns i (LF fr i) [] q = agI ps rs fr ws ns (i + 1) 0 [] q := by
 simp only [agI, sumI, cntP, allS, h, if_true]; omega
theorem thI_n {i q : Nat} (h : isK ps 1 i = false) : thI ps rs fr ws ns i 0 [] q = thI ps rs fr ws ns (i + 1) 0 [] q := by
 simp only [thI, sumI, cntL, allS, h, Bool.false_eq_true, if_false]; omega
theorem agI_n {i q : Nat} (h : isK ps 1 i = false) : agI ps rs fr ws ns i 0 [] q = agI ps rs fr ws ns (i + 1) 0 [] q := by
 simp only [agI, sumI, cntP, allS, h, Bool.false_eq_true, if_false]; omega
theorem thI_0 {q : Nat} : thI ps rs fr ws ns 0 0 [] q = 0 := by simp [thI, sumI, cntL, allS]
theorem agI_0 {q : Nat} : agI ps rs fr ws ns 0 0 [] q = 0 := by simp [agI, sumI, cntP, allS]
theorem thI_s {i n k q : Nat} {W : List Nat} (hk : k < W.length) : thI ps rs fr ws ns i n (W.take (k + 1)) q = thI ps rs fr ws ns i n (W.take k) q + (if q = W[k] then 1 else 0) := by
 simp only [thI, cntL_s hk]; omega
theorem agI_s {i n k q : Nat} {W : List Nat} (hk : k < W.length) (h0 : 0 < k) : agI ps rs fr ws ns i n (W.take (k + 1)) q = agI ps rs fr ws ns i n (W.take k) q + (if W[k - 1] = q / 10 ∧ W[k] = q % 10 then 1 else 0) := by
 obtain ⟨m, rfl⟩ : ∃ m, k = m + 1 := ⟨k - 1, by omega⟩
 simp only [agI, cntP_s hk, Nat.add_sub_cancel]; omega
theorem agI_1 {i n k q : Nat} {W : List Nat} (h0 : k = 0) : agI ps rs fr ws ns i n (W.take k) q = agI ps rs fr ws ns i n (W.take (k + 1)) q := by
 subst h0
 cases W <;> simp [agI, cntP]
theorem IsPlan.thI_le (h : IsPlan ps rs fr) (hG : F.Good (netOf ps rs) 0 1 fr.flow ws ns) {i m k q : Nat} (hi : i < ps.length) (hk : isK ps 1 i = true) (hm : m < LF fr i) :
  0 ≤ thI ps rs fr ws ns i m ((Wy ps (netOf ps rs) ws ns i m).take k) q ∧ thI ps rs fr ws ns i m ((Wy ps (netOf ps rs) ws ns i m).take k) q ≤ 1073741824 := by
 have h1 := part_le (f := fun i n => cntL q (Wy ps (netOf ps rs) ws ns i n)) (fun _ _ => cntL_nn) (P := isK ps 1) (L := LF fr) hi hk hm
 have h2 : allS (isK ps 1) (LF fr) (fun i n => cntL q (Wy ps (netOf ps rs) ws ns i n)) ps.length ≤ fr.fl q := h.thr hG (q := q)
 have h3 := (h.fl_b q).2
 have h4 := cntL_take (q := q) (k := k) (K := Wy ps (netOf ps rs) ws ns i m)
 have h5 : 0 ≤ allS (isK ps 1) (LF fr) (fun i n => cntL q (Wy ps (netOf ps rs) ws ns i n)) i := allS_nn fun _ _ => cntL_nn
 have h6 : 0 ≤ sumI (fun n => cntL q (Wy ps (netOf ps rs) ws ns i n)) m := sumI_nn fun _ _ => cntL_nn
 have h7 := cntL_nn (q := q) (K := (Wy ps (netOf ps rs) ws ns i m).take k)
 unfold thI
 exact ⟨by omega, by omega⟩
theorem IsPlan.caps_le (h : IsPlan ps rs fr) {a b : Nat} : ∀ {k : Nat}, k ≤ rs.length → 0 ≤ capsN rs a b k ∧ capsN rs a b k ≤ k * 1073741824
 | 0, _ => by simp [capsN, sumI]
 | k + 1, hk => by
  obtain ⟨h1, h2⟩ := h.caps_le (a := a) (b := b) (k := k) (by omega)
  obtain ⟨_, _, _, h3, _⟩ := h.snd (k := k) (by omega)
  have e := getD_rs (rs := rs) (k := k) (by omega)
  have e2 : capsN rs a b (k + 1) = capsN rs a b k + (if (rs.getD k default).from_ = a ∧ (rs.getD k default).to = b then (rs.getD k default).cap else 0) := rfl
  rw [e2, e]
  split <;> omega
theorem IsPlan.agI_le (h : IsPlan ps rs fr) (hG : F.Good (netOf ps rs) 0 1 fr.flow ws ns) {i m k q : Nat} (hi : i < ps.length) (hk : isK ps 1 i = true) (hm : m < LF fr i) :
  0 ≤ agI ps rs fr ws ns i m ((Wy ps (netOf ps rs) ws ns i m).take k) q ∧ agI ps rs fr ws ns i m ((Wy ps (netOf ps rs) ws ns i m).take k) q ≤ 26843545600 := by
 have h1 := part_le (f := fun i n => cntP (q / 10) (q % 10) (Wy ps (netOf ps rs) ws ns i n)) (fun _ _ => cntP_nn) (P := isK ps 1) (L := LF fr) hi hk hm
 have h2 : allS (isK ps 1) (LF fr) (fun i n => cntP (q / 10) (q % 10) (Wy ps (netOf ps rs) ws ns i n)) ps.length ≤ capsN rs (q / 10) (q % 10) rs.length := h.alg hG (a := q / 10) (b := q % 10)
 have h3 := (h.caps_le (a := q / 10) (b := q % 10) (yH _)).2
 have h4 := cntP_take (a := q / 10) (b := q % 10) (k := k) (K := Wy ps (netOf ps rs) ws ns i m)
 have h5 : 0 ≤ allS (isK ps 1) (LF fr) (fun i n => cntP (q / 10) (q % 10) (Wy ps (netOf ps rs) ws ns i n)) i := allS_nn fun _ _ => cntP_nn
 have h6 : 0 ≤ sumI (fun n => cntP (q / 10) (q % 10) (Wy ps (netOf ps rs) ws ns i n)) m := sumI_nn fun _ _ => cntP_nn
 have h7 := cntP_nn (a := q / 10) (b := q % 10) (K := (Wy ps (netOf ps rs) ws ns i m).take k)
 have h8 := h.few.2
 unfold agI
 exact ⟨by omega, by omega⟩
end
theorem cellW {h : List Blk} {N : Nat} {f : Nat → Int} : wfL h (cellF N f) := F.wfL_all fun x hx => by
 unfold cellF at hx
 rw [yP] at hx
 obtain ⟨q, _, rfl⟩ := hx
 trivial
theorem cellE {N : Nat} {f : Nat → Int} : leVs (cellF N f) (cellF N f) := by
 unfold cellF
 generalize yJ N = l
 induction l with
 | nil => trivial
 | cons x r ih => exact ⟨rfl, ih⟩
def hp6 (ps : List Spot) (rs : List Road) (fr : Fr) (th al cp : Nat → Int) : List Blk := [plB ps rs, K.frB fr, .var (cellF 10 th), .var (cellF 100 al), .var (cellF 100 cp)]
theorem cellF_spl {N q : Nat} {f : Nat → Int} {x : Int} (h : q < N) : List.take q (cellF N f) ++ [V.v (.int .i64 x)] ++ List.drop (q + 1) (cellF N f) = cellF N (fun j => if j = q then x else f j) := by
 rw [← cellF_set, yU, if_pos (by rw [cellF_len]; exact h)]
 simp
theorem leVs_of {a b : List V} (h : a = b) (hb : leVs b b) : leVs a b := by rw [h]; exact hb
def cellS (K : List Nat) : List V := (yJ 10).map fun q => V.b (decide (q ∈ K))
theorem cellS_len {K : List Nat} : (cellS K).length = 10 := by simp [cellS]
theorem cellS_get {K : List Nat} {q : Nat} (h : q < 10) : (cellS K)[q]? = some (V.b (decide (q ∈ K))) := by simp [cellS, h]
theorem cellS_spl {K : List Nat} {q : Nat} (h : q < 10) : List.take q (cellS K) ++ [V.v (.bool true)] ++ List.drop (q + 1) (cellS K) = cellS (K ++ [q]) := by
 have e : List.take q (cellS K) ++ [V.v (.bool true)] ++ List.drop (q + 1) (cellS K) = (cellS K).set q (V.b true) := by
  rw [yU, if_pos (by rw [cellS_len]; exact h)]; simp
 rw [e]
 apply yN
 ·simp [cellS]
 ·intro j h1 h2
  simp only [cellS, List.getElem_set, List.getElem_map, List.getElem_range, List.mem_append, List.mem_singleton]
  by_cases e : q = j
  ·subst e; simp
  ·rw [if_neg e]
   have : ¬ j = q := fun h => e h.symm
   simp [this]
theorem cellS_0 : List.map V.v (Array.replicate 10 (Value.bool false)).toList = cellS [] := rfl
theorem cellS_W {h : List Blk} {K : List Nat} : wfL h (cellS K) := F.wfL_all fun x hx => by
 unfold cellS at hx
 rw [yP] at hx
 obtain ⟨q, _, rfl⟩ := hx
 trivial
theorem cellS_E {K : List Nat} : leVs (cellS K) (cellS K) := by
 unfold cellS
 generalize yJ 10 = l
 induction l with
 | nil => trivial
 | cons x r ih => exact ⟨rfl, ih⟩
theorem ok6 (ps : List Spot) (rs : List Road) (fr : Fr) : Ok 6 [plant ps rs, fr.enc] (Is (.b true)) := by
 refine ok_of lw6 (by simp) ?_
 unfold c6 plant sps rds Fr.enc li
 simp -implicitDefEqProofs only [rX,↓rY,ofConst,cells?,↓reduceIte,Nat.reduceEqDiff,Nat.reduceAdd,reduceCtorEq,freshP,cxN,args0]
 refine call_is (ok19 ps rs) (by simp [plant, sps, rds, lendsOk, lendOk, lends, lend, wkL, wk, wkR]) rfl trivial ?_
 cases hF : fewB ps rs with
 | false =>
  simp -implicitDefEqProofs only [rX,↓rY,ofConst,↓reduceIte,Nat.reduceEqDiff,Nat.reduceAdd]
  refine s10 rfl rfl ?_
  simp -implicitDefEqProofs only [rX,↓reduceIte,resP,tupV,wfV]
 | true =>
 have hF : FewP ps rs := by simpa [fewB] using hF
 simp -implicitDefEqProofs only [rX,↓rY,↓reduceIte,Nat.reduceEqDiff,Nat.reduceAdd]
 refine call_is (ok32 ps rs fr) (by simp [plant, sps, rds, Fr.enc, li, lendsOk, lendOk, lends, lend, wkL, wk, wkR]) rfl trivial ?_
 cases hA : (racc ps rs fr == 0) with
 | false =>
  simp -implicitDefEqProofs only [rX,↓rY,↓reduceIte,Nat.reduceEqDiff,Nat.reduceAdd]
  refine s10 rfl rfl ?_
  simp -implicitDefEqProofs only [rX,↓reduceIte,resP,tupV,wfV]
 | true =>
 have h := IsPlan.of hF (by simpa using hA)
 simp -implicitDefEqProofs only [rX,↓rY,ofConst,cells?,↓reduceIte,Nat.reduceEqDiff,Nat.reduceAdd,freshP]
 rw [arrF, arrF]
 have hfl2 : ps.length ≤ fr.flow.length := by have := h.len; omega
 have hV := net_val h.chk
 have hVF := FVal hV
 have eN : ((nN ps : Nat) : Int) = 2 + 2 * ps.length := by simp [nN]
 have hE : ((0 : Int) ≤ 0 ∧ (0 : Int) < nN ps) ∧ ((0 : Int) ≤ 1 ∧ (1 : Int) < nN ps) ∧ (0 : Int) ≠ 1 := by omega
 have he : F.endsB (nN ps) 0 1 = true := by simpa [F.endsB] using hE
 have hck : F.checkI (nN ps) (netOf ps rs) 0 1 fr.flow = 0 := check_ok he h.acc.fl (by rw [h.acc.hv]; exact h.acc.hs.1)
 have hFv := F.flow_Fv hVF hck
 obtain ⟨ws, ns, hR⟩ := F.PR.ex hVF hE.1 hE.2.2 _ fr.flow (yH _) hFv
 have hG := hR.good hVF hE.1 hE.2.2 hFv
 have hfew := h.few
 have hsnd := fun k (hk : k < rs.length) => h.snd hk
 intro hm1
 refine loopP_intro (fun k : Nat => ⟨[(35, .i k), (34, .i rs.length), (33, .ro 4 (rs.map Road.enc)), (7, .ptr 4 0 0), (6, .ptr 3 0 0), (5, .ptr 2 0 0), (3, .ptr 1 0 0), (2, .ptr 0 0 0)], hp6 ps rs fr (fun _ => 0) (fun _ => 0) (fun q => capsN rs (q / 10) (q % 10) k), 0⟩) (fun k => k ≤ rs.length) (fun k => rs.length - k) 0 (by omega) ?_ ?_
 ·simp -implicitDefEqProofs only [rX,↓reduceIte,Nat.reduceEqDiff,leE,leH,leB,leV,leVs,keepP,liveP,wfE,wfB,wfV,wfL,yF,K.frB,hp6,eq_true cellW,eq_true cellE,capsN,sumI]
 rintro k hk
 unfold c6l0 hp6
 simp -implicitDefEqProofs only [rX,↓rY,rZ,ofConst,cells?,splice,↓reduceIte,Nat.reduceEqDiff,Nat.reduceAdd,freshP,leE,leH,leB,leV,leVs,keepP,liveP,wfE,wfB,wfV,wfL,isC,Nat.reduceLeDiff,K.frB,cellF_len]
 simp only [br, decide_eq_true_eq, decide_eq_false_iff_not, yA]
 refine ⟨fun h1 => ?_, fun h1 hm2 => ?_⟩
 ·have hkl : k < rs.length := by omega
  obtain ⟨s1, s2, _, s3, _⟩ := h.snd hkl
  have ek := getD_rs (rs := rs) hkl
  obtain ⟨c1, c2⟩ := h.caps_le (a := rs[k].from_.toNat) (b := rs[k].to.toNat) (k := k) (by omega)
  have hq : rs[k].from_.toNat * 10 + rs[k].to.toNat * 1 < 100 := by omega
  refine ⟨⟨by omega, h1⟩, hkl, ⟨by omega, by omega⟩, ⟨by omega, by omega⟩, ?_⟩
  rw [cellF_get hq]
  have e1 : (rs[k].from_.toNat * 10 + rs[k].to.toNat * 1) / 10 = rs[k].from_.toNat := by omega
  have e2 : (rs[k].from_.toNat * 10 + rs[k].to.toNat * 1) % 10 = rs[k].to.toNat := by omega
  rw [e1, e2]
  refine ⟨rfl, ⟨by simp only [lo]; omega, by simp only [Fx.hi]; omega⟩, ⟨by omega, by omega⟩, ⟨by omega, by omega⟩, by omega, by simp only [lo, Fx.hi]; omega, k + 1, ⟨by omega, by omega⟩, by omega, ⟨cellE, cellE, leVs_of ?_ cellE⟩, cellW, cellW, cellW⟩
  rw [cellF_spl hq]
  refine cellF_congr fun q hq2 => ?_
  have e3 : capsN rs (q / 10) (q % 10) (k + 1) = capsN rs (q / 10) (q % 10) k + (if (rs.getD k default).from_ = (q / 10 : Nat) ∧ (rs.getD k default).to = (q % 10 : Nat) then (rs.getD k default).cap else 0) := rfl
  rw [e3, ek]
  by_cases e4 : q = rs[k].from_.toNat * 10 + rs[k].to.toNat * 1
  ·rw [if_pos e4, if_pos ⟨by omega, by omega⟩, e4, e1, e2]
  ·rw [if_neg e4, if_neg (by omega)]; omega
 have hke : k = rs.length := by omega
 subst hke
 refine loopP_intro (fun i : Nat => ⟨[(55, .i i), (54, .i ps.length), (53, .ro 3 (ps.map Spot.enc)), (7, .ptr 4 0 0), (6, .ptr 3 0 0), (5, .ptr 2 0 0), (3, .ptr 1 0 0), (2, .ptr 0 0 0)], hp6 ps rs fr (thI ps rs fr ws ns i 0 []) (agI ps rs fr ws ns i 0 []) (fun q => capsN rs (q / 10) (q % 10) rs.length), 0⟩) (fun i => i ≤ ps.length) (fun i => ps.length - i) 0 (by omega) ?_ ?_
 ·simp -implicitDefEqProofs only [rX,↓reduceIte,Nat.reduceEqDiff,leE,leH,leB,leV,leVs,keepP,liveP,wfE,wfB,wfV,wfL,yF,K.frB,hp6,eq_true cellW]
  refine ⟨leVs_of ?_ cellE, leVs_of ?_ cellE, cellE⟩
  ·exact cellF_congr fun q _ => thI_0.symm
  ·exact cellF_congr fun q _ => agI_0.symm
 rintro i hi
 unfold c6l1 hp6
 simp -implicitDefEqProofs only [rX,↓rY,rZ,ofConst,cells?,splice,↓reduceIte,Nat.reduceEqDiff,Nat.reduceAdd,freshP,K.frB]
 simp only [br, decide_eq_true_eq, decide_eq_false_iff_not, yA, bne_iff_ne, bne_eq_false_iff_eq]
 have hth : ∀ (q : Nat), fr.fl q = servI ps fr q ∨ ps.length ≤ q := fun q => by
  by_cases hq : q < ps.length
  ·left; rw [servI, if_neg (by omega), yA]
  ·right; omega
 refine ⟨fun h1 => ?_, fun h1 => ?_⟩
 ·have hi2 : i < ps.length := by omega
  have hk : isK ps 1 i = (ps[i].kind == 1) := isK_lt hi2
  refine ⟨⟨by omega, h1⟩, hi2, fun hk1 => ?_, fun hk1 => ⟨fun hc => ?_, fun hc => ?_⟩⟩
  ·have hkf : isK ps 1 i = false := by rw [hk]; simpa using hk1
   have hrt : rt ps (netOf ps rs) ws ns (i : Int) 0 = ([], 5) := by
    rw [rt, if_pos (.inr (.inr (by rw [yA]; exact hkf)))]
   refine call_is (ok24 ps rs fr h i 0 (by omega) ws ns hR) (by simp [lendsOk, lendOk, lends, lend, wkL, wk, wkR, plant, sps, rds, Fr.enc, li]) ?_ trivial ?_
   ·rw [hrt]; simp [ren, rens, lnat]
   rw [hrt]
   simp -implicitDefEqProofs only [rX,↓rY,ofConst,↓reduceIte,Nat.reduceEqDiff,Nat.reduceAdd,resP,tupV,leE,leH,leB,leV,leVs,keepP,liveP,wfE,wfB,wfV,wfL,lnat,eq_true cellW,eq_true cellE]
   simp only [br, show ((5 : Int) != 5) = false from rfl]
   exact ⟨fun h2 => (Bool.noConfusion h2), fun _ => ⟨by simp only [lo, Fx.hi]; omega, i + 1, ⟨by omega, by omega⟩, by omega, leVs_of (cellF_congr fun q _ => thI_n hkf) cellE, leVs_of (cellF_congr fun q _ => agI_n hkf) cellE⟩⟩
  ·refine s10 rfl rfl ?_
   simp -implicitDefEqProofs only [rX,↓reduceIte,resP,tupV,wfV]
  ·have hkt : isK ps 1 i = true := by rw [hk]; simpa using hk1
   have hsv : servI ps fr (i : Int) = fr.fl i := by rw [servI, if_neg (by omega), yA]
   have hflb := h.fl_b i
   have hLF : ((LF fr i : Nat) : Int) = fr.fl i := by simp only [LF]; omega
   refine call_is (ok22g ps rs fr i hfl2) (by simp [lendsOk, lendOk, lends, lend, wkL, wk, wkR, plant, sps, rds, Fr.enc, li]) rfl trivial ?_
   rw [hsv]
   simp -implicitDefEqProofs only [rX,ofConst]
   refine loopP_intro (fun n : Nat => ⟨[(80, .i n), (79, .i (fr.fl i)), (10, .i i), (55, .i i), (54, .i ps.length), (53, .ro 3 (ps.map Spot.enc)), (7, .ptr 4 0 0), (6, .ptr 3 0 0), (5, .ptr 2 0 0), (3, .ptr 1 0 0), (2, .ptr 0 0 0)], hp6 ps rs fr (thI ps rs fr ws ns i n []) (agI ps rs fr ws ns i n []) (fun q => capsN rs (q / 10) (q % 10) rs.length), 0⟩) (fun n => n ≤ LF fr i) (fun n => LF fr i - n) 0 (by omega) ?_ ?_
   ·simp -implicitDefEqProofs only [rX,↓reduceIte,Nat.reduceEqDiff,leE,leH,leB,leV,leVs,keepP,liveP,wfE,wfB,wfV,wfL,yF,K.frB,hp6,eq_true cellW,eq_true cellE]
   rintro n hn
   unfold c6l2 hp6
   simp -implicitDefEqProofs only [rX,↓rY,ofConst,↓reduceIte,Nat.reduceEqDiff,Nat.reduceAdd,leE,leH,leB,leV,leVs,keepP,liveP,wfE,wfB,wfV,wfL,K.frB]
   simp only [br, decide_eq_true_eq, decide_eq_false_iff_not, yA, bne_iff_ne, bne_eq_false_iff_eq]
   refine ⟨fun h2 => ?_, fun h2 => ?_⟩
   ·have hn2 : n < LF fr i := by omega
    obtain ⟨w, w', W, j, _, _, _, _, hP, _, hrt, hwn⟩ := h.route hG hi2 hkt (n := n) (by omega)
    have hrn : ∀ g, ren g (.tup [lnat (rt ps (netOf ps rs) ws ns (i : Int) n).1, .i (rt ps (netOf ps rs) ws ns (i : Int) n).2]) = .tup [lnat (rt ps (netOf ps rs) ws ns (i : Int) n).1, .i (rt ps (netOf ps rs) ws ns (i : Int) n).2] := fun g => by
     rw [hrt]; simp [ren, rens, lnat]
    refine call_is (ok24 ps rs fr h i n (by omega) ws ns hR) (by simp [lendsOk, lendOk, lends, lend, wkL, wk, wkR, plant, sps, rds, Fr.enc, li]) (hrn _) trivial ?_
    rw [hrt]
    obtain ⟨K', hK'⟩ := hP.head
    have hKl := hP.two (by
     have h3 := h.chk
     rw [isK_lt hi2]; simp [hk1])
    have hKlt := hP.lt
    have hKn : W.Nodup := hP.kept ▸ keptW_nd hwn
    have hK10 : W.length ≤ 10 := by
     have := F.nodup_le (l := W.map Int.ofNat) ps.length (by
      rw [yV, List.pairwise_map]
      exact List.Pairwise.imp (fun h e => h (Int.ofNat.inj e)) (yV.1 hKn)) (by
      intro v hv
      rw [yP] at hv
      obtain ⟨j, hj, rfl⟩ := hv
      have := hKlt j hj
      simp only [Int.ofNat_eq_natCast]; omega)
     rw [List.length_map] at this
     omega
    have hK0 : W[0]'(by omega) = i := by simp [hK']
    obtain ⟨ql, hq1, hq2⟩ := hP.org
    have hql : W[W.length - 1]'(by omega) = ql := by
     rw [List.getLast?_eq_getElem?, yL (by omega)] at hq1
     exact Option.some.inj hq1
    have hWy : Wy ps (netOf ps rs) ws ns i n = W := by rw [Wy, hrt]
    simp -implicitDefEqProofs only [rX,↓rY,rZ,ofConst,cells?,↓reduceIte,Nat.reduceEqDiff,Nat.reduceAdd,freshP,resP,tupV,wfV,lnat,nE]
    simp only [br, decide_eq_true_eq, decide_eq_false_iff_not, yA, bne_iff_ne, bne_eq_false_iff_eq]
    have eL : ((W.length : Int) - 1).toNat = W.length - 1 := by omega
    refine ⟨fun h3 => absurd rfl h3, fun _ hmK => ⟨fun h3 => absurd h3 (by omega), fun h3 => ⟨⟨by omega, by omega⟩, by show 0 < W.length; omega, ⟨fun h4 => absurd (by show ((W[0]'_ : Nat) : Int) = i; rw [hK0]) h4, fun h4 _ => ?_⟩⟩⟩⟩
    have hk3 : ∀ (hx : W[((W.length : Int) - 1).toNat]'(by omega) < ps.length), (ps[W[((W.length : Int) - 1).toNat]'(by omega)]'hx).kind = 3 := fun hx => by
     have e : W[((W.length : Int) - 1).toNat]'(by omega) = ql := by rw [← hql]; congr 1
     have h6 : isK ps 3 (W[((W.length : Int) - 1).toNat]'(by omega)) = true := by rw [e]; exact hq2
     rw [isK_lt hx] at h6
     simpa using h6
    have hlt : W[((W.length : Int) - 1).toNat]'(by omega) < ps.length := hKlt _ (yI _)
    refine ⟨by simp only [lo, Fx.hi]; omega, ⟨by omega, by omega⟩, by omega, ⟨by omega, by omega⟩, hlt, fun h5 => h5 (hk3 hlt), fun h5 _ => ?_⟩
    rw [cellS_0]
    refine loopP_intro (fun k : Nat => ⟨[(121, .i k), (120, .i W.length), (119, .ro 1 (W.map nE)), (17, .ptr 5 0 0), (15, .ro 1 (W.map nE)), (80, .i n), (79, .i (fr.fl i)), (10, .i i), (55, .i i), (54, .i ps.length), (53, .ro 3 (ps.map Spot.enc)), (7, .ptr 4 0 0), (6, .ptr 3 0 0), (5, .ptr 2 0 0), (3, .ptr 1 0 0), (2, .ptr 0 0 0)], hp6 ps rs fr (thI ps rs fr ws ns i n (W.take k)) (agI ps rs fr ws ns i n (W.take k)) (fun q => capsN rs (q / 10) (q % 10) rs.length) ++ [.var (cellS (W.take k))], 0⟩) (fun k => k ≤ W.length) (fun k => W.length - k) 0 (by omega) ?_ ?_
    ·simp -implicitDefEqProofs only [rX,↓reduceIte,Nat.reduceEqDiff,leE,leH,leB,leV,leVs,keepP,liveP,wfE,wfB,wfV,wfL,yF,K.frB,hp6,eq_true cellW,eq_true cellE,eq_true cellS_W,eq_true cellS_E]
    rintro k hk
    unfold c6l3 hp6
    simp -implicitDefEqProofs only [rX,↓rY,ofConst,cells?,splice,↓reduceIte,Nat.reduceEqDiff,Nat.reduceAdd,resP,tupV,leE,leH,leB,leV,leVs,keepP,liveP,wfE,wfB,wfV,wfL,isC,Nat.reduceLeDiff,K.frB,cellF_len,cellS_len,nE]
    simp only [br, decide_eq_true_eq, decide_eq_false_iff_not, yA]
    have hkm : ((k : Int) - 1).toNat = k - 1 := by omega
    refine ⟨fun h6 => ?_, fun h6 => ?_⟩
    ·have hkW : k < W.length := by omega
     have hWk : W[k] < 10 := by have := hKlt _ (yI hkW); omega
     have hWm : W[k - 1]'(by omega) < 10 := by have := hKlt _ (yI (show k - 1 < W.length by omega)); omega
     have hno : W[k] ∉ W.take k := fun hm => by
      rw [List.mem_iff_getElem] at hm
      obtain ⟨j2, hj2, hj3⟩ := hm
      rw [List.getElem_take] at hj3
      rw [List.length_take] at hj2
      have := (List.getElem_inj hKn).1 hj3
      omega
     have hb1 := h.thI_le hG (i := i) (m := n) (k := k) (q := W[k]) hi2 hkt hn2
     have hb2 := h.agI_le hG (i := i) (m := n) (k := k) (q := W[k - 1]'(by omega) * 10 + W[k]) hi2 hkt hn2
     rw [hWy] at hb1 hb2
     simp only [Nat.mul_one, hkm]
     refine ⟨⟨by omega, h6⟩, hkW, ⟨by omega, by omega⟩, ?_⟩
     rw [cellS_get hWk, decide_eq_false hno]
     simp -implicitDefEqProofs only [rX,↓rY]
     refine ⟨⟨by omega, by omega⟩, by omega, ⟨by omega, by omega⟩, ?_⟩
     rw [cellF_get hWk]
     simp -implicitDefEqProofs only [rX,↓rY]
     refine ⟨⟨by simp only [lo]; omega, by simp only [Fx.hi]; omega⟩, ⟨by omega, by omega⟩, by omega, fun h7 => ⟨by simp only [lo, Fx.hi]; omega, ⟨by omega, by omega⟩, by omega, ⟨by omega, by omega⟩, ⟨by omega, by omega⟩, ?_⟩, fun h7 => ?_⟩
     ·rw [cellF_get (show W[k - 1]'(by omega) * 10 + W[k] < 100 by omega)]
      simp -implicitDefEqProofs only [rX,↓rY]
      refine ⟨⟨by simp only [lo]; omega, by simp only [Fx.hi]; omega⟩, ⟨by omega, by omega⟩, ⟨by omega, by omega⟩, by omega, by simp only [lo, Fx.hi]; omega, k + 1, ⟨by omega, by omega⟩, by omega, ⟨leVs_of ?_ cellE, leVs_of ?_ cellE, cellE, leVs_of ?_ cellS_E⟩, cellW, cellW, cellW, cellS_W⟩
      ·rw [cellF_spl hWk]
       refine cellF_congr fun q hq => ?_
       rw [thI_s hkW]
       by_cases e : q = W[k]
       ·rw [if_pos e, if_pos e, e]
       ·rw [if_neg e, if_neg e]; omega
      ·rw [cellF_spl (by omega)]
       refine cellF_congr fun q hq => ?_
       rw [agI_s hkW (by omega)]
       by_cases e : q = W[k - 1]'(by omega) * 10 + W[k]
       ·rw [if_pos e, if_pos ⟨by omega, by omega⟩, e]
       ·rw [if_neg e, if_neg (by omega)]; omega
      ·rw [cellS_spl hWk, yG hkW]
     ·refine ⟨by simp only [lo, Fx.hi]; omega, k + 1, ⟨by omega, by omega⟩, by omega, ⟨leVs_of ?_ cellE, leVs_of ?_ cellE, cellE, leVs_of ?_ cellS_E⟩, cellW, cellW, cellW, cellS_W⟩
      ·rw [cellF_spl hWk]
       refine cellF_congr fun q hq => ?_
       rw [thI_s hkW]
       by_cases e : q = W[k]
       ·rw [if_pos e, if_pos e, e]
       ·rw [if_neg e, if_neg e]; omega
      ·exact cellF_congr fun q _ => agI_1 (by omega)
      ·rw [cellS_spl hWk, yG hkW]
    ·have hke : k = W.length := by omega
     subst hke
     rw [List.take_length]
     refine ⟨by simp only [lo, Fx.hi]; omega, n + 1, ⟨by omega, by omega⟩, by omega, ⟨leVs_of ?_ cellE, leVs_of ?_ cellE, cellE⟩, cellW, cellW, cellW⟩
     ·exact cellF_congr fun q _ => by rw [← thI_m, hWy]
     ·exact cellF_congr fun q _ => by rw [← agI_m, hWy]
   ·have hne : n = LF fr i := by omega
    subst hne
    refine ⟨by simp only [lo, Fx.hi]; omega, i + 1, ⟨by omega, by omega⟩, by omega, ⟨leVs_of ?_ cellE, leVs_of ?_ cellE, cellE⟩, cellW, cellW, cellW⟩
    ·exact cellF_congr fun q _ => thI_i hkt
    ·exact cellF_congr fun q _ => agI_i hkt
 have hie : i = ps.length := by omega
 have hthr : ∀ q, thI ps rs fr ws ns i 0 [] q ≤ fr.fl q := fun q => by
  have : allS (isK ps 1) (LF fr) (fun i n => cntL q (Wy ps (netOf ps rs) ws ns i n)) ps.length ≤ fr.fl q := h.thr hG (q := q)
  rw [hie]
  simp only [thI, sumI, cntL]; omega
 have halg : ∀ q, agI ps rs fr ws ns i 0 [] q ≤ capsN rs (q / 10) (q % 10) rs.length := fun q => by
  have : allS (isK ps 1) (LF fr) (fun i n => cntP (q / 10) (q % 10) (Wy ps (netOf ps rs) ws ns i n)) ps.length ≤ capsN rs (q / 10) (q % 10) rs.length := h.alg hG (a := q / 10) (b := q % 10)
  rw [hie]
  simp only [agI, sumI, cntP]; omega
 intro hm3
 refine loopP_intro (fun i2 : Nat => ⟨[(156, .i i2), (155, .i ps.length), (7, .ptr 4 0 0), (6, .ptr 3 0 0), (5, .ptr 2 0 0), (3, .ptr 1 0 0), (2, .ptr 0 0 0)], hp6 ps rs fr (thI ps rs fr ws ns i 0 []) (agI ps rs fr ws ns i 0 []) (fun q => capsN rs (q / 10) (q % 10) rs.length), 0⟩) (fun k => k ≤ ps.length) (fun k => ps.length - k) 0 (by omega) ?_ ?_
 ·simp -implicitDefEqProofs only [rX,↓reduceIte,Nat.reduceEqDiff,leE,leH,leB,leV,leVs,keepP,liveP,wfE,wfB,wfV,wfL,yF,K.frB,hp6,eq_true cellW,eq_true cellE]
 rintro i2 hi2
 unfold c6l4 hp6
 simp -implicitDefEqProofs only [rX,↓rY,rdK,↓reduceIte,Nat.reduceEqDiff,Nat.reduceAdd,K.frB]
 simp only [br, decide_eq_true_eq, decide_eq_false_iff_not, yA]
 refine ⟨fun h5 => ?_, fun h5 => ?_⟩
 ·have hi3 : i2 < ps.length := by omega
  refine ⟨⟨by omega, by omega⟩, ?_⟩
  rw [cellF_get (by omega)]
  simp -implicitDefEqProofs only [↓rY,Nat.mul_one]
  refine call_is (ok22g ps rs fr i2 hfl2) (by simp [lendsOk, lendOk, lends, lend, wkL, wk, wkR, plant, sps, rds, Fr.enc, li]) rfl (by simp [keepP, liveP]) ?_
  have hsv : servI ps fr (i2 : Int) = fr.fl i2 := by rw [servI, if_neg (by omega), yA]
  rw [hsv]
  have h6 := hthr i2
  simp -implicitDefEqProofs only [rX,↓rY,ofConst,↓reduceIte,Nat.reduceEqDiff,Nat.reduceAdd,resP,tupV,wfV]
  simp only [br, decide_eq_true_eq, decide_eq_false_iff_not, yA]
  refine ⟨fun h7 => by omega, fun h7 hm4 => ?_⟩
  refine loopP_intro (fun k : Nat => ⟨[(170, .i k), (169, .i ps.length), (20, .i i2), (156, .i i2), (155, .i ps.length), (7, .ptr 4 0 0), (6, .ptr 3 0 0), (5, .ptr 2 0 0), (3, .ptr 1 0 0), (2, .ptr 0 0 0)], hp6 ps rs fr (thI ps rs fr ws ns i 0 []) (agI ps rs fr ws ns i 0 []) (fun q => capsN rs (q / 10) (q % 10) rs.length), 0⟩) (fun k => k ≤ ps.length) (fun k => ps.length - k) 0 (by omega) ?_ ?_
  ·simp -implicitDefEqProofs only [rX,↓reduceIte,Nat.reduceEqDiff,leE,leH,leB,leV,leVs,keepP,liveP,wfE,wfB,wfV,wfL,yF,K.frB,hp6,eq_true cellW,eq_true cellE]
  rintro k hk
  unfold c6l5 hp6
  simp -implicitDefEqProofs only [rX,↓rY,ofConst,↓reduceIte,Nat.reduceEqDiff,Nat.reduceAdd,resP,tupV,leE,leH,leB,leV,leVs,keepP,liveP,wfE,wfB,wfV,wfL,K.frB]
  simp only [br, decide_eq_true_eq, decide_eq_false_iff_not, yA]
  refine ⟨fun h8 => ?_, fun h8 => ?_⟩
  ·have hkl : k < ps.length := by omega
   have hq : i2 * 10 + k * 1 < 100 := by omega
   refine ⟨⟨by omega, by omega⟩, ⟨by omega, by omega⟩, ?_⟩
   rw [cellF_get hq]
   refine ⟨⟨by omega, by omega⟩, ⟨by omega, by omega⟩, ?_⟩
   rw [cellF_get hq]
   have h9 := halg (i2 * 10 + k * 1)
   exact ⟨rfl, fun h10 => by omega, fun _ => ⟨by simp only [lo, Fx.hi]; omega, k + 1, ⟨by omega, by omega⟩, by omega, ⟨cellE, cellE, cellE⟩, cellW, cellW, cellW⟩⟩
  ·exact ⟨by simp only [lo, Fx.hi]; omega, i2 + 1, ⟨by omega, by omega⟩, by omega, ⟨cellE, cellE, cellE⟩, cellW, cellW, cellW⟩
 ·refine s10 rfl rfl ?_
  simp -implicitDefEqProofs only [rX,↓reduceIte,resP,tupV,wfV]
abbrev tLi : Fx.T := .sl 1 (.int .i64)
abbrev tFr : Fx.T := .st [.int .i64, .int .i64, tLi, tLi, tLi]
theorem wf_l {x : List V} (h : WfT tLi x) : ∃ l, x = [li l] := by
 rw [WfT] at h
 obtain ⟨els, h1, _, he⟩ := h
 obtain ⟨l, rfl⟩ := exM (g := encI) (fun x hx => by
  have := he x hx
  simp only [WfT] at this
  obtain ⟨n, rfl, _⟩ := this
  exact ⟨n, rfl⟩)
 exact ⟨l, by simpa [li] using h1⟩
theorem wf_fr {x : V} (h : WfV tFr x) : ∃ f : Fr, x = f.enc := by
 obtain ⟨cs, h, rfl⟩ := h
 rw [WfTs.eq_2] at h
 obtain ⟨a, _, rfl, h1, h⟩ := h
 rw [WfTs.eq_2] at h
 obtain ⟨b, _, rfl, h2, h⟩ := h
 rw [WfTs.eq_2] at h
 obtain ⟨c, _, rfl, h3, h⟩ := h
 rw [WfTs.eq_2] at h
 obtain ⟨d, _, rfl, h4, h⟩ := h
 rw [WfTs.eq_2] at h
 obtain ⟨e, _, rfl, h5, h⟩ := h
 rw [WfTs.eq_1] at h
 subst h
 simp only [WfT] at h1 h2
 obtain ⟨s, rfl, _⟩ := h1
 obtain ⟨k, rfl, _⟩ := h2
 obtain ⟨l1, rfl⟩ := wf_l h3
 obtain ⟨l2, rfl⟩ := wf_l h4
 obtain ⟨l3, rfl⟩ := wf_l h5
 exact ⟨⟨s, k, l1, l2, l3⟩, rfl⟩
theorem fn6 : ∀ xs, WfA [tPl, tFr] xs → Fn Try.prog 6 xs [] [] (fun r _ => r = .b true) := by
 intro xs h
 obtain ⟨x1, _, rfl, h1, h⟩ := h
 obtain ⟨x2, _, rfl, h2, h⟩ := h
 obtain rfl : _ = [] := h
 obtain ⟨ps, rs, rfl⟩ := wf_plant h1
 obtain ⟨fr, rfl⟩ := wf_fr h2
 exact fn_of' (ok6 ps rs fr)
end Go.Fx.P
