import Derived.Test.YtikjajggcbkfcaaFxRunSound
import Derived.Test.YtikjajggcbkfcaaCSan
set_option linter.unusedVariables false
set_option linter.unusedSimpArgs false
set_option linter.unusedSectionVars false
namespace Go.Fx.C
open Go Go.Fx Go.Proofs
set_option maxRecDepth 20000
theorem ok9 : Ok 9 [] (Is (.b true)) := san
theorem few_val {n most : Int} {arcs : List Arc} (h : fewB n arcs most = true) : ∃ N : Nat, n = N ∧ Val N arcs ∧ N ≤ 12 ∧ arcs.length ≤ 30 := by
  simp only [fewB, Bool.and_eq_true, decide_eq_true_eq] at h
  obtain ⟨N, rfl, hV⟩ := Val.of h.1.2.2
  exact ⟨N, rfl, hV, by omega, by omega⟩
theorem task_in {n f t am : Int} {arcs : List Arc} (h : taskB n arcs f t am = true) : (0 ≤ f ∧ f < n) ∧ (0 ≤ t ∧ t < n) ∧ f ≠ t ∧ 0 ≤ am ∧ am ≤ 2199023255552 := by
  simp only [taskB, taskP, Bool.and_eq_true, decide_eq_true_eq] at h
  exact h.2
end Go.Fx.C
namespace Go.Fx.C
open Go Go.Fx Go.Proofs
set_option maxRecDepth 20000
theorem call9 {cx : Cx} {e : Env} {h : List Blk} {b : Nat} {K : V → St → Prop} (hc : cx.C = C0 Try.prog) (hf : cx.fx = []) (hk : K (.b true) ⟨e, h, b⟩) : callP cx 9 [] ⟨e, h, b⟩ K :=
  call_is (by rw [hc]; exact ok9) (by simp [lendsOk, lends, wkL]) rfl (by rw [hf]; trivial) hk
end Go.Fx.C
namespace Go.Fx.C
open Go Go.Fx Go.Proofs
set_option maxRecDepth 20000
def noFr : V := .agg [.i 0, .i 0, .nil, .nil, .nil]
end Go.Fx.C
namespace Go.Fx.C
open Go Go.Fx Go.Proofs
set_option maxRecDepth 20000
def pmix (p D : List Int) (t : Nat) : Nat → List Int
  | 0 => p
  | k + 1 => (pmix p D t k).set k (p.getD k 0 + min (D.getD k 0) (D.getD t 0))
theorem pmix_len {p D : List Int} {t : Nat} : ∀ {k : Nat}, (pmix p D t k).length = p.length
  | 0 => rfl
  | k + 1 => by unfold pmix; rw [List.length_set]; exact pmix_len
theorem pmix_get {p D : List Int} {t : Nat} (j : Nat) : ∀ {k : Nat}, k ≤ p.length → (pmix p D t k).getD j 0 = if j < k then p.getD j 0 + min (D.getD j 0) (D.getD t 0) else p.getD j 0
  | 0, _ => by rw [if_neg (by omega)]; rfl
  | k + 1, hk => by
    unfold pmix
    rw [getD_set (by rw [pmix_len]; omega)]
    by_cases e : j = k
    · subst e; rw [if_pos rfl, if_pos (by omega)]
    · rw [if_neg e, pmix_get j (by omega)]
      by_cases e2 : j < k
      · rw [if_pos e2, if_pos (by omega)]
      · rw [if_neg e2, if_neg (by omega)]
section
variable {N : Nat} {arcs : List Arc} {f t : Nat} {am : Int}
def hpS (N : Nat) (arcs : List Arc) (x p : List Int) : List Blk :=
  [.var [.i N, .ro 4 (arcs.map Arc.enc)], .var [.i 0, .i 0, .nil, .nil, .nil], .arr 1 (x.map encI), .dead, .arv 1 (outR arcs N), .arr 1 (p.map encI), wB N arcs.length arcs 2 4 5]
abbrev pat13 (N : Nat) (arcs : List Arc) (f t : Nat) (am : Int) (g : Int × List Int × List Int) : St :=
  ⟨[(12, .i g.1), (11, .ptr 6 0 0), (8, .ptr 1 0 0), (3, .i am), (2, .i t), (1, .i f)], hpS N arcs g.2.1 g.2.2, 0⟩
def R13 (N : Nat) (arcs : List Arc) (f t : Nat) (am : Int) (r : V) (hs : List Blk) : Prop := ∃ fr : Fr, (OkAc N arcs f t am fr ∧ SI N arcs f t am fr.flow fr.price fr.sent) ∧ (∃ c tl, r = .tup [.agg [.i fr.sent, .i fr.cost, .sl 2 0 arcs.length, .sl 5 0 N, c], .i 0] ∧ hs = [.dead, .dead, .arr 1 (fr.flow.map encI), .dead, .dead, .arr 1 (fr.price.map encI)] ++ tl ∧ gvV (fun k => decide (6 ≤ k)) hs c = .ro 1 (fr.cut.map encI)) ∧ wk (.tup [fr.enc, .i 0]) (gvV (fun _ => true) hs r)
theorem SI.init (hV : Val N arcs) (hf : f < N) (ht : t < N) (ham : 0 ≤ am) : SI N arcs f t am (List.replicate arcs.length 0) (List.replicate N 0) 0 := by
  have hr : ∀ (m k : Nat), (List.replicate m (0 : Int)).getD k 0 = 0 := by
    intro m k
    rw [List.getD_eq_getElem?_getD, List.getElem?_replicate]
    split <;> rfl
  refine ⟨⟨by simp, fun k hk => ?_⟩, fun w => ?_, fun i hi => ?_, by simp, hr _ _, fun j => ?_, ?_, ⟨Int.le_refl _, ham⟩⟩
  · rw [hr]
    have := hV.at hk
    omega
  · rw [vd_0, vd_0]
    have : ∀ k, valTo arcs w (List.replicate arcs.length 0) k = 0 := by
      intro k
      induction k with
      | zero => rfl
      | succ k ih => simp only [valTo, ih, hr]; split <;> split <;> rfl
    rw [this]; rfl
  · obtain ⟨h1, h2⟩ := hi
    have := hV.at h1
    unfold wrm at h2
    rw [hr] at h2
    unfold rcst wcst
    simp only [hr]
    split at h2
    · rename_i h0
      rw [if_pos h0]; omega
    · omega
  · simp only [hr]; omega
  · rw [hr]
    have := hV.hn
    exact Int.mul_nonneg (by omega) (by omega)
theorem tk_enc {l : List Int} {n : Nat} (h : l.length = n) : List.take n (l.map encI) = l.map encI := List.take_of_length_le (by simp [h])
theorem tk_enc' {l : List Int} : List.take l.length (l.map encI) = l.map encI := tk_enc rfl
theorem loop2 (hV : Val N arcs) (hN : N ≤ 64) (hf : f < N) (ht : t < N) (ham : 0 ≤ am ∧ am ≤ 2199023255552) {x p : List Int} {sent : Int} (hlt : sent < am) (hS : SI N arcs f t am x p sent) (hR : Reach arcs x p f t) {X : Nat → St → Prop} {RR : St → Prop} {s : St}
    (hX : ∀ (x' : List Int) (s' : Int), SI N arcs f t am x' p s' → sent < s' → ∀ e b, leS [] ⟨e, hpS N arcs x' p, b⟩ (pat13 N arcs f t am (s', x', p)) → X 4 ⟨e, hpS N arcs x' p, b⟩)
    (hs : leS [] s ⟨[(15, .i 1), (12, .i sent), (11, .ptr 6 0 0), (8, .ptr 1 0 0), (3, .i am), (2, .i t), (1, .i f)], hpS N arcs x p, 0⟩) :
    loopP [] (fun NX => aw (cxN Try.prog []) c13l2 NX X RR) s := by
  refine loopP_intro (fun g : Int × Int × List Int => (⟨[(15, .i g.1), (12, .i g.2.1), (11, .ptr 6 0 0), (8, .ptr 1 0 0), (3, .i am), (2, .i t), (1, .i f)], hpS N arcs g.2.2 p, 0⟩ : St))
    (fun g => SI N arcs f t am g.2.2 p g.2.1 ∧ 0 ≤ g.1 ∧ ((g.1 = 1 ∧ g.2.1 = sent ∧ Reach arcs g.2.2 p f t) ∨ sent < g.2.1)) (fun g => 2 * (am - g.2.1).toNat + (if 0 < g.1 then 1 else 0)) (1, sent, x) ⟨hS, by omega, .inl ⟨rfl, rfl, hR⟩⟩ hs ?_
  rintro ⟨more, s1, x1⟩ ⟨hS1, hm0, hcase⟩
  simp only at hS1 hm0 hcase ⊢
  have hxl := hS1.xb.hl
  have hW := hS1.wok hV hN
  have hs0 := hS1.s0
  unfold c13l2 hpS wB
  by_cases hgo : 0 < more ∧ s1 < am
  · have hd1 : decide (0 < more) = true := decide_eq_true hgo.1
    have hd2 : decide (s1 < am) = true := decide_eq_true hgo.2
    simp -implicitDefEqProofs only [qE, qF, qI, qJ, qK, qM, qO, qP, qQ, qR, qS, qZ, zD, zH, zJ, zK, zN, ofConst, List.length_nil, List.length_cons, ↓reduceIte, Nat.reduceEqDiff, zP, zR, Bool.not_true, ↓zS, ↓zT, zU, List.append_nil, Nat.zero_add, Nat.reduceAdd, List.map_cons, List.map_nil, true_and, jq, ↓qaN, ↓qaT, ↓qaV, cxN, hd1, hd2]
    refine ⟨by simp only [lo, hi]; omega, ?_⟩
    have h30 := ok30 hV hW ht x1 f (am - s1) hS1.xb hf ⟨by omega, by omega⟩
    refine call_isM (FQ arcs x1 (fun u => p.getD u 0) t (List.replicate N false) f (am - s1)) [6, 2, 4, 5] [] [] [.ptr 0 0 0, .i f, .i t, .i (am - s1)] (fun g => .i g.1) (wH N arcs x1 p) (fun g => wH N arcs g.2.1 p) h30 (by simp) (by simp) (by simp [wH, wB, blk, renB, rens, ren, pos, outR_ren, hxl]) (by simp [lendsOk, lendOk, lends, lend, wkL, wk, pos]) fun g hg => ⟨by simp [keepP], ?_⟩
    obtain ⟨n, x2, d2⟩ := g
    obtain ⟨q1, q2, q3⟩ := hS1.fill hf hg
    have hx2 : x2.length = arcs.length := q1.xb.hl
    have q4 := q1.s0
    simp -implicitDefEqProofs only [qF, qO, qP, qR, qZ, zH, zJ, zN, List.length_nil, List.length_cons, List.set_cons_zero, List.getElem?_cons_zero, ↓reduceIte, Nat.reduceEqDiff, zP, List.append_nil, Nat.zero_add, Nat.reduceAdd, zX, leE, leH, leB, leV, leVs, keepP, liveP, wfE, wfB, wfV, wfL, killE, killB, kill, kills, St.kill, List.map_cons, List.map_nil, Bool.and_true, Bool.and_self, true_and, and_true, and_self, V.v.injEq, Value.int.injEq, Value.bool.injEq, List.not_mem_nil, lg0, zY, lg1, kg, lg2, kk, lg3, kr, lg4, kz, lg5, kD, jq, ↓qaL, wH, wB, setAll, renB, rens, ren, outR_ren, outR_kill, back, hx2, Nat.reduceAdd]
    refine ⟨by simp only [lo, hi]; omega, (n, s1 + n, x2), ⟨⟨q1, q2, ?_⟩, ?_⟩, ?_⟩
    · right
      simp only
      rcases hcase with ⟨c1, c2, c3⟩ | c
      · have := q3 c3 hgo.2
        omega
      · omega
    · simp only
      rw [if_pos hgo.1]
      split <;> omega
    · simp -implicitDefEqProofs only [Bool.and_self, and_self, outR_wfT]
  · have hs1 : sent < s1 := by
      rcases hcase with ⟨c1, c2, c3⟩ | c
      · exact absurd ⟨by omega, by omega⟩ hgo
      · exact c
    have hx := hX x1 s1 hS1 hs1
    unfold pat13 hpS wB at hx
    by_cases h1 : 0 < more
    · have hd1 : decide (0 < more) = true := decide_eq_true h1
      have hd2 : decide (s1 < am) = false := decide_eq_false (fun h2 => hgo ⟨h1, h2⟩)
      simp -implicitDefEqProofs only [qF, qI, qJ, qM, qO, qP, qQ, qR, qS, qZ, zH, zJ, zK, zN, ofConst, List.length_nil, List.length_cons, ↓reduceIte, Nat.reduceEqDiff, zP, zR, Bool.not_true, ↓zS, ↓zT, zU, List.append_nil, Nat.zero_add, Nat.reduceAdd, true_and, jq, ↓qaT, ↓qaV, cxN, hd1, hd2]
      refine hx _ _ ?_
      simp -implicitDefEqProofs only [zN, List.getElem?_cons_zero, ↓reduceIte, Nat.reduceEqDiff, zX, leE, leH, leB, leV, leVs, keepP, liveP, wfE, wfB, wfV, wfL, Bool.and_self, and_self, lg0, lg1, lg2, lg3, lg4, lg5, outR_wfT]
    · have hd1 : decide (0 < more) = false := decide_eq_false h1
      simp -implicitDefEqProofs only [qE, qF, qI, qJ, qK, qM, qO, qP, qQ, qR, qS, qZ, zD, zH, zJ, zK, zN, ofConst, List.length_nil, List.length_cons, ↓reduceIte, Nat.reduceEqDiff, zP, zR, Bool.not_true, ↓zS, ↓zT, zU, List.append_nil, Nat.zero_add, Nat.reduceAdd, List.map_cons, List.map_nil, true_and, jq, ↓qaN, ↓qaT, ↓qaV, cxN, hd1]
      refine hx _ _ ?_
      simp -implicitDefEqProofs only [zN, List.getElem?_cons_zero, ↓reduceIte, Nat.reduceEqDiff, zX, leE, leH, leB, leV, leVs, keepP, liveP, wfE, wfB, wfV, wfL, Bool.and_self, and_self, lg0, lg1, lg2, lg3, lg4, lg5, outR_wfT]
theorem body13 (hV : Val N arcs) (hN : N ≤ 64) (hf : f < N) (ht : t < N) (hft : f ≠ t) (hal : arcs.length ≤ 100) (ham : 0 ≤ am ∧ am ≤ 2199023255552) {X : Nat → St → Prop}
    (hX : ∀ g : Int × List Int × List Int, SI N arcs f t am g.2.1 g.2.2 g.1 → g.1 = am → ∀ e b, get e 11 = .ptr 6 0 0 → get e 12 = .i am → get e 8 = .ptr 1 0 0 → X 0 ⟨e, hpS N arcs g.2.1 g.2.2, b⟩)
    (g : Int × List Int × List Int) (hg : SI N arcs f t am g.2.1 g.2.2 g.1) :
    aw (cxN Try.prog []) c13l0 (fun s' => ∃ g' : Int × List Int × List Int, (SI N arcs f t am g'.2.1 g'.2.2 g'.1 ∧ (am - g'.1).toNat < (am - g.1).toNat) ∧ leS [] s' (pat13 N arcs f t am g')) X (retP [] 0 [.cell 8 (some 5), .tmp 9] (R13 N arcs f t am)) (pat13 N arcs f t am g) := by
  obtain ⟨sent, x, p⟩ := g
  simp only at hg
  have hxl := hg.xb.hl
  have hW := hg.wok hV hN
  have hWx := hW x hg.xb
  have hs0 := hg.s0
  unfold c13l0 pat13 hpS wB
  rcases (by omega : sent < am ∨ am ≤ sent) with h | h
  · have hd : decide (sent < am) = true := decide_eq_true h
    simp -implicitDefEqProofs only [qE, qF, qI, qJ, qK, qO, qP, qR, qZ, zD, zH, zJ, zN, List.length_nil, List.length_cons, ↓reduceIte, Nat.reduceEqDiff, zP, zR, ↓zS, List.append_nil, Nat.zero_add, Nat.reduceAdd, List.map_cons, List.map_nil, true_and, jq, ↓qaT, cxN, hd]
    have h28 := ok28 (hs := hf) hWx hg.nn (fun j => hg.xb.bd hV j)
    refine call_isM (DistQ N (grD N arcs x (fun u => p.getD u 0) f hWx.hV hf hg.nn)) [6, 2, 4, 5] [] [] [.ptr 0 0 0, .i f] (fun _ => .sl 7 0 N) (wH N arcs x p) (fun D : List Int => wH N arcs x p ++ [Blk.dead, Blk.dead, Blk.dead, Blk.arr 1 (D.map encI)]) h28 (by simp) (by simp) (by simp [wH, wB, blk, renB, rens, ren, pos, outR_ren, hxl]) (by simp [lendsOk, lendOk, lends, lend, wkL, wk, pos]) fun D hD => ⟨by simp [keepP, liveP, wH, wB, setAll, renB, killB], ?_⟩
    simp -implicitDefEqProofs only [qE, qF, qI, qJ, qK, qL, qO, qP, qR, qV, qX, qY, qZ, zb, zD, zF, zH, zJ, zK, zN, ofConst, List.length_nil, List.length_cons, List.set_cons_zero, zO, List.getD_eq_getElem?_getD, List.getElem?_cons_zero, ↓reduceIte, Nat.reduceEqDiff, Option.getD_some, zP, arrSz, zR, List.nil_append, List.cons_append, List.append_nil, Nat.zero_add, Nat.reduceAdd, killE, killB, kill, kills, St.kill, List.map_cons, List.map_nil, true_and, List.not_mem_nil, List.length_map, lg0, zY, lg1, kg, lg2, kk, lg3, kr, lg4, kz, lg5, kD, lg6, lg7, lg8, lg9, jq, ↓jr, ↓ju, ↓jx, ↓jy, ↓jA, ↓jG, ↓jI, ↓jN, ↓jU, ↓qaR, List.length_map, List.getElem_map, encI_0, Int.toNat_natCast, wH, wB, setAll, renB, rens, ren, outR_ren, outR_kill, back, hxl, List.getElem?_nil, Nat.reduceSub, Nat.reduceAdd]
    have hDl := hD.len
    have hDt : D.getD t 0 = D[t]'(by omega) := getD_nat (by omega)
    refine ⟨⟨by omega, by omega⟩, by omega, ?_⟩
    simp only [br, beq_iff_eq, beq_eq_false_iff_ne]
    refine ⟨fun hfar => ?_, fun hfar => ?_⟩
    · have h29 := ok29 hWx hg.xb sent D (by omega)
      rw [hDl] at h29
      have hok := hg.cut hV hN hf ht hft h hD (by rw [hDt]; exact hfar)
      generalize hT : totTo arcs x arcs.length = tot at *
      refine call_isN [6, 2, 4, 5] [.ptr 0 0 0, .i sent, .bro 1 (D.map encI)] (.agg [.i sent, .i tot, .sl 1 0 x.length, .sl 3 0 N, .sl 6 0 (cutL D N).length]) (.agg [.i sent, .i tot, .sl 2 0 x.length, .sl 5 0 N, .sl 13 0 (cutL D N).length]) (wH N arcs x p) (wH N arcs x p ++ [Blk.dead, Blk.dead, Blk.arr 1 ((cutL D N).map encI)]) _ h29 (by simp) (by simp [wH, wB, blk, renB, rens, ren, pos, outR_ren, hxl]) (by simp [lendsOk, lendOk, lends, lend, wkL, wk, wkR, wkB, blk, pos, hDl, tk_enc]) (by simp [wH]) rfl (by simp [ren, rens, back]) (by simp [keepP]) ?_
      simp -implicitDefEqProofs only [qN, qO, qP, qR, qW, zH, zI, zJ, zK, zN, ofConst, cells?, List.length_nil, List.length_cons, List.set_cons_zero, splice, zO, List.getD_eq_getElem?_getD, List.getElem?_cons_zero, ↓reduceIte, Nat.reduceEqDiff, Option.getD_some, List.nil_append, List.cons_append, List.append_nil, Nat.zero_add, Nat.reduceAdd, List.map_cons, List.map_nil, List.take_zero, List.drop_nil, List.all_cons, List.all_nil, isC, Bool.and_true, Bool.and_self, true_and, and_true, and_self, List.not_mem_nil, not_false_eq_true, Nat.le_refl, lg0, zY, zZ, lg1, kg, kh, lg2, kk, kn, kr, kw, kz, kA, kD, ↓jr, ↓jC, ↓jD, wH, wB, setAll, renB, rens, ren, outR_ren, back, hxl, Nat.reduceAdd]
      rw [retP_eq]
      simp -implicitDefEqProofs only [zN, List.length_nil, List.length_cons, zO, List.getD_eq_getElem?_getD, List.getElem?_cons_zero, ↓reduceIte, Nat.reduceEqDiff, Option.getD_some, List.nil_append, List.cons_append, Nat.zero_add, Nat.reduceAdd, resP, tupV, List.reverse_cons, List.reverse_nil, keepP, liveP, wfV, wfL, List.drop_zero, List.take_nil, Bool.and_true, Bool.and_self, true_and, and_true, and_self, Nat.le_refl, lg0, ka, ki, ko, kx, kB, ↓ju, ↓jx, ↓jB]
      refine ⟨[.dead, .dead, .arr 1 (x.map encI), .dead, .dead, .arr 1 (p.map encI), .dead, .dead, .dead, .dead, .dead, .dead, .dead, .arr 1 ((cutL D N).map encI)], ⟨by simp [leH, leB], by simp [wfV, wfL, liveP], by simp [wfB]⟩, _, ⟨hok, hg⟩, ⟨_, [.dead, .dead, .dead, .dead, .dead, .dead, .dead, .arr 1 ((cutL D N).map encI)], rfl, rfl, by simp [gvV, blk, tk_enc']⟩, ?_⟩
      have e1 : List.take arcs.length (x.map encI) = x.map encI := tk_enc hxl
      have e2 : List.take N (p.map encI) = p.map encI := tk_enc hg.pl
      have hpl := hg.pl
      simp [gvV, gvL, wk, wkL, wkR, blk, Fr.enc, li, e1, e2, tk_enc', hxl, hpl]
    · have hp13 := hg.price hV hf ht hD hN (by rw [hDt]; exact hfar) (p' := pmix p D t N) (pmix_len.trans hg.pl) (fun k hk => by rw [pmix_get k (by rw [hg.pl]; exact Nat.le_refl _), if_pos hk])
      have hpl := hg.pl
      intro _
      refine loopP_intro (fun k : Nat => (⟨[(55, .i k), (54, .i N), (13, .sl 10 0 N), (12, .i sent), (11, .ptr 6 0 0), (8, .ptr 1 0 0), (3, .i am), (2, .i t), (1, .i f)], hpS N arcs x (pmix p D t k) ++ [.dead, .dead, .dead, .arr 1 (D.map encI)], 0⟩ : St)) (fun k => k ≤ N) (fun k => N - k) 0 (Nat.zero_le _) ?_ fun k hk => ?_
      · unfold hpS wB
        simp -implicitDefEqProofs only [zN, List.getElem?_cons_zero, ↓reduceIte, Nat.reduceEqDiff, List.nil_append, List.cons_append, zX, leE, leH, leB, leV, leVs, keepP, liveP, wfE, wfB, wfV, wfL, Bool.and_self, and_self, lg0, lg1, lg2, lg3, lg4, lg5, lg6, lg7, lg8, lg9, outR_wfT, Int.natCast_zero, pmix]
      unfold c13l1 hpS wB
      rcases Nat.lt_or_ge k N with hkN | hkN
      · have hd2 : decide ((k : Int) < N) = true := decide_eq_true (by omega)
        simp -implicitDefEqProofs only [qE, qF, qG, qI, qJ, qK, qO, qP, qR, qV, qW, qX, qY, qZ, zg, zF, zH, zI, zJ, zK, zN, ofConst, cells?, List.length_nil, List.length_cons, List.set_cons_zero, splice, zO, List.getD_eq_getElem?_getD, List.getElem?_cons_zero, ↓reduceIte, Nat.reduceEqDiff, Option.getD_some, zP, arrSz, zR, ↓zS, List.nil_append, List.cons_append, List.append_nil, Nat.zero_add, Nat.reduceAdd, zX, leE, leH, leB, leV, leVs, keepP, liveP, wfE, wfB, wfV, wfL, List.take_zero, List.all_cons, List.all_nil, isD, isC, Bool.and_true, Bool.and_self, true_and, and_true, and_self, V.v.injEq, Value.int.injEq, Value.bool.injEq, List.not_mem_nil, List.length_map, not_false_eq_true, Bool.false_eq_true, Nat.le_refl, lg0, zY, lg1, kg, lg2, kk, lg3, kr, lg4, kz, lg5, lg6, lg7, lg8, lg9, jq, ↓jr, ↓ju, ↓jx, ↓jy, ↓jA, ↓jC, ↓jE, ↓jG, ↓jI, ↓jU, ↓qaL, ↓qaT, List.length_map, List.getElem_map, encI_0, Int.toNat_natCast, encI_drop, hd2]
        have hml : (pmix p D t k).length = N := pmix_len.trans hpl
        have hmk : (pmix p D t k)[k]'(by omega) = p.getD k 0 := by
          rw [← getD_nat (by omega), pmix_get k (by omega), if_neg (Nat.lt_irrefl _)]
        have hDk : D.getD k 0 = D[k]'(by omega) := getD_nat (by omega)
        have hpb := hWx.hb k
        have hKBv : KB = 67711795200 := rfl
        have hbk := lab_b (hV := hWx.hV) (hs := hf) (hn := hg.nn) hN (fun j => hWx.hb j) hD.lab hkN
        have hbt := lab_b (hV := hWx.hV) (hs := hf) (hn := hg.nn) hN (fun j => hWx.hb j) hD.lab ht
        have hfv : far = 4611686018427387904 := rfl
        have hm1 : min D[k] D[t] ≤ 67711795200 := by
          refine Int.le_trans (Int.min_le_right _ _) ?_
          rcases hbt.2 with e | e
          · exact absurd (hDt.symm.trans e) hfar
          · rw [hDt] at e; omega
        have hm2 : 0 ≤ min D[k] D[t] := by
          rw [hDk] at hbk
          rw [hDt] at hbt
          exact Int.le_min.2 ⟨hbk.1, hbt.1⟩
        have hms : pmix p D t (k + 1) = (pmix p D t k).set k (p.getD k 0 + min D[k] D[t]) := by rw [← hDk, ← hDt]; rfl
        simp only [hmk]
        refine ⟨⟨by omega, by omega⟩, by rw [hml]; exact hkN, ⟨by omega, by omega⟩, by omega, ⟨by omega, by omega⟩, by omega, by simp only [lo, hi]; omega, ⟨by omega, by omega⟩, by rw [hml]; exact hkN, by simp only [lo, hi]; omega, k + 1, ⟨by omega, by omega⟩, by simp, ?_, outR_wf⟩
        rw [hms, ← encI_set]
      · have hd2 : decide ((k : Int) < N) = false := decide_eq_false (by omega)
        have : k = N := by omega
        subst this
        simp -implicitDefEqProofs only [qF, qI, qJ, qK, qL, qM, qO, qP, qR, qZ, zH, zJ, zK, zN, ofConst, List.length_nil, List.length_cons, ↓reduceIte, Nat.reduceEqDiff, zP, zR, ↓zT, List.nil_append, List.cons_append, List.append_nil, Nat.zero_add, Nat.reduceAdd, true_and, jq, ↓qaT, hd2]
        obtain ⟨hS1, hR1⟩ := hp13
        generalize pmix p D t k = p1 at *
        refine loop2 hV hN hf ht ham h hS1 hR1 (fun x' s' h1 h2 e b h3 => ?_) ?_
        · simp only [if_pos]
          exact ⟨(s', x', p1), ⟨h1, by simp only; have := h1.s0; omega⟩, h3⟩
        · unfold hpS wB
          simp -implicitDefEqProofs only [zN, List.getElem?_cons_zero, ↓reduceIte, Nat.reduceEqDiff, zX, leE, leH, leB, leV, leVs, keepP, liveP, wfE, wfB, wfV, wfL, Bool.and_self, and_self, lg0, lg1, lg2, lg3, lg4, lg5, outR_wfT]
  · have hd : decide (sent < am) = false := decide_eq_false (by omega)
    simp -implicitDefEqProofs only [qF, qI, qJ, qM, qO, qP, qR, qZ, zH, zJ, zN, List.length_nil, List.length_cons, ↓reduceIte, Nat.reduceEqDiff, zP, zR, ↓zT, List.append_nil, Nat.zero_add, Nat.reduceAdd, true_and, jq, ↓qaT, cxN, hd]
    have he : sent = am := by omega
    subst he
    exact hX (sent, x, p) hg rfl _ _ rfl rfl rfl
theorem raw13 (hV : Val N arcs) (hN : N ≤ 64) (hf : f < N) (ht : t < N) (hft : f ≠ t) (hal : arcs.length ≤ 100) (ham : 0 ≤ am ∧ am ≤ 2199023255552) (htask : taskP N f t am = true) :
    Ok 13 [net N arcs, .i f, .i t, .i am] (R13 N arcs f t am) := by
  refine ok_of lw13 (by simp) ?_
  unfold c13 net
  simp -implicitDefEqProofs only [qF, qI, qO, qP, qR, qT, qU, qV, zD, zH, zJ, zK, zN, ofConst, cells?, List.length_nil, List.length_cons, List.set_cons_zero, zO, List.getD_eq_getElem?_getD, List.getElem?_cons_zero, ↓reduceIte, Nat.reduceEqDiff, Option.getD_some, List.nil_append, List.append_nil, Nat.zero_add, Nat.reduceAdd, Nat.add_zero, freshP, List.map_cons, List.map_nil, List.drop_zero, List.take_nil, true_and, Nat.le_refl, lg0, zY, ka, kc, ki, kj, jq, ↓jr, ↓ju, ↓jx, ↓jB, cxN, args0]
  refine call_is (ok11 N arcs) (by simp [net, lendsOk, lendOk, lends, lend, wkL, wk, wkR]) rfl trivial ?_
  simp -implicitDefEqProofs only [qE, qF, qI, qJ, qN, qO, qP, qR, qV, qW, qZ, zk, zD, zH, zI, zJ, zK, zN, ofConst, cells?, List.length_nil, List.length_cons, List.set_cons_zero, splice, zO, List.getD_eq_getElem?_getD, List.getElem?_cons_zero, ↓reduceIte, Nat.reduceEqDiff, Option.getD_some, zP, zR, ↓zT, List.nil_append, List.append_nil, Nat.zero_add, Nat.reduceAdd, reduceCtorEq, buildP, List.map_cons, List.map_nil, List.drop_zero, List.take_zero, List.take_nil, List.drop_nil, List.all_cons, List.all_nil, isC, Bool.and_true, Bool.and_self, true_and, and_true, and_self, List.not_mem_nil, not_false_eq_true, Nat.le_refl, lg0, zY, zZ, ka, kh, ki, kn, kw, kA, jq, ↓jr, ↓ju, ↓jx, ↓jB, ↓jC, ↓jD, ↓qaS, hV.chk, bne_self_eq_false]
  refine call_is (ok26 N arcs f t am) (by simp [net, lendsOk, lendOk, lends, lend, wkL, wk, wkR]) rfl trivial ?_
  simp -implicitDefEqProofs only [qc, qf, qw, rdK, qx, qz, qA, qC, qE, qI, qJ, qO, qP, qV, qX, zb, zd, zq, zD, zH, zJ, zN, List.length_nil, List.length_cons, List.set_cons_zero, zO, List.getD_eq_getElem?_getD, List.getElem?_cons_zero, ↓reduceIte, Nat.reduceEqDiff, Option.getD_some, zP, zQ, zR, Bool.not_true, ↓zT, List.nil_append, List.cons_append, Nat.zero_add, Nat.reduceAdd, Nat.add_zero, freshP, List.map_cons, List.map_nil, List.drop_zero, List.take_nil, Bool.and_true, true_and, and_true, List.length_map, Bool.false_eq_true, Nat.le_refl, lg0, zY, ka, kc, lg1, kg, ki, jq, ↓jr, ↓ju, ↓jx, ↓jA, ↓jB, ↓jG, ↓jO, List.length_map, Int.toNat_natCast, htask]
  intro _
  refine ⟨⟨⟨by omega, by omega⟩, by omega, by omega⟩, ?_⟩
  have hx0 : (List.replicate arcs.length (0 : Int)).length = arcs.length := by simp
  have h27 := ok27 N arcs (List.replicate arcs.length 0) hV
  rw [hx0] at h27
  have e0 : List.replicate arcs.length [V.i 0] = (List.replicate arcs.length (0 : Int)).map encI := by simp [encI]
  refine call_isN [2] [net N arcs, .sl 0 0 arcs.length] (.ptr 4 0 0) (.ptr 6 0 0) [.arr 1 ((List.replicate arcs.length (0 : Int)).map encI)] [.arr 1 ((List.replicate arcs.length (0 : Int)).map encI), Blk.dead, .arv 1 (outR arcs N), .arr 1 (List.replicate N (encI 0)), wB N arcs.length arcs 0 2 3] _ h27 (by simp) (by simp [blk, renB, rens, ren, pos, encI]) (by simp [net, lendsOk, lendOk, lends, lend, wkL, wk, wkR, pos]) (by simp) rfl (by simp [ren, rens, back]) (by simp [keepP]) ?_
  rw [rep_encI]
  simp -implicitDefEqProofs only [qa, qy, qA, qF, qI, qK, qL, qO, qP, qR, zH, zJ, zK, zN, ofConst, List.length_nil, List.length_cons, List.set_cons_zero, List.getElem?_cons_zero, ↓reduceIte, List.nil_append, List.cons_append, List.append_nil, Nat.zero_add, Nat.reduceAdd, List.map_cons, List.map_nil, zY, lg1, kg, lg2, jq, wB, setAll, renB, rens, ren, outR_ren, back, List.getElem?_nil, Nat.reduceSub, Nat.reduceAdd]
  refine loopP_intro (pat13 N arcs f t am) (fun g => SI N arcs f t am g.2.1 g.2.2 g.1) (fun g => (am - g.1).toNat) (0, List.replicate arcs.length 0, List.replicate N 0) (SI.init hV hf ht ham.1) ?_ (body13 hV hN hf ht hft hal ham ?_)
  · unfold pat13 hpS wB
    simp -implicitDefEqProofs only [zN, List.getElem?_cons_zero, ↓reduceIte, Nat.reduceEqDiff, reduceCtorEq, zX, leE, leH, leB, leV, leVs, keepP, liveP, wfE, wfB, wfV, wfL, Bool.and_self, and_self, lg0, lg1, lg2, lg3, lg4, lg5, outR_wfT]
  · rintro ⟨sent, x, p⟩ hS he e b g1 g2 g3
    simp only at hS he
    subst he
    have hWx := hS.wok hV hN x hS.xb
    have hxl := hS.xb.hl
    have hpl := hS.pl
    have h29 := ok29 hWx hS.xb sent [] (Nat.zero_le _)
    have hok := hS.all hV hN hf ht hft rfl
    generalize hT : totTo arcs x arcs.length = tot at *
    unfold hpS wB
    simp -implicitDefEqProofs only [qF, qI, qP, qR, zD, zH, zJ, zK, zN, ofConst, List.length_nil, List.length_cons, ↓reduceIte, Nat.reduceEqDiff, List.append_nil, Nat.zero_add, Nat.reduceAdd, List.map_cons, List.map_nil, jq, g1, g2]
    refine call_isN [6, 2, 4, 5] [.ptr 0 0 0, .i sent, .bro 1 []] (.agg [.i sent, .i tot, .sl 1 0 x.length, .sl 3 0 N, .sl 6 0 0]) (.agg [.i sent, .i tot, .sl 2 0 x.length, .sl 5 0 N, .sl 9 0 0]) (wH N arcs x p) (wH N arcs x p ++ [Blk.dead, Blk.dead, Blk.arr 1 []]) _ h29 (by simp) (by simp [wH, wB, blk, renB, rens, ren, pos, outR_ren, hxl]) (by simp [lendsOk, lendOk, lends, lend, wkL, wk, wkR, wkB, blk, pos]) (by simp [wH]) rfl (by simp [ren, rens, back]) (by simp [keepP]) ?_
    simp -implicitDefEqProofs only [qN, qO, qP, qR, qW, zH, zI, zJ, zK, zN, ofConst, cells?, List.length_nil, List.length_cons, List.set_cons_zero, splice, zO, List.getD_eq_getElem?_getD, List.getElem?_cons_zero, ↓reduceIte, Nat.reduceEqDiff, Option.getD_some, List.nil_append, List.cons_append, List.append_nil, Nat.zero_add, Nat.reduceAdd, List.map_cons, List.map_nil, List.take_zero, List.drop_nil, List.all_cons, List.all_nil, isC, Bool.and_true, Bool.and_self, true_and, and_true, and_self, List.not_mem_nil, not_false_eq_true, Nat.le_refl, lg0, zY, zZ, lg1, kg, kh, lg2, kk, kn, kr, kw, kz, kA, kD, ↓jr, ↓jC, ↓jD, wH, wB, setAll, renB, rens, ren, outR_ren, back, hxl, g3, Nat.reduceAdd]
    rw [retP_eq]
    simp -implicitDefEqProofs only [zN, List.length_nil, List.length_cons, zO, List.getD_eq_getElem?_getD, List.getElem?_cons_zero, ↓reduceIte, Nat.reduceEqDiff, Option.getD_some, List.nil_append, List.cons_append, Nat.zero_add, Nat.reduceAdd, resP, tupV, List.reverse_cons, List.reverse_nil, keepP, liveP, wfV, wfL, List.drop_zero, List.take_nil, Bool.and_true, Bool.and_self, true_and, and_true, and_self, Nat.le_refl, lg0, ka, ki, ko, kx, kB, ↓ju, ↓jx, ↓jB, g3]
    refine ⟨[.dead, .dead, .arr 1 (x.map encI), .dead, .dead, .arr 1 (p.map encI), .dead, .dead, .dead, .arr 1 []], ⟨by simp [leH, leB], by simp [wfV, wfL, liveP], by simp [wfB]⟩, _, ⟨hok, hS⟩, ⟨_, [.dead, .dead, .dead, .arr 1 []], rfl, rfl, by simp [gvV, blk]⟩, ?_⟩
    have e1 : List.take arcs.length (x.map encI) = x.map encI := tk_enc hxl
    have e2 : List.take N (p.map encI) = p.map encI := tk_enc hpl
    simp [gvV, gvL, wk, wkL, wkR, blk, Fr.enc, li, e1, e2, tk_enc', hxl, hpl]
theorem ok13 (hV : Val N arcs) (hN : N ≤ 64) (hf : f < N) (ht : t < N) (hft : f ≠ t) (hal : arcs.length ≤ 100) (ham : 0 ≤ am ∧ am ≤ 2199023255552) (htask : taskP N f t am = true) :
    Ok 13 [net N arcs, .i f, .i t, .i am] (IsQ (fun fr => OkAc N arcs f t am fr) (fun fr => .tup [fr.enc, .i 0]) (fun _ => [])) := by
  refine ⟨rlF_callable lw13, Fn_giveQ (R := R13 N arcs f t am) ?_ fun r hs ⟨fr, h1, _, h2⟩ => ⟨_, h2, fr, h1.1, rfl, rfl⟩⟩
  exact (raw13 hV hN hf ht hft hal ham htask).2
end
end Go.Fx.C
namespace Go.Fx.Lb
section
variable {G : Gr}
def Ch (G : Gr) (L : Nat → Nat) : Nat → List Nat → Prop
  | v, [] => v = G.s
  | v, i :: r => v ≠ G.s ∧ i = L v ∧ Ch G L (G.src i) r
structure BF (G : Gr) (F : Int) (D : Nat → Int) (L : Nat → Nat) : Prop where
  lab : Lab G F D
  pre : ∀ v, v < G.N → v ≠ G.s → D v < F → G.res (L v) ∧ G.dst (L v) = v ∧ D (G.src (L v)) < F ∧ D (G.src (L v)) + G.c (L v) ≤ D v
  ch : ∀ v, v < G.N → D v < F → ∃ r, Ch G L v r
theorem ch_low {F : Int} {D : Nat → Int} {L : Nat → Nat} (h : BF G F D L) {x : Nat} : ∀ {u : Nat} {r : List Nat}, u < G.N → D u < F → Ch G L u r → x ∈ vs G u r → D x - G.π x ≤ D u - G.π u
  | u, [], _, _, _, hx => by
    simp only [vs, List.mem_singleton] at hx
    subst hx; exact Int.le_refl _
  | u, i :: r, hu, hF, hc, hx => by
    rcases List.mem_cons.1 hx with rfl | hx
    · exact Int.le_refl _
    · obtain ⟨h1, rfl, h3⟩ := hc
      obtain ⟨p1, p2, p3, p4⟩ := h.pre u hu h1 hF
      have := ch_low h (G.hN _ p1).1 p3 h3 hx
      have h5 := G.hπ _ p1
      rw [p2] at h5
      omega
theorem ch_upd {L : Nat → Nat} {v i : Nat} : ∀ {u : Nat} {r : List Nat}, Ch G L u r → v ∉ vs G u r → Ch G (upd L v i) u r
  | u, [], h, _ => h
  | u, j :: r, h, hn => by
    have h1 : u ≠ v := fun e => hn (by rw [e]; simp [vs])
    refine ⟨h.1, ?_, ch_upd h.2.2 fun hm => hn (by simp [vs, hm])⟩
    rw [upd_ne _ _ h1]; exact h.2.1
theorem BF.relax {F : Int} {D : Nat → Int} {L : Nat → Nat} (h : BF G F D L) {i : Nat} (hr : G.res i) (hu : D (G.src i) < F) (hlt : D (G.src i) + G.c i < D (G.dst i)) : BF G F (upd D (G.dst i) (D (G.src i) + G.c i)) (upd L (G.dst i) i) := by
  obtain ⟨hl, hds⟩ := h.lab.relax hr hu hlt
  obtain ⟨hsN, hdN⟩ := G.hN i hr
  have hπ := G.hπ i hr
  have hsd : G.src i ≠ G.dst i := fun e => by rw [e] at hlt hπ; omega
  have hdF : D (G.dst i) ≤ F := by
    rcases h.lab.hw _ hdN with e | ⟨e, _⟩ <;> omega
  have hle : ∀ u, upd D (G.dst i) (D (G.src i) + G.c i) u ≤ D u := by
    intro u
    unfold upd
    split
    · rename_i e; rw [e]; omega
    · exact Int.le_refl _
  obtain ⟨ru, hru⟩ := h.ch _ hsN hu
  have hnot : G.dst i ∉ vs G (G.src i) ru := fun hm => by
    have := ch_low h hsN hu hru hm
    omega
  have hru' : Ch G (upd L (G.dst i) i) (G.src i) ru := ch_upd hru hnot
  refine ⟨hl, fun v hv hvs hvF => ?_, fun v hv hvF => ?_⟩
  · by_cases e : v = G.dst i
    · subst e
      rw [upd_at, upd_at, upd_ne _ _ hsd]
      exact ⟨hr, rfl, hu, Int.le_refl _⟩
    · rw [upd_ne _ _ e] at hvF
      rw [upd_ne _ _ e, upd_ne _ _ e]
      obtain ⟨p1, p2, p3, p4⟩ := h.pre v hv hvs hvF
      have := hle (G.src (L v))
      exact ⟨p1, p2, by omega, by omega⟩
  · have key : ∀ (w : Nat) (r : List Nat), Ch G L w r → ∃ r', Ch G (upd L (G.dst i) i) w r' := by
      intro w r
      induction r generalizing w with
      | nil => intro hc; exact ⟨[], hc⟩
      | cons j r ih =>
        intro hc
        by_cases e : w = G.dst i
        · subst e
          exact ⟨i :: ru, hds, by rw [upd_at], hru'⟩
        · obtain ⟨r', hr'⟩ := ih _ hc.2.2
          exact ⟨j :: r', hc.1, by rw [upd_ne _ _ e]; exact hc.2.1, hr'⟩
    by_cases e : v = G.dst i
    · subst e
      exact ⟨i :: ru, hds, by rw [upd_at], hru'⟩
    · rw [upd_ne _ _ e] at hvF
      obtain ⟨r, hr2⟩ := h.ch v hv hvF
      exact key v r hr2
theorem BF.start {F : Int} (hF : 0 < F) (L : Nat → Nat) : BF G F (fun v => if v = G.s then 0 else F) L := by
  refine ⟨Lab.start hF, fun v hv hvs h => ?_, fun v hv h => ?_⟩
  · simp only [if_neg hvs] at h; omega
  · by_cases e : v = G.s
    · exact ⟨[], e⟩
    · simp only [if_neg e] at h; omega
def Rd (G : Gr) (D : Nat → Int) (r : Nat) : Prop := ∀ v l, PR G v l → l.length ≤ r → D v ≤ cs G l
structure InR (G : Gr) (F : Int) (D : Nat → Int) (r j : Nat) (ch : Bool) : Prop where
  rd : Rd G D r
  one : ∀ v i l, PR G v (i :: l) → l.length ≤ r → i < j → D v ≤ cs G (i :: l)
  cl : ch = false → ∀ i, i < j → G.res i → D (G.src i) < F → D (G.dst i) ≤ D (G.src i) + G.c i
theorem Rd.start {F : Int} : Rd G (fun v => if v = G.s then 0 else F) 0 := by
  intro v l h hl
  cases l with
  | nil =>
    have h : v = G.s := h
    simp only [if_pos h, cs]; exact Int.le_refl _
  | cons i l => simp at hl
theorem Rd.le {D D' : Nat → Int} {r : Nat} (h : Rd G D r) (hle : ∀ u, D' u ≤ D u) : Rd G D' r := fun v l h1 h2 => Int.le_trans (hle v) (h v l h1 h2)
theorem InR.start {F : Int} {D : Nat → Int} {r : Nat} (h : Rd G D r) : InR G F D r 0 false := ⟨h, fun _ _ _ _ _ h => by omega, fun _ _ h => by omega⟩
theorem InR.skip {F : Int} {D : Nat → Int} {r j : Nat} {ch : Bool} (h : InR G F D r j ch) (hF : ∀ v l, PR G v l → l.length ≤ r → cs G l < F) (hn : G.res j → D (G.src j) < F → D (G.dst j) ≤ D (G.src j) + G.c j) : InR G F D r (j + 1) ch := by
  refine ⟨h.rd, fun v i l h1 h2 h3 => ?_, fun hc i h3 h4 h5 => ?_⟩
  · by_cases e : i = j
    · subst e
      have h4 := h.rd _ _ h1.2.2 h2
      have h5 := hF _ _ h1.2.2 h2
      have h6 := hn h1.1 (by omega)
      rw [h1.2.1] at h6
      simp only [cs]; omega
    · exact h.one v i l h1 h2 (by omega)
  · by_cases e : i = j
    · subst e; exact hn h4 h5
    · exact h.cl hc i (by omega) h4 h5
theorem InR.relax {F : Int} {D : Nat → Int} {r j : Nat} {ch : Bool} (h : InR G F D r j ch) (hlt : D (G.src j) + G.c j < D (G.dst j)) (hsd : G.src j ≠ G.dst j) : InR G F (upd D (G.dst j) (D (G.src j) + G.c j)) r (j + 1) true := by
  have hle : ∀ u, upd D (G.dst j) (D (G.src j) + G.c j) u ≤ D u := by
    intro u
    unfold upd
    split
    · rename_i e; rw [e]; omega
    · exact Int.le_refl _
  refine ⟨h.rd.le hle, fun v i l h1 h2 h3 => ?_, fun hc => by cases hc⟩
  by_cases e : i = j
  · subst e
    have h4 := h.rd _ _ h1.2.2 h2
    rw [← h1.2.1, upd_at]
    simp only [cs]; omega
  · exact Int.le_trans (hle v) (h.one v i l h1 h2 (by omega))
theorem InR.next {F : Int} {D : Nat → Int} {r j : Nat} {ch : Bool} (h : InR G F D r j ch) (hj : ∀ i, G.res i → i < j) : Rd G D (r + 1) := by
  intro v l h1 h2
  cases l with
  | nil => exact h.rd v [] h1 (Nat.zero_le _)
  | cons i l => exact h.one v i l h1 (by simp at h2; omega) (hj i h1.1)
theorem InR.done {F : Int} {D : Nat → Int} {r j : Nat} (h : InR G F D r j false) (hj : ∀ i, G.res i → i < j) : Cl G F D := fun i hi hu => h.cl rfl i (hj i hi) hi hu
theorem rd_cl {F : Int} {D : Nat → Int} (hl : Lab G F D) {r : Nat} (hr : G.N ≤ r + 1) (h : Rd G D r) : Cl G F D := by
  intro i hi hu
  apply Classical.byContradiction
  intro hlt
  obtain ⟨hsN, hdN⟩ := G.hN i hi
  obtain ⟨ru, hW⟩ : ∃ r, Wp G D (G.src i) r := by
    rcases hl.hw _ hsN with e | ⟨_, e⟩
    · omega
    · exact e
  have hπ := G.hπ i hi
  have hnot : G.dst i ∉ vs G (G.src i) ru := fun hm => by
    have := dom_in hW.pr hW.dm hm
    rw [hW.co] at this
    omega
  have hp : PR G (G.dst i) (i :: ru) := ⟨hi, rfl, hW.pr⟩
  have hnd : (vs G (G.dst i) (i :: ru)).Nodup := List.nodup_cons.2 ⟨hnot, hW.nd⟩
  have hlen := nodup_le G.N _ hnd (vs_lt _ _ hp)
  rw [vs_len] at hlen
  have := h _ _ hp (by simp at hlen ⊢; omega)
  simp only [cs, hW.co] at this
  omega
theorem BF.tight {F : Int} {D : Nat → Int} {L : Nat → Nat} (h : BF G F D L) (hc : Cl G F D) : ∀ {u : Nat} {r : List Nat}, u < G.N → D u < F → Ch G L u r → PR G u r ∧ Tight G D u r
  | u, [], _, _, hu => ⟨hu, trivial⟩
  | u, i :: r, hu, hF, hch => by
    obtain ⟨h1, rfl, h3⟩ := hch
    obtain ⟨p1, p2, p3, p4⟩ := h.pre u hu h1 hF
    obtain ⟨q1, q2⟩ := BF.tight h hc (G.hN _ p1).1 p3 h3
    have := hc _ p1 p3
    rw [p2] at this
    refine ⟨⟨p1, p2, q1⟩, ?_, q2⟩
    rw [p2]; omega
end
end Go.Fx.Lb
namespace Go.Fx.C
open Go Go.Fx Go.Proofs
set_option maxRecDepth 20000
def farW : Int := 1152921504606846976
theorem ok32 : Ok 32 [] (Is (.i farW)) := by
  refine ok_of lw32 (by simp) ?_
  unfold c32
  simp -implicitDefEqProofs only [qF, qI, qN, qO, qP, qR, zH, zK, zN, ofConst, List.length_nil, ↓reduceIte, List.nil_append, List.append_nil, zW, resP, tupV, List.reverse_cons, List.reverse_nil, wfV, true_and, V.v.injEq, Value.int.injEq, Value.bool.injEq, jq, cxN, args0]
  rfl
def grW (N : Nat) (arcs : List Arc) (x : List Int) (p : Nat → Int) (s : Nat) (hV : Val N arcs) (hs : s < N) (hn : NN arcs x p) : Lb.Gr :=
  ⟨N, s, wsrc arcs, wdst arcs, wcst arcs, wres arcs x, p, hs, fun i h => ⟨(w_in hV h.1).1, (w_in hV h.1).2.1⟩, hn⟩
def wayL (z : Int) : Nat := if 0 < z then 2 * (z - 1).toNat else if z < 0 then 2 * (-z - 1).toNat + 1 else 8192
def arW (k : Nat) (b : Bool) : Int := if b then -(k : Int) - 1 else (k : Int) + 1
theorem wayL_f (k : Nat) : wayL ((k : Int) + 1) = 2 * k := by
  unfold wayL
  rw [if_pos (by omega)]; omega
theorem wayL_b (k : Nat) : wayL (-(k : Int) - 1) = 2 * k + 1 := by
  unfold wayL
  rw [if_neg (by omega), if_pos (by omega)]; omega
theorem wayL_res {N : Nat} {arcs : List Arc} {x : List Int} (hV : Val N arcs) {z : Int} (h : wres arcs x (wayL z)) : (0 < z ∧ wayL z = 2 * (z - 1).toNat ∧ (z - 1).toNat < arcs.length) ∨ (z < 0 ∧ wayL z = 2 * (-z - 1).toNat + 1 ∧ (-z - 1).toNat < arcs.length) := by
  have h1 := h.1
  have h2 := hV.hl
  unfold wayL at h1 ⊢
  by_cases e : 0 < z
  · left
    rw [if_pos e] at h1 ⊢
    exact ⟨e, rfl, by omega⟩
  · rw [if_neg e] at h1 ⊢
    by_cases e2 : z < 0
    · right
      rw [if_pos e2] at h1 ⊢
      exact ⟨e2, rfl, by omega⟩
    · rw [if_neg e2] at h1
      omega
section
variable {N : Nat} {arcs : List Arc} {x : List Int} {p : Nat → Int} {s : Nat} {hV : Val N arcs} {hs : s < N} {hn : NN arcs x p}
structure WI (G : Lb.Gr) (N : Nat) (r j : Nat) (ch : Bool) (g : List Int × List Int) : Prop where
  bf : Lb.BF G farW (fun u => g.1.getD u 0) (fun u => wayL (g.2.getD u 0))
  ir : Lb.InR G farW (fun u => g.1.getD u 0) r j ch
  l1 : g.1.length = N
  l2 : g.2.length = N
theorem wcs_b (hN : N ≤ 64) {v : Nat} {l : List Nat} (h : Lb.PR (grW N arcs x p s hV hs hn) v l) (hl : l.length ≤ 64) : -67108864 ≤ Lb.cs (grW N arcs x p s hV hs hn) l ∧ Lb.cs (grW N arcs x p s hV hs hn) l ≤ 67108864 := by
  have := Lb.cs_bound (G := grW N arcs x p s hV hs hn) (B := -1048576) (C := 1048576) (fun i hi => wcst_b hV hi.1) h
  have h2 : (l.length : Int) * 1048576 ≤ 64 * 1048576 := Int.mul_le_mul_of_nonneg_right (by omega) (by omega)
  omega
theorem wlab_b (hN : N ≤ 64) {D : Nat → Int} (h : Lb.Lab (grW N arcs x p s hV hs hn) farW D) {u : Nat} (hu : u < N) : D u = farW ∨ (D u < farW ∧ -67108864 ≤ D u ∧ D u ≤ 67108864) := by
  rcases h.hw u hu with he | ⟨h1, r, hW⟩
  · exact .inl he
  · have hl : r.length < N := hW.len
    have := wcs_b hN hW.pr (by omega)
    rw [hW.co] at this
    exact .inr ⟨h1, this⟩
theorem upd_list {D : List Int} {v : Nat} {z : Int} (hv : v < D.length) : (fun u => (D.set v z).getD u 0) = Lb.upd (fun u => D.getD u 0) v z := by
  funext u
  rw [getD_set hv]; rfl
theorem upd_way {L : List Int} {v : Nat} {z : Int} (hv : v < L.length) : (fun u => wayL ((L.set v z).getD u 0)) = Lb.upd (fun u => wayL (L.getD u 0)) v (wayL z) := by
  funext u
  unfold Lb.upd
  rw [getD_set hv]
  split <;> rfl
theorem WI.skip (hN : N ≤ 64) {r j : Nat} {ch : Bool} {g : List Int × List Int} (h : WI (grW N arcs x p s hV hs hn) N r j ch g) (hr : r ≤ 64) (hno : wres arcs x j → g.1.getD (wsrc arcs j) 0 < farW → g.1.getD (wdst arcs j) 0 ≤ g.1.getD (wsrc arcs j) 0 + wcst arcs j) : WI (grW N arcs x p s hV hs hn) N r (j + 1) ch g :=
  ⟨h.bf, h.ir.skip (fun v l h1 h2 => by have := wcs_b hN h1 (by omega); unfold farW; omega) hno, h.l1, h.l2⟩
theorem WI.relax {r j : Nat} {ch : Bool} {D L : List Int} (h : WI (grW N arcs x p s hV hs hn) N r j ch (D, L)) (hres : wres arcs x j) (hu : D.getD (wsrc arcs j) 0 < farW) (hlt : D.getD (wsrc arcs j) 0 + wcst arcs j < D.getD (wdst arcs j) 0) {z : Int} (hz : wayL z = j) :
    WI (grW N arcs x p s hV hs hn) N r (j + 1) true (D.set (wdst arcs j) (D.getD (wsrc arcs j) 0 + wcst arcs j), L.set (wdst arcs j) z) := by
  obtain ⟨w1, w2, w3⟩ := w_in hV hres.1
  have h1 := h.l1
  have h2 := h.l2
  simp only at h1 h2
  have a := h.bf.relax (i := j) hres hu hlt
  have b := h.ir.relax (j := j) hlt w3
  refine ⟨?_, ?_, by simp [h1], by simp [h2]⟩
  · simp only
    rw [upd_list (by omega), upd_way (by omega), hz]
    exact a
  · simp only
    rw [upd_list (by omega)]
    exact b
end
end Go.Fx.C
namespace Go.Fx.C
open Go Go.Fx Go.Proofs
set_option maxRecDepth 20000
def c31a : LCode :=
  (.seq
  (.tree 0
  (.take 0 [2, 3, 6, 7, 8, 9, 10, 11, 12, 13, 14, 15, 16, 17, 18, 19, 20, 21, 22, 23, 24, 25, 26, 27, 28, 29, 30, 31, 32, 33, 34] ⟨(some 53), .mov (.tmp 2), none⟩
  (.take 1 [2, 3, 6, 7, 8, 9, 10, 11, 12, 13, 14, 15, 16, 17, 18, 19, 20, 21, 22, 23, 24, 25, 26, 27, 28, 29, 30, 31, 32, 33, 34] ⟨(some 54), .mov (.tmp 11), none⟩
  (.take 2 [3, 6, 7, 8, 9, 10, 11, 12, 13, 14, 15, 16, 17, 18, 19, 20, 21, 22, 23, 24, 25, 26, 27, 28, 29, 30, 31, 32, 33, 34] ⟨(some 55), .idx 1 (.tmp 53) (.tmp 54), none⟩
  (.take 3 [6, 7, 8, 9, 10, 11, 12, 13, 14, 15, 16, 17, 18, 19, 20, 21, 22, 23, 24, 25, 26, 27, 28, 29, 30, 31, 32, 33, 34] ⟨(some 56), .load none (.tmp 55), none⟩
  (.take 4 [5, 6, 7, 8, 9, 10, 11, 12, 13, 14, 15, 16, 17, 18, 19, 20, 21, 22, 23, 24, 25, 26, 27, 28, 29, 30, 31, 32, 33, 34] ⟨(some 57), .fld 2 (.tmp 12), none⟩
  (.take 5 [6, 7, 8, 9, 10, 11, 12, 13, 14, 15, 16, 17, 18, 19, 20, 21, 22, 23, 24, 25, 26, 27, 28, 29, 30, 31, 32, 33, 34] ⟨(some 58), .load none (.tmp 57), none⟩
  (.take 6 [7, 8, 9, 10, 11, 12, 13, 14, 15, 16, 17, 18, 19, 20, 21, 22, 23, 24, 25, 26, 27, 28, 29, 30, 31, 32, 33, 34] ⟨(some 59), .bin .lss false (.tmp 56) (.tmp 58), none⟩
  (.take 7 [8, 9, 10, 11, 12, 13, 14, 15, 16, 17, 18, 19, 20, 21, 22, 23, 24, 25, 26, 27, 28, 29, 30, 31, 32, 33, 34] ⟨(some 60), .mov (.tmp 59), none⟩
  (.take 8 [9, 12, 13, 15, 16, 17, 18, 19, 20, 21, 22, 23, 24, 25, 26, 27, 28, 29, 30, 31, 32, 33, 34] ⟨(some 61), .fld 0 (.tmp 7), (some (60, true))⟩
  (.take 9 [12, 13, 15, 16, 17, 18, 19, 20, 21, 22, 23, 24, 25, 26, 27, 28, 29, 30, 31, 32, 33, 34] ⟨(some 62), .load none (.tmp 61), (some (60, true))⟩
  (.take 10 [11, 12, 13, 15, 16, 17, 18, 19, 20, 21, 22, 23, 24, 25, 26, 27, 28, 29, 30, 31, 32, 33, 34] ⟨(some 63), .fld 0 (.tmp 12), (some (60, true))⟩
  (.take 11 [12, 13, 15, 16, 17, 18, 19, 20, 21, 22, 23, 24, 25, 26, 27, 28, 29, 30, 31, 32, 33, 34] ⟨(some 64), .load none (.tmp 63), (some (60, true))⟩
  (.take 12 [13, 15, 16, 17, 18, 19, 20, 21, 22, 23, 24, 25, 26, 27, 28, 29, 30, 31, 32, 33, 34] ⟨(some 65), .idx 1 (.tmp 62) (.tmp 64), (some (60, true))⟩
  (.take 13 [15, 16, 17, 18, 19, 20, 21, 22, 23, 24, 25, 26, 27, 28, 29, 30, 31, 32, 33, 34] ⟨(some 66), .load none (.tmp 65), (some (60, true))⟩
  (.alt 14 ⟨(some 67), .call 32 [], (some (60, true))⟩ true
  (.take 15 [16, 17, 18, 19, 20, 21, 22, 23, 24, 25, 26, 27, 28, 29, 30, 31, 32, 33, 34] ⟨(some 68), .bin .lss false (.tmp 66) (.tmp 67), (some (60, true))⟩
  (.take 16 [17, 18, 19, 20, 21, 22, 23, 24, 25, 26, 27, 28, 29, 30, 31, 32, 33, 34] ⟨(some 69), .pick (.tmp 60) (.tmp 68) (.const (.bool false)), none⟩
  (.take 17 [18, 19, 20, 21, 22, 23, 24, 25, 26, 27, 28, 29, 30, 31, 32, 33, 34] ⟨(some 70), .mov (.tmp 69), none⟩
  (.take 18 [19, 22, 23, 26, 33, 34] ⟨(some 71), .fld 0 (.tmp 7), (some (70, true))⟩
  (.take 19 [22, 23, 26, 33, 34] ⟨(some 72), .load none (.tmp 71), (some (70, true))⟩
  (.take 20 [21, 22, 23, 26, 33, 34] ⟨(some 73), .fld 0 (.tmp 12), (some (70, true))⟩
  (.take 21 [22, 23, 26, 33, 34] ⟨(some 74), .load none (.tmp 73), (some (70, true))⟩
  (.take 22 [23, 26, 33, 34] ⟨(some 75), .idx 1 (.tmp 72) (.tmp 74), (some (70, true))⟩
  (.take 23 [26, 33, 34] ⟨(some 76), .load none (.tmp 75), (some (70, true))⟩
  (.take 24 [25, 26, 33, 34] ⟨(some 77), .fld 3 (.tmp 12), (some (70, true))⟩
  (.take 25 [26, 33, 34] ⟨(some 78), .load none (.tmp 77), (some (70, true))⟩
  (.take 26 [33, 34] ⟨(some 79), .bin .add true (.tmp 76) (.tmp 78), (some (70, true))⟩
  (.take 27 [28, 31, 32, 33, 34] ⟨(some 80), .fld 0 (.tmp 7), (some (70, true))⟩
  (.take 28 [31, 32, 33, 34] ⟨(some 81), .load none (.tmp 80), (some (70, true))⟩
  (.take 29 [30, 31, 32, 33, 34] ⟨(some 82), .fld 1 (.tmp 12), (some (70, true))⟩
  (.take 30 [31, 32, 33, 34] ⟨(some 83), .load none (.tmp 82), (some (70, true))⟩
  (.take 31 [32, 33, 34] ⟨(some 84), .idx 1 (.tmp 81) (.tmp 83), (some (70, true))⟩
  (.take 32 [33, 34] ⟨(some 85), .load none (.tmp 84), (some (70, true))⟩
  (.take 33 [34] ⟨(some 86), .bin .lss false (.tmp 79) (.tmp 85), (some (70, true))⟩
  (.take 34 [] ⟨(some 87), .pick (.tmp 70) (.tmp 86) (.const (.bool false)), none⟩
  .done))))))))))))))))))))
  .none))))))))))))))))
  (.cond (.tmp 87)
  (.seq
  (.tail 14 0 [
  ⟨(some 88), .fld 0 (.tmp 7), none⟩,
  ⟨(some 89), .load none (.tmp 88), none⟩,
  ⟨(some 90), .fld 1 (.tmp 12), none⟩,
  ⟨(some 91), .load none (.tmp 90), none⟩,
  ⟨(some 92), .fld 0 (.tmp 7), none⟩,
  ⟨(some 93), .load none (.tmp 92), none⟩,
  ⟨(some 94), .fld 0 (.tmp 12), none⟩,
  ⟨(some 95), .load none (.tmp 94), none⟩,
  ⟨(some 96), .idx 1 (.tmp 93) (.tmp 95), none⟩,
  ⟨(some 97), .load none (.tmp 96), none⟩,
  ⟨(some 98), .fld 3 (.tmp 12), none⟩,
  ⟨(some 99), .load none (.tmp 98), none⟩,
  ⟨(some 100), .bin .add true (.tmp 97) (.tmp 99), none⟩,
  ⟨(some 101), .idx 1 (.tmp 89) (.tmp 91), none⟩,
  ⟨none, .store 1 (.tmp 101) (.tmp 100), none⟩])
  (.seq
  (.reg 0 [
  ⟨(some 102), .fld 1 (.tmp 7), none⟩,
  ⟨(some 103), .load none (.tmp 102), none⟩,
  ⟨(some 104), .fld 1 (.tmp 12), none⟩,
  ⟨(some 105), .load none (.tmp 104), none⟩,
  ⟨(some 106), .mov (.tmp 11), none⟩,
  ⟨(some 107), .bin .add true (.tmp 106) (.const (.int .i64 1)), none⟩,
  ⟨(some 108), .idx 1 (.tmp 103) (.tmp 105), none⟩,
  ⟨none, .store 1 (.tmp 108) (.tmp 107), none⟩])
  (.reg 0 [
  ⟨(some 10), .mov (.const (.bool true)), none⟩])))
  .skip))
def c31b : LCode :=
  (.seq
  (.tree 0
  (.take 0 [2, 3, 4, 5, 6, 7, 8, 9, 10, 11, 12, 13, 14, 15, 16, 17, 18, 19, 20, 21, 22, 23, 24, 25, 26, 27, 28, 29, 30, 31, 32] ⟨(some 109), .mov (.tmp 2), none⟩
  (.take 1 [2, 3, 4, 5, 6, 7, 8, 9, 10, 11, 12, 13, 14, 15, 16, 17, 18, 19, 20, 21, 22, 23, 24, 25, 26, 27, 28, 29, 30, 31, 32] ⟨(some 110), .mov (.tmp 11), none⟩
  (.take 2 [3, 4, 5, 6, 7, 8, 9, 10, 11, 12, 13, 14, 15, 16, 17, 18, 19, 20, 21, 22, 23, 24, 25, 26, 27, 28, 29, 30, 31, 32] ⟨(some 111), .idx 1 (.tmp 109) (.tmp 110), none⟩
  (.take 3 [4, 5, 6, 7, 8, 9, 10, 11, 12, 13, 14, 15, 16, 17, 18, 19, 20, 21, 22, 23, 24, 25, 26, 27, 28, 29, 30, 31, 32] ⟨(some 112), .load none (.tmp 111), none⟩
  (.take 4 [5, 6, 7, 8, 9, 10, 11, 12, 13, 14, 15, 16, 17, 18, 19, 20, 21, 22, 23, 24, 25, 26, 27, 28, 29, 30, 31, 32] ⟨(some 113), .bin .gtr false (.tmp 112) (.const (.int .i64 0)), none⟩
  (.take 5 [6, 7, 8, 9, 10, 11, 12, 13, 14, 15, 16, 17, 18, 19, 20, 21, 22, 23, 24, 25, 26, 27, 28, 29, 30, 31, 32] ⟨(some 114), .mov (.tmp 113), none⟩
  (.take 6 [7, 10, 11, 13, 14, 15, 16, 17, 18, 19, 20, 21, 22, 23, 24, 25, 26, 27, 28, 29, 30, 31, 32] ⟨(some 115), .fld 0 (.tmp 7), (some (114, true))⟩
  (.take 7 [10, 11, 13, 14, 15, 16, 17, 18, 19, 20, 21, 22, 23, 24, 25, 26, 27, 28, 29, 30, 31, 32] ⟨(some 116), .load none (.tmp 115), (some (114, true))⟩
  (.take 8 [9, 10, 11, 13, 14, 15, 16, 17, 18, 19, 20, 21, 22, 23, 24, 25, 26, 27, 28, 29, 30, 31, 32] ⟨(some 117), .fld 1 (.tmp 12), (some (114, true))⟩
  (.take 9 [10, 11, 13, 14, 15, 16, 17, 18, 19, 20, 21, 22, 23, 24, 25, 26, 27, 28, 29, 30, 31, 32] ⟨(some 118), .load none (.tmp 117), (some (114, true))⟩
  (.take 10 [11, 13, 14, 15, 16, 17, 18, 19, 20, 21, 22, 23, 24, 25, 26, 27, 28, 29, 30, 31, 32] ⟨(some 119), .idx 1 (.tmp 116) (.tmp 118), (some (114, true))⟩
  (.take 11 [13, 14, 15, 16, 17, 18, 19, 20, 21, 22, 23, 24, 25, 26, 27, 28, 29, 30, 31, 32] ⟨(some 120), .load none (.tmp 119), (some (114, true))⟩
  (.alt 12 ⟨(some 121), .call 32 [], (some (114, true))⟩ true
  (.take 13 [14, 15, 16, 17, 18, 19, 20, 21, 22, 23, 24, 25, 26, 27, 28, 29, 30, 31, 32] ⟨(some 122), .bin .lss false (.tmp 120) (.tmp 121), (some (114, true))⟩
  (.take 14 [15, 16, 17, 18, 19, 20, 21, 22, 23, 24, 25, 26, 27, 28, 29, 30, 31, 32] ⟨(some 123), .pick (.tmp 114) (.tmp 122) (.const (.bool false)), none⟩
  (.take 15 [16, 17, 18, 19, 20, 21, 22, 23, 24, 25, 26, 27, 28, 29, 30, 31, 32] ⟨(some 124), .mov (.tmp 123), none⟩
  (.take 16 [17, 20, 21, 24, 31, 32] ⟨(some 125), .fld 0 (.tmp 7), (some (124, true))⟩
  (.take 17 [20, 21, 24, 31, 32] ⟨(some 126), .load none (.tmp 125), (some (124, true))⟩
  (.take 18 [19, 20, 21, 24, 31, 32] ⟨(some 127), .fld 1 (.tmp 12), (some (124, true))⟩
  (.take 19 [20, 21, 24, 31, 32] ⟨(some 128), .load none (.tmp 127), (some (124, true))⟩
  (.take 20 [21, 24, 31, 32] ⟨(some 129), .idx 1 (.tmp 126) (.tmp 128), (some (124, true))⟩
  (.take 21 [24, 31, 32] ⟨(some 130), .load none (.tmp 129), (some (124, true))⟩
  (.take 22 [23, 24, 31, 32] ⟨(some 131), .fld 3 (.tmp 12), (some (124, true))⟩
  (.take 23 [24, 31, 32] ⟨(some 132), .load none (.tmp 131), (some (124, true))⟩
  (.take 24 [31, 32] ⟨(some 133), .bin .sub true (.tmp 130) (.tmp 132), (some (124, true))⟩
  (.take 25 [26, 29, 30, 31, 32] ⟨(some 134), .fld 0 (.tmp 7), (some (124, true))⟩
  (.take 26 [29, 30, 31, 32] ⟨(some 135), .load none (.tmp 134), (some (124, true))⟩
  (.take 27 [28, 29, 30, 31, 32] ⟨(some 136), .fld 0 (.tmp 12), (some (124, true))⟩
  (.take 28 [29, 30, 31, 32] ⟨(some 137), .load none (.tmp 136), (some (124, true))⟩
  (.take 29 [30, 31, 32] ⟨(some 138), .idx 1 (.tmp 135) (.tmp 137), (some (124, true))⟩
  (.take 30 [31, 32] ⟨(some 139), .load none (.tmp 138), (some (124, true))⟩
  (.take 31 [32] ⟨(some 140), .bin .lss false (.tmp 133) (.tmp 139), (some (124, true))⟩
  (.take 32 [] ⟨(some 141), .pick (.tmp 124) (.tmp 140) (.const (.bool false)), none⟩
  .done))))))))))))))))))))
  .none))))))))))))))
  (.cond (.tmp 141)
  (.seq
  (.tail 14 0 [
  ⟨(some 142), .fld 0 (.tmp 7), none⟩,
  ⟨(some 143), .load none (.tmp 142), none⟩,
  ⟨(some 144), .fld 0 (.tmp 12), none⟩,
  ⟨(some 145), .load none (.tmp 144), none⟩,
  ⟨(some 146), .fld 0 (.tmp 7), none⟩,
  ⟨(some 147), .load none (.tmp 146), none⟩,
  ⟨(some 148), .fld 1 (.tmp 12), none⟩,
  ⟨(some 149), .load none (.tmp 148), none⟩,
  ⟨(some 150), .idx 1 (.tmp 147) (.tmp 149), none⟩,
  ⟨(some 151), .load none (.tmp 150), none⟩,
  ⟨(some 152), .fld 3 (.tmp 12), none⟩,
  ⟨(some 153), .load none (.tmp 152), none⟩,
  ⟨(some 154), .bin .sub true (.tmp 151) (.tmp 153), none⟩,
  ⟨(some 155), .idx 1 (.tmp 143) (.tmp 145), none⟩,
  ⟨none, .store 1 (.tmp 155) (.tmp 154), none⟩])
  (.seq
  (.reg 0 [
  ⟨(some 156), .fld 1 (.tmp 7), none⟩,
  ⟨(some 157), .load none (.tmp 156), none⟩,
  ⟨(some 158), .fld 0 (.tmp 12), none⟩,
  ⟨(some 159), .load none (.tmp 158), none⟩,
  ⟨(some 160), .mov (.tmp 11), none⟩,
  ⟨(some 161), .neg (.tmp 160), none⟩,
  ⟨(some 162), .bin .sub true (.tmp 161) (.const (.int .i64 1)), none⟩,
  ⟨(some 163), .idx 1 (.tmp 157) (.tmp 159), none⟩,
  ⟨none, .store 1 (.tmp 163) (.tmp 162), none⟩])
  (.reg 0 [
  ⟨(some 10), .mov (.const (.bool true)), none⟩])))
  .skip))
def c31m : LCode :=
  .seq
  (.seq
  (.reg 0 [
  ⟨(some 41), .mov (.tmp 11), none⟩,
  ⟨(some 42), .fld 1 (.tmp 3), none⟩,
  ⟨(some 43), .load none (.tmp 42), none⟩,
  ⟨(some 44), .len (.tmp 43), none⟩,
  ⟨(some 45), .bin .lss false (.tmp 41) (.tmp 44), none⟩])
  (.cond (.tmp 45)
  .skip
  (.exit 4)))
  (.seq
  (.block 5
  (.seq
  (.reg 1 [
  ⟨(some 48), .fld 1 (.tmp 3), none⟩,
  ⟨(some 49), .load none (.tmp 48), none⟩,
  ⟨(some 50), .mov (.tmp 11), none⟩,
  ⟨(some 51), .idx 4 (.tmp 49) (.tmp 50), none⟩,
  ⟨(some 52), .load (some 4) (.tmp 51), none⟩,
  ⟨(some 12), .alloc 0 (.agg #[.int .i64 0, .int .i64 0, .int .i64 0, .int .i64 0]), none⟩,
  ⟨none, .store 4 (.tmp 12) (.tmp 52), none⟩])
  (.seq
  c31a
  c31b)))
  (.reg 0 [
  ⟨(some 46), .mov (.tmp 11), none⟩,
  ⟨(some 47), .bin .add true (.tmp 46) (.const (.int .i64 1)), none⟩,
  ⟨(some 11), .mov (.tmp 47), none⟩]))
theorem c31l2_eq : c31l2 = c31m := rfl
section
variable {N : Nat} {arcs : List Arc} {x : List Int} {p : Nat → Int} {s : Nat} {hV : Val N arcs} {hs : s < N} {hn : NN arcs x p}
def hpW (N : Nat) (arcs : List Arc) (g : List Int × List Int) (tl : List Blk) : List Blk :=
  [.var [.i N, .ro 4 (arcs.map Arc.enc)], .var [.nil, .nil], .var [.sl 3 0 N, .sl 4 0 N], .arr 1 (g.1.map encI), .arr 1 (g.2.map encI)] ++ tl
structure EW (x : List Int) (k r : Nat) (ch : Bool) (e : Env) : Prop where
  e2 : get e 2 = .bro 1 (x.map encI)
  e3 : get e 3 = .ptr 0 0 0
  e6 : get e 6 = .ptr 1 0 0
  e7 : get e 7 = .ptr 2 0 0
  e9 : get e 9 = .i r
  e10 : get e 10 = .b ch
  e11 : get e 11 = .i k
  e12 : get e 12 = .ptr 5 0 0
theorem call32 {cx : Cx} {e : Env} {h : List Blk} {b : Nat} {K : V → St → Prop} (hc : cx.C = C0 Try.prog) (hf : cx.fx = []) (hk : K (.i 1152921504606846976) ⟨e, h, b⟩) : callP cx 32 [] ⟨e, h, b⟩ K :=
  call_is (by rw [hc]; exact ok32) (by simp [lendsOk, lends, wkL]) rfl (by rw [hf]; trivial) hk
theorem half1 (hN : N ≤ 64) (hx : XB arcs x) {k r : Nat} {ch : Bool} {g : List Int × List Int} (hk : k < arcs.length) (hr : r ≤ 64) (hI : WI (grW N arcs x p s hV hs hn) N r (2 * k) ch g) {e : Env} {b : Nat} (he : EW x k r ch e) {NX RR : St → Prop} {X : Nat → St → Prop}
    (hN2 : ∀ ch' g' e' b', WI (grW N arcs x p s hV hs hn) N r (2 * k + 1) ch' g' → EW x k r ch' e' → NX ⟨e', hpW N arcs g' [.var [.i (arcs[k]).from_, .i (arcs[k]).to, .i (arcs[k]).cap, .i (arcs[k]).cost]], b'⟩) :
    aw (cxN Try.prog []) c31a NX X RR ⟨e, hpW N arcs g [.var [.i (arcs[k]).from_, .i (arcs[k]).to, .i (arcs[k]).cap, .i (arcs[k]).cost]], b⟩ := by
  obtain ⟨D, L⟩ := g
  have e2 := he.e2; have e3 := he.e3; have e6 := he.e6; have e7 := he.e7; have e9 := he.e9; have e10 := he.e10; have e11 := he.e11; have e12 := he.e12
  obtain ⟨⟨a1, a2⟩, ⟨b1, b2⟩, hne, hcap, hcost⟩ := hV.ha arcs[k] (List.getElem_mem hk)
  have hga := gA_at hk
  have hxk := hx.hb k hk
  have hxl : k < x.length := by rw [hx.hl]; exact hk
  have hxe : x.getD k 0 = x[k] := getD_nat hxl
  have hDl := hI.l1
  have hLl := hI.l2
  have hal := hV.hl
  simp only at hDl hLl
  have hsrc : wsrc arcs (2 * k) = (arcs[k]).from_.toNat := by unfold wsrc; rw [if_pos (by omega), show 2 * k / 2 = k by omega, hga]
  have hdst : wdst arcs (2 * k) = (arcs[k]).to.toNat := by unfold wdst; rw [if_pos (by omega), show 2 * k / 2 = k by omega, hga]
  have hcst : wcst arcs (2 * k) = (arcs[k]).cost := by unfold wcst; rw [if_pos (by omega), show 2 * k / 2 = k by omega, hga]
  have hres : wres arcs x (2 * k) ↔ x[k] < (arcs[k]).cap := by
    unfold wres wrm
    rw [if_pos (by omega), show 2 * k / 2 = k by omega, hga, hxe]
    exact ⟨fun h => by omega, fun h => ⟨hk, by omega⟩⟩
  have hDf : D.getD (wsrc arcs (2 * k)) 0 = D[(arcs[k]).from_.toNat]'(by omega) := by rw [hsrc]; exact getD_nat (by omega)
  have hDt : D.getD (wdst arcs (2 * k)) 0 = D[(arcs[k]).to.toNat]'(by omega) := by rw [hdst]; exact getD_nat (by omega)
  have hb1 := wlab_b hN hI.bf.lab (u := wsrc arcs (2 * k)) (by rw [hsrc]; omega)
  have hsk := fun h => hI.skip hN hr h
  have hrl := fun h1 h2 h3 => hI.relax (j := 2 * k) (z := (k : Int) + 1) h1 h2 h3 (wayL_f k)
  simp only [hDf, hDt, hcst, hres] at hb1 hsk hrl
  rw [hdst] at hrl
  have hfv : farW = 1152921504606846976 := rfl
  unfold c31a hpW
  unfold hpW at hN2
  simp -implicitDefEqProofs only [qa, qb, qc, qd, qe, qw, rdK, qx, qy, qz, qA, qB, qD, qE, qI, qJ, qR, qS, qV, qX, qY, qZ, zD, zH, zJ, zK, zN, ofConst, List.length_nil, List.length_cons, zO, List.getD_eq_getElem?_getD, List.getElem?_cons_zero, ↓reduceIte, Nat.reduceEqDiff, Option.getD_some, zP, arrSz, zR, Bool.not_true, ↓zS, ↓zT, zU, List.nil_append, List.cons_append, List.append_nil, Nat.zero_add, Nat.reduceAdd, Nat.add_zero, List.map_nil, Bool.and_true, true_and, and_true, List.length_map, lg0, lg1, lg2, lg3, lg4, jq, ↓jr, ↓ju, ↓jv, ↓jx, ↓jy, ↓jA, ↓jG, ↓jI, ↓jK, ↓qaT, List.length_map, List.getElem_map, encI_0, Int.toNat_natCast, cxN, e2, e7, e11, e12]
  simp only [br, decide_eq_true_eq, decide_eq_false_iff_not]
  refine ⟨⟨by omega, by omega⟩, hxl, fun h1 => ⟨⟨by omega, by omega⟩, by omega, ?_⟩, fun h1 => ?_⟩
  · refine call32 rfl rfl ?_
    simp -implicitDefEqProofs only [qa, qb, qc, qd, qe, qw, rdK, qy, qA, qB, qE, qF, qG, qI, qJ, qO, qP, qR, qS, qV, qW, qX, qY, qZ, zH, zI, zJ, zK, zN, ofConst, cells?, List.length_nil, List.length_cons, List.set_cons_zero, splice, zO, List.getD_eq_getElem?_getD, List.getElem?_cons_zero, ↓reduceIte, Nat.reduceEqDiff, Option.getD_some, zP, arrSz, zR, Bool.not_true, ↓zS, ↓zT, zU, List.nil_append, List.append_nil, Nat.zero_add, Nat.reduceAdd, Nat.add_zero, List.take_zero, List.all_cons, List.all_nil, isD, isC, Bool.and_true, Bool.and_self, true_and, and_true, and_self, List.not_mem_nil, List.length_map, not_false_eq_true, Nat.le_refl, lg0, zY, lg1, kg, lg2, kk, lg3, kr, lg4, jq, ↓jr, ↓ju, ↓jx, ↓jy, ↓jA, ↓jC, ↓jE, ↓jG, ↓jI, ↓qaL, ↓qaT, List.length_map, List.getElem_map, encI_0, encI_drop, e7, e11, e12]
    simp only [br, decide_eq_true_eq, decide_eq_false_iff_not]
    refine ⟨fun h2 => ⟨⟨by omega, by omega⟩, by omega, by simp only [lo, hi]; omega, ⟨by omega, by omega⟩, by omega, fun h3 => ⟨⟨by omega, by omega⟩, by omega, by simp only [lo, hi]; omega, ⟨by omega, by omega⟩, by omega, by simp only [lo, hi]; omega, ⟨by omega, by omega⟩, by omega, ?_⟩, fun h3 => ?_⟩, fun h2 => ?_⟩
    · rw [encI_set, encI_set]
      exact hN2 true (_, _) _ _ (hrl h1 h2 h3) ⟨e2, e3, e6, e7, e9, rfl, e11, e12⟩
    · exact hN2 ch (D, L) _ _ (hsk fun _ _ => by omega) ⟨e2, e3, e6, e7, e9, e10, e11, e12⟩
    · exact hN2 ch (D, L) _ _ (hsk fun _ h => absurd h h2) ⟨e2, e3, e6, e7, e9, e10, e11, e12⟩
  · exact hN2 ch (D, L) _ _ (hsk fun h _ => absurd h h1) ⟨e2, e3, e6, e7, e9, e10, e11, e12⟩
theorem half2 (hN : N ≤ 64) (hx : XB arcs x) {k r : Nat} {ch : Bool} {g : List Int × List Int} (hk : k < arcs.length) (hr : r ≤ 64) (hI : WI (grW N arcs x p s hV hs hn) N r (2 * k + 1) ch g) {e : Env} {b : Nat} (he : EW x k r ch e) {NX RR : St → Prop} {X : Nat → St → Prop}
    (hN2 : ∀ ch' g' e' b', WI (grW N arcs x p s hV hs hn) N r (2 * k + 1 + 1) ch' g' → EW x k r ch' e' → NX ⟨e', hpW N arcs g' [.var [.i (arcs[k]).from_, .i (arcs[k]).to, .i (arcs[k]).cap, .i (arcs[k]).cost]], b'⟩) :
    aw (cxN Try.prog []) c31b NX X RR ⟨e, hpW N arcs g [.var [.i (arcs[k]).from_, .i (arcs[k]).to, .i (arcs[k]).cap, .i (arcs[k]).cost]], b⟩ := by
  obtain ⟨D, L⟩ := g
  have e2 := he.e2; have e3 := he.e3; have e6 := he.e6; have e7 := he.e7; have e9 := he.e9; have e10 := he.e10; have e11 := he.e11; have e12 := he.e12
  obtain ⟨⟨a1, a2⟩, ⟨b1, b2⟩, hne, hcap, hcost⟩ := hV.ha arcs[k] (List.getElem_mem hk)
  have hga := gA_at hk
  have hxk := hx.hb k hk
  have hxl : k < x.length := by rw [hx.hl]; exact hk
  have hxe : x.getD k 0 = x[k] := getD_nat hxl
  have hDl := hI.l1
  have hLl := hI.l2
  have hal := hV.hl
  simp only at hDl hLl
  have hsrc : wsrc arcs (2 * k + 1) = (arcs[k]).to.toNat := by unfold wsrc; rw [if_neg (by omega), show (2 * k + 1) / 2 = k by omega, hga]
  have hdst : wdst arcs (2 * k + 1) = (arcs[k]).from_.toNat := by unfold wdst; rw [if_neg (by omega), show (2 * k + 1) / 2 = k by omega, hga]
  have hcst : wcst arcs (2 * k + 1) = -(arcs[k]).cost := by unfold wcst; rw [if_neg (by omega), show (2 * k + 1) / 2 = k by omega, hga]
  have hres : wres arcs x (2 * k + 1) ↔ 0 < x[k] := by
    unfold wres wrm
    rw [if_neg (by omega), show (2 * k + 1) / 2 = k by omega, hxe]
    exact ⟨fun h => h.2, fun h => ⟨hk, h⟩⟩
  have hDf : D.getD (wsrc arcs (2 * k + 1)) 0 = D[(arcs[k]).to.toNat]'(by omega) := by rw [hsrc]; exact getD_nat (by omega)
  have hDt : D.getD (wdst arcs (2 * k + 1)) 0 = D[(arcs[k]).from_.toNat]'(by omega) := by rw [hdst]; exact getD_nat (by omega)
  have hb1 := wlab_b hN hI.bf.lab (u := wsrc arcs (2 * k + 1)) (by rw [hsrc]; omega)
  have hsk := fun h => hI.skip hN hr h
  have hrl := fun h1 h2 h3 => hI.relax (j := 2 * k + 1) (z := -(k : Int) - 1) h1 h2 h3 (wayL_b k)
  simp only [hDf, hDt, hcst, hres, ← Int.sub_eq_add_neg] at hb1 hsk hrl
  rw [hdst] at hrl
  have hkw : IntKind.wrap .i64 (-(k : Int)) = -(k : Int) := wrap_in .i64 _ (by simp only [lo, hi]; omega)
  have hfv : farW = 1152921504606846976 := rfl
  unfold c31b hpW
  unfold hpW at hN2
  simp -implicitDefEqProofs only [qa, qb, qc, qd, qe, qw, rdK, qx, qy, qz, qA, qB, qD, qE, qI, qJ, qR, qS, qV, qX, qY, qZ, zD, zH, zJ, zK, zN, ofConst, List.length_nil, List.length_cons, zO, List.getD_eq_getElem?_getD, List.getElem?_cons_zero, ↓reduceIte, Nat.reduceEqDiff, Option.getD_some, zP, arrSz, zR, Bool.not_true, ↓zS, ↓zT, zU, List.nil_append, List.cons_append, List.append_nil, Nat.zero_add, Nat.reduceAdd, Nat.add_zero, List.map_nil, Bool.and_true, true_and, and_true, List.length_map, lg0, lg1, lg2, lg3, lg4, jq, ↓jr, ↓ju, ↓jv, ↓jx, ↓jy, ↓jA, ↓jG, ↓jI, ↓jK, ↓qaV, List.length_map, List.getElem_map, encI_0, Int.toNat_natCast, cxN, e2, e7, e11, e12]
  simp only [br, decide_eq_true_eq, decide_eq_false_iff_not]
  refine ⟨⟨by omega, by omega⟩, hxl, fun h1 => ⟨⟨by omega, by omega⟩, by omega, ?_⟩, fun h1 => ?_⟩
  · refine call32 rfl rfl ?_
    simp -implicitDefEqProofs only [qa, qb, qc, qd, qe, qw, rdK, qy, qA, qB, qE, qF, qG, qI, qJ, qO, qP, qR, qS, qV, qW, qX, qY, qZ, ze, zH, zI, zJ, zK, zN, ofConst, cells?, List.length_nil, List.length_cons, List.set_cons_zero, splice, zO, List.getD_eq_getElem?_getD, List.getElem?_cons_zero, ↓reduceIte, Nat.reduceEqDiff, Option.getD_some, zP, arrSz, zR, Bool.not_true, ↓zS, ↓zT, zU, List.nil_append, List.append_nil, Nat.zero_add, Nat.reduceAdd, Nat.add_zero, List.take_zero, List.all_cons, List.all_nil, isD, isC, Bool.and_true, Bool.and_self, true_and, and_true, and_self, List.not_mem_nil, List.length_map, not_false_eq_true, Nat.le_refl, lg0, zY, lg1, kg, lg2, kk, lg3, kr, lg4, jq, ↓jr, ↓ju, ↓jx, ↓jy, ↓jA, ↓jC, ↓jE, ↓jG, ↓jI, ↓qaN, ↓qaT, List.length_map, List.getElem_map, encI_0, encI_drop, e7, e11, e12, hkw]
    simp only [br, decide_eq_true_eq, decide_eq_false_iff_not]
    refine ⟨fun h2 => ⟨⟨by omega, by omega⟩, by omega, by simp only [lo, hi]; omega, ⟨by omega, by omega⟩, by omega, fun h3 => ⟨⟨by omega, by omega⟩, by omega, by simp only [lo, hi]; omega, ⟨by omega, by omega⟩, by omega, by simp only [lo, hi]; omega, ⟨by omega, by omega⟩, by omega, ?_⟩, fun h3 => ?_⟩, fun h2 => ?_⟩
    · rw [encI_set, encI_set]
      exact hN2 true (_, _) _ _ (hrl h1 h2 h3) ⟨e2, e3, e6, e7, e9, rfl, e11, e12⟩
    · exact hN2 ch (D, L) _ _ (hsk fun _ _ => by omega) ⟨e2, e3, e6, e7, e9, e10, e11, e12⟩
    · exact hN2 ch (D, L) _ _ (hsk fun _ h => absurd h h2) ⟨e2, e3, e6, e7, e9, e10, e11, e12⟩
  · exact hN2 ch (D, L) _ _ (hsk fun h _ => absurd h h1) ⟨e2, e3, e6, e7, e9, e10, e11, e12⟩
end
end Go.Fx.C
namespace Go.Fx.C
open Go Go.Fx Go.Proofs
set_option maxRecDepth 20000
section
variable {N : Nat} {arcs : List Arc} {x : List Int} {p : Nat → Int} {s : Nat} {hV : Val N arcs} {hs : s < N} {hn : NN arcs x p}
abbrev patW2 (N : Nat) (arcs : List Arc) (x : List Int) (r : Nat) (g : Nat × Bool × List Int × List Int) : St :=
  ⟨[(11, .i g.1), (10, .b g.2.1), (9, .i r), (7, .ptr 2 0 0), (6, .ptr 1 0 0), (3, .ptr 0 0 0), (2, .bro 1 (x.map encI))], hpW N arcs g.2.2 [], 0⟩
theorem bodyW2 (hN : N ≤ 64) (hx : XB arcs x) {r : Nat} (hr : r ≤ 64) {RR : St → Prop} {X : Nat → St → Prop}
    (hX : ∀ (g : Nat × Bool × List Int × List Int), WI (grW N arcs x p s hV hs hn) N r (2 * arcs.length) g.2.1 g.2.2 → g.1 = arcs.length → ∀ e b, get e 10 = .b g.2.1 → get e 9 = .i r → get e 7 = .ptr 2 0 0 → get e 6 = .ptr 1 0 0 → get e 3 = .ptr 0 0 0 → get e 2 = .bro 1 (x.map encI) → X 4 ⟨e, hpW N arcs g.2.2 [], b⟩)
    (g : Nat × Bool × List Int × List Int) (hg : g.1 ≤ arcs.length ∧ WI (grW N arcs x p s hV hs hn) N r (2 * g.1) g.2.1 g.2.2) :
    aw (cxN Try.prog []) c31l2 (fun s' => ∃ g' : Nat × Bool × List Int × List Int, ((g'.1 ≤ arcs.length ∧ WI (grW N arcs x p s hV hs hn) N r (2 * g'.1) g'.2.1 g'.2.2) ∧ arcs.length - g'.1 < arcs.length - g.1) ∧ leS [] s' (patW2 N arcs x r g')) X RR (patW2 N arcs x r g) := by
  obtain ⟨k, ch, D, L⟩ := g
  obtain ⟨hk, hI⟩ := hg
  simp only at hk hI
  have hal := hV.hl
  rw [c31l2_eq]
  unfold c31m patW2
  rcases Nat.lt_or_ge k arcs.length with h | h
  · have hd : decide ((k : Int) < arcs.length) = true := decide_eq_true (by omega)
    have hee : (arcs[k]).enc = [.i (arcs[k]).from_, .i (arcs[k]).to, .i (arcs[k]).cap, .i (arcs[k]).cost] := rfl
    unfold hpW
    simp -implicitDefEqProofs only [qE, qF, qI, qJ, qK, qO, qP, qR, qU, qV, qW, qX, qY, qZ, zb, zH, zI, zJ, zN, ofConst, cells?, List.length_nil, List.length_cons, List.set_cons_zero, splice, zO, List.getD_eq_getElem?_getD, List.getElem?_cons_zero, ↓reduceIte, Nat.reduceEqDiff, Option.getD_some, zP, zR, ↓zS, List.nil_append, List.cons_append, List.append_nil, Nat.zero_add, Nat.reduceAdd, Nat.add_zero, freshP, List.map_cons, List.map_nil, List.drop_zero, List.take_zero, List.take_nil, List.drop_nil, List.all_cons, List.all_nil, isC, Bool.and_true, Bool.and_self, true_and, and_true, and_self, List.not_mem_nil, List.length_map, not_false_eq_true, Nat.le_refl, lg0, zY, zZ, ka, kc, lg1, kg, kh, ki, lg2, kk, kn, ko, lg3, kr, kw, kx, lg4, kz, jq, ↓jr, ↓ju, ↓jv, ↓jx, ↓jA, ↓jB, ↓jC, ↓jD, ↓jG, ↓jJ, ↓jO, ↓qaT, List.length_map, List.getElem_map, Int.toNat_natCast, cxN, hd, hee, List.cons_append, List.nil_append]
    refine fun _ => ⟨⟨by omega, by omega⟩, h, ?_⟩
    refine half1 hN hx h hr hI (g := (D, L)) ⟨rfl, rfl, rfl, rfl, rfl, rfl, rfl, rfl⟩ fun ch1 g1 e1 b1 hI1 he1 => ?_
    refine half2 hN hx h hr hI1 he1 fun ch2 g2 e2 b2 hI2 he2 => ?_
    have q2 := he2.e2; have q3 := he2.e3; have q6 := he2.e6; have q7 := he2.e7; have q9 := he2.e9; have q10 := he2.e10; have q11 := he2.e11
    unfold hpW
    simp -implicitDefEqProofs only [qF, qO, qP, qR, qZ, zH, zJ, zK, zN, ofConst, List.length_nil, List.length_cons, List.getElem?_cons_zero, ↓reduceIte, Nat.reduceEqDiff, zP, List.nil_append, List.cons_append, List.append_nil, Nat.zero_add, Nat.reduceAdd, zX, leE, leH, leB, leV, leVs, keepP, liveP, wfE, wfB, wfV, wfL, Bool.and_true, Bool.and_self, true_and, and_true, and_self, V.v.injEq, Value.int.injEq, Value.bool.injEq, lg0, lg1, lg2, lg3, jq, ↓qaL, q2, q3, q6, q7, q9, q10, q11, List.cons_append, List.nil_append]
    refine ⟨by simp only [lo, hi]; omega, (k + 1, ch2, g2), ⟨⟨by simp only; omega, hI2⟩, by simp only; omega⟩, ?_⟩
    simp -implicitDefEqProofs only [Bool.and_true, Bool.and_self, and_true, and_self]
    trivial
  · have hd : decide ((k : Int) < arcs.length) = false := decide_eq_false (by omega)
    have hke : k = arcs.length := by omega
    subst hke
    have := hX (arcs.length, ch, D, L) hI rfl
    unfold hpW at this ⊢
    simp -implicitDefEqProofs only [qF, qI, qJ, qM, qO, qP, qR, qV, qX, qZ, zb, zH, zJ, zN, List.length_nil, List.length_cons, zO, List.getD_eq_getElem?_getD, List.getElem?_cons_zero, ↓reduceIte, Nat.reduceEqDiff, Option.getD_some, zP, zR, ↓zT, List.append_nil, Nat.zero_add, Nat.reduceAdd, true_and, List.length_map, lg0, jq, ↓jr, ↓ju, ↓jx, ↓jA, ↓jG, ↓jO, ↓qaT, List.length_map, cxN, hd]
    exact fun _ => this _ _ rfl rfl rfl rfl rfl rfl
structure WQ (G : Lb.Gr) (N : Nat) (g : List Int × List Int) : Prop where
  bf : Lb.BF G farW (fun u => g.1.getD u 0) (fun u => wayL (g.2.getD u 0))
  cl : Lb.Cl G farW (fun u => g.1.getD u 0)
  l1 : g.1.length = N
  l2 : g.2.length = N
structure WR (G : Lb.Gr) (N : Nat) (r : Nat) (g : List Int × List Int) : Prop where
  bf : Lb.BF G farW (fun u => g.1.getD u 0) (fun u => wayL (g.2.getD u 0))
  rd : Lb.Rd G (fun u => g.1.getD u 0) r
  l1 : g.1.length = N
  l2 : g.2.length = N
abbrev patW1 (N : Nat) (arcs : List Arc) (x : List Int) (g : Nat × List Int × List Int) : St :=
  ⟨[(9, .i g.1), (7, .ptr 2 0 0), (6, .ptr 1 0 0), (3, .ptr 0 0 0), (2, .bro 1 (x.map encI))], hpW N arcs g.2 [], 0⟩
theorem res_lt {i : Nat} (h : wres arcs x i) : i < 2 * arcs.length := by have := h.1; omega
theorem bodyW1 (hN : N ≤ 63) (hx : XB arcs x) {RR : St → Prop} {X : Nat → St → Prop}
    (hX : ∀ (g : List Int × List Int), WQ (grW N arcs x p s hV hs hn) N g → ∀ e b, get e 7 = .ptr 2 0 0 → get e 6 = .ptr 1 0 0 → X 2 ⟨e, hpW N arcs g [], b⟩)
    (hR : ∀ (g : List Int × List Int), WQ (grW N arcs x p s hV hs hn) N g → ∀ e b, get e 6 = .ptr 1 0 0 → RR ⟨e, (hpW N arcs g []).set 1 (.var [.sl 3 0 N, .sl 4 0 N]), b⟩)
    (g : Nat × List Int × List Int) (hg : g.1 ≤ N + 1 ∧ WR (grW N arcs x p s hV hs hn) N g.1 g.2) :
    aw (cxN Try.prog []) c31l1 (fun s' => ∃ g' : Nat × List Int × List Int, ((g'.1 ≤ N + 1 ∧ WR (grW N arcs x p s hV hs hn) N g'.1 g'.2) ∧ N + 1 - g'.1 < N + 1 - g.1) ∧ leS [] s' (patW1 N arcs x g')) X RR (patW1 N arcs x g) := by
  obtain ⟨r, D, L⟩ := g
  obtain ⟨hr, hI⟩ := hg
  simp only at hr hI
  unfold c31l1 patW1
  rcases Nat.lt_or_ge r (N + 1) with h | h
  · have hd : decide ((r : Int) ≤ N) = true := decide_eq_true (by omega)
    unfold hpW
    simp -implicitDefEqProofs only [qE, qF, qI, qJ, qK, qL, qO, qP, qR, qV, qX, qZ, zH, zJ, zK, zN, ofConst, List.length_nil, List.length_cons, zO, List.getD_eq_getElem?_getD, List.getElem?_cons_zero, ↓reduceIte, Nat.reduceEqDiff, Option.getD_some, zP, zR, ↓zS, List.append_nil, Nat.zero_add, Nat.reduceAdd, Nat.add_zero, true_and, jq, ↓jr, ↓ju, ↓jx, ↓jA, ↓jG, ↓qaU, cxN, hd]
    refine loopP_intro (patW2 N arcs x r) (fun g => g.1 ≤ arcs.length ∧ WI (grW N arcs x p s hV hs hn) N r (2 * g.1) g.2.1 g.2.2) (fun g => arcs.length - g.1) (0, false, D, L) ⟨Nat.zero_le _, hI.bf, .start hI.rd, hI.l1, hI.l2⟩ ?_ (bodyW2 (by omega) hx (by omega) ?_)
    · unfold patW2 hpW
      simp -implicitDefEqProofs only [zN, List.getElem?_cons_zero, ↓reduceIte, Nat.reduceEqDiff, List.append_nil, zX, leE, leH, leB, leV, leVs, keepP, liveP, wfE, wfB, wfV, wfL, Bool.and_self, and_self, lg0, lg1, lg2, lg3, Int.natCast_zero]
    · rintro ⟨k, ch, D2, L2⟩ hI2 hk e b q10 q9 q7 q6 q3 q2
      simp only at hI2 hk q10
      unfold hpW
      cases ch
      · have hq := hR (D2, L2) ⟨hI2.bf, hI2.ir.done fun i h => res_lt h, hI2.l1, hI2.l2⟩
        unfold hpW at hq
        simp -implicitDefEqProofs only [qF, qI, qJ, qN, qO, qP, qR, qV, qW, zd, zH, zI, zJ, zN, cells?, List.length_nil, List.length_cons, List.set_cons_zero, splice, zO, List.getD_eq_getElem?_getD, List.getElem?_cons_zero, ↓reduceIte, Nat.reduceEqDiff, Option.getD_some, zQ, zR, Bool.not_false, ↓zS, List.nil_append, List.append_nil, Nat.zero_add, Nat.reduceAdd, List.drop_zero, List.take_zero, List.take_nil, List.drop_nil, List.all_cons, List.all_nil, isC, Bool.and_true, Bool.and_self, true_and, and_true, and_self, List.not_mem_nil, not_false_eq_true, Nat.le_refl, lg0, zY, zZ, ka, lg1, kh, ki, jq, ↓jr, ↓ju, ↓jx, ↓jB, ↓jC, ↓jD, q10, q7, q6, List.nil_append] at hq ⊢
        exact hq _ _ q6
      · simp -implicitDefEqProofs only [qE, qF, qI, qJ, qO, qP, qR, qZ, zd, zH, zJ, zK, zN, ofConst, List.length_nil, List.length_cons, List.getElem?_cons_zero, ↓reduceIte, Nat.reduceEqDiff, zP, zQ, zR, Bool.not_true, ↓zT, List.append_nil, Nat.zero_add, Nat.reduceAdd, zX, leE, leH, leB, leV, leVs, keepP, liveP, wfE, wfB, wfV, wfL, Bool.and_true, Bool.and_self, true_and, and_true, and_self, V.v.injEq, Value.int.injEq, Value.bool.injEq, lg0, lg1, lg2, lg3, jq, ↓qaL, q10, q9, q7, q6, q3, q2]
        refine ⟨by simp only [lo, hi]; omega, (r + 1, D2, L2), ⟨⟨by simp only; omega, hI2.bf, hI2.ir.next fun i h => res_lt h, hI2.l1, hI2.l2⟩, by simp only; omega⟩, ?_⟩
        simp -implicitDefEqProofs only [Bool.and_true, Bool.and_self, and_true, and_self]
        trivial
  · have hd : decide ((r : Int) ≤ N) = false := decide_eq_false (by omega)
    have := hX (D, L) ⟨hI.bf, Lb.rd_cl hI.bf.lab (by show N ≤ r + 1; omega) hI.rd, hI.l1, hI.l2⟩
    unfold hpW at this ⊢
    simp -implicitDefEqProofs only [qF, qI, qJ, qM, qO, qP, qR, qV, qX, qZ, zH, zJ, zN, List.length_nil, List.length_cons, zO, List.getD_eq_getElem?_getD, List.getElem?_cons_zero, ↓reduceIte, Nat.reduceEqDiff, Option.getD_some, zP, zR, ↓zT, List.append_nil, Nat.zero_add, Nat.reduceAdd, Nat.add_zero, true_and, jq, ↓jr, ↓ju, ↓jx, ↓jA, ↓jG, ↓qaU, cxN, hd]
    exact this _ _ rfl rfl
end
end Go.Fx.C
namespace Go.Fx.C
open Go Go.Fx Go.Proofs
set_option maxRecDepth 20000
section
variable {N : Nat} {arcs : List Arc} {x : List Int} {p : Nat → Int} {s : Nat} {hV : Val N arcs} {hs : s < N} {hn : NN arcs x p}
abbrev patW0 (N : Nat) (arcs : List Arc) (x : List Int) (s k : Nat) : St :=
  ⟨[(8, .i k), (7, .ptr 2 0 0), (6, .ptr 1 0 0), (3, .ptr 0 0 0), (2, .bro 1 (x.map encI)), (1, .i s)], [.var [.i N, .ro 4 (arcs.map Arc.enc)], .var [.nil, .nil], .var [.sl 3 0 k, .sl 4 0 k], .arr 1 ((List.replicate k farW).map encI), .arr 1 ((List.replicate k 0).map encI)], 0⟩
theorem repW_app {k : Nat} {z : Int} : List.take k ((List.replicate k z).map encI) ++ [[.i z]] = (List.replicate (k + 1) z).map encI := by
  rw [List.take_of_length_le (by simp), List.replicate_succ', List.map_append]; rfl
theorem bodyW0 (hN : N ≤ 64) {RR : St → Prop} {X : Nat → St → Prop}
    (hX : ∀ e b, get e 7 = .ptr 2 0 0 → get e 6 = .ptr 1 0 0 → get e 3 = .ptr 0 0 0 → get e 2 = .bro 1 (x.map encI) → get e 1 = .i s → X 0 ⟨e, (patW0 N arcs x s N).h, b⟩)
    (k : Nat) (hk : k ≤ N) :
    aw (cxN Try.prog []) c31l0 (fun s' => ∃ k' : Nat, (k' ≤ N ∧ N - k' < N - k) ∧ leS [] s' (patW0 N arcs x s k')) X RR (patW0 N arcs x s k) := by
  unfold c31l0 patW0
  rcases Nat.lt_or_ge k N with h | h
  · have hd : decide ((k : Int) < N) = true := decide_eq_true (by omega)
    simp -implicitDefEqProofs only [qc, qw, rdK, qx, qz, qA, qC, qE, qF, qI, qJ, qK, qO, qP, qR, qV, qX, qZ, zD, zH, zJ, zN, List.length_nil, List.length_cons, zO, List.getD_eq_getElem?_getD, List.getElem?_cons_zero, ↓reduceIte, Nat.reduceEqDiff, Option.getD_some, zP, zR, ↓zS, List.nil_append, List.cons_append, List.append_nil, Nat.zero_add, Nat.reduceAdd, Nat.add_zero, List.map_nil, Bool.and_true, true_and, and_true, lg0, kc, lg1, kj, jq, ↓jr, ↓ju, ↓jx, ↓jA, ↓jG, ↓qaT, cxN, hd]
    refine call_is ok32 (by simp [lendsOk, lends, wkL]) rfl trivial ?_
    simp -implicitDefEqProofs only [qc, qy, qz, qA, qC, qF, qO, qP, qR, qV, qW, qX, qZ, zp, zr, zH, zI, zJ, zK, zN, ofConst, cells?, List.length_nil, List.length_cons, List.set_cons_zero, splice, zO, List.getD_eq_getElem?_getD, List.getElem?_cons_zero, ↓reduceIte, Nat.reduceEqDiff, Option.getD_some, zP, List.nil_append, List.cons_append, List.append_nil, Nat.zero_add, Nat.reduceAdd, Nat.add_zero, reduceCtorEq, freshP, litsP, zX, leE, leH, leB, leV, leVs, keepP, liveP, wfE, wfB, wfV, wfL, killE, killB, kill, kills, St.kill, List.map_cons, List.map_nil, List.drop_zero, List.take_zero, List.take_nil, List.drop_nil, List.all_cons, List.all_nil, isD, isC, Bool.and_true, Bool.and_self, true_and, and_true, and_self, V.v.injEq, Value.int.injEq, Value.bool.injEq, List.mem_cons, List.not_mem_nil, or_false, false_or, List.length_map, List.length_replicate, not_false_eq_true, Bool.false_eq_true, Nat.reduceLT, Nat.reduceLeDiff, Nat.le_refl, lg0, zY, zZ, ka, kc, lg1, kg, kh, kj, lg2, kk, lg3, kr, lg4, kz, lg5, kD, lg6, kI, jq, ↓jr, ↓ju, ↓jx, ↓jA, ↓jC, ↓jD, ↓jG, ↓jY, ↓jZ, ↓qap, ↓qaq, ↓qaL, List.length_map]
    refine ⟨by omega, by omega, by simp only [lo, hi]; omega, k + 1, ⟨by omega, by omega⟩, by simp, ⟨rfl, rfl⟩, ?_, ?_⟩
    · rw [← repW_app]
    · rw [← repW_app]
  · have hd : decide ((k : Int) < N) = false := decide_eq_false (by omega)
    have hke : k = N := by omega
    subst hke
    simp -implicitDefEqProofs only [qF, qI, qJ, qM, qO, qP, qR, qV, qX, qZ, zH, zJ, zN, List.length_nil, List.length_cons, zO, List.getD_eq_getElem?_getD, List.getElem?_cons_zero, ↓reduceIte, Nat.reduceEqDiff, Option.getD_some, zP, zR, ↓zT, List.append_nil, Nat.zero_add, Nat.reduceAdd, Nat.add_zero, true_and, jq, ↓jr, ↓ju, ↓jx, ↓jA, ↓jG, ↓qaT, cxN, hd]
    exact hX _ _ rfl rfl rfl rfl rfl
theorem WR.start : WR (grW N arcs x p s hV hs hn) N 0 ((List.replicate N farW).set s 0, List.replicate N 0) := by
  have hsl : s < (List.replicate N farW).length := by simpa using hs
  have hge : ∀ u, u < N → ((List.replicate N farW).set s 0).getD u 0 = if u = s then 0 else farW := by
    intro u hu
    rw [getD_set hsl]
    split
    · rfl
    · rw [List.getD_eq_getElem?_getD, List.getElem?_replicate, if_pos hu]; rfl
  have hss : ((List.replicate N farW).set s 0).getD s 0 = 0 := by rw [hge s hs, if_pos rfl]
  refine ⟨⟨⟨hss, fun v hv => ?_⟩, fun v hv hvs hF => ?_, fun v hv hF => ?_⟩, fun v l h hl => ?_, by simp, by simp⟩
  · by_cases e : v = s
    · right
      subst e
      exact ⟨by simp only; rw [hss]; decide, [], rfl, hss.symm, by simp [Lb.vs], by show ((List.replicate N farW).set v 0).getD v 0 ≤ 0; rw [hss]; exact Int.le_refl _⟩
    · left
      show ((List.replicate N farW).set s 0).getD v 0 = farW
      rw [hge v hv, if_neg e]
  · have hvs : ¬ v = s := hvs
    have hF : ((List.replicate N farW).set s 0).getD v 0 < farW := hF
    rw [hge v hv, if_neg hvs] at hF
    exact absurd hF (Int.lt_irrefl _)
  · have hF : ((List.replicate N farW).set s 0).getD v 0 < farW := hF
    by_cases e : v = s
    · exact ⟨[], e⟩
    · rw [hge v hv, if_neg e] at hF
      exact absurd hF (Int.lt_irrefl _)
  · cases l with
    | nil =>
      have h : v = s := h
      subst h
      show ((List.replicate N farW).set v 0).getD v 0 ≤ 0
      rw [hss]; exact Int.le_refl _
    | cons i l => simp at hl
theorem ok31 (hN : N ≤ 63) (hx : XB arcs x) : Ok 31 [net N arcs, .i s, .bro 1 (x.map encI)] (IsQ (WQ (grW N arcs x p s hV hs hn) N) (fun _ => .agg [.sl 3 0 N, .sl 4 0 N]) (fun g => [.dead, .dead, .dead, .arr 1 (g.1.map encI), .arr 1 (g.2.map encI)])) := by
  refine ok_of lw31 (by simp) ?_
  unfold c31 net
  simp -implicitDefEqProofs only [qF, qI, qK, qL, qO, qP, qR, qT, qU, qW, zk, zH, zI, zJ, zK, zN, ofConst, cells?, List.length_nil, List.length_cons, List.set_cons_zero, splice, zO, List.getD_eq_getElem?_getD, List.getElem?_cons_zero, ↓reduceIte, Nat.reduceEqDiff, Option.getD_some, List.nil_append, List.cons_append, List.append_nil, Nat.zero_add, Nat.reduceAdd, Nat.add_zero, freshP, buildP, List.map_cons, List.map_nil, List.take_zero, List.drop_nil, List.all_cons, List.all_nil, isC, Bool.and_true, Bool.and_self, true_and, and_true, and_self, List.not_mem_nil, not_false_eq_true, Nat.le_refl, lg0, zY, zZ, kc, lg1, kg, kh, kj, jq, ↓jr, ↓jC, ↓jD, cxN, args0]
  refine loopP_ghost (.virt 2 1 (by decide) (.nilB 2 [.nil, .nil] [.sl 3 0 0, .sl 4 0 0] rfl ⟨rfl, fun i a b h1 h2 => ?_⟩ (.refl _))) (patW0 N arcs x s) (fun k => k ≤ N) (fun k => N - k) 0 (Nat.zero_le _) ?_ (bodyW0 (by omega) fun e b g7 g6 g3 g2 g1 => ?_)
  · match i with
    | 0 => simp at h1 h2; subst h1 h2; exact .inr ⟨rfl, _, rfl⟩
    | 1 => simp at h1 h2; subst h1 h2; exact .inr ⟨rfl, _, rfl⟩
    | i + 2 => simp at h1
  · unfold patW0
    simp -implicitDefEqProofs only [zN, List.set_cons_zero, List.getElem?_cons_zero, ↓reduceIte, Nat.reduceEqDiff, List.nil_append, List.cons_append, reduceCtorEq, zX, leE, leH, leB, leV, leVs, keepP, liveP, wfE, wfB, wfV, wfL, List.map_nil, Bool.and_self, and_self, lg0, zY, kc, lg1, kg, kj, lg2, lg3, jq, List.map_nil, Int.natCast_zero]
  · unfold patW0
    simp -implicitDefEqProofs only [qF, qI, qK, qL, qO, qP, qR, qV, qW, qX, qY, zH, zI, zJ, zK, zN, ofConst, cells?, List.length_nil, List.length_cons, List.set_cons_zero, splice, zO, List.getD_eq_getElem?_getD, List.getElem?_cons_zero, ↓reduceIte, Nat.reduceEqDiff, Option.getD_some, zP, arrSz, List.nil_append, List.append_nil, Nat.zero_add, Nat.reduceAdd, Nat.add_zero, List.take_zero, List.all_cons, List.all_nil, isD, isC, Bool.and_true, Bool.and_self, true_and, and_true, and_self, List.not_mem_nil, List.length_map, List.length_replicate, not_false_eq_true, Nat.le_refl, lg0, zY, lg1, kg, lg2, kk, jq, ↓jr, ↓ju, ↓jx, ↓jA, ↓jC, ↓jE, ↓jG, ↓jI, List.length_map, List.getElem_map, Int.toNat_natCast, encI_drop, g7, g1]
    refine ⟨⟨by omega, by omega⟩, hs, ?_⟩
    rw [encI_set]
    refine loopP_intro (patW1 N arcs x) (fun g => g.1 ≤ N + 1 ∧ WR (grW N arcs x p s hV hs hn) N g.1 g.2) (fun g => N + 1 - g.1) (0, (List.replicate N farW).set s 0, List.replicate N 0) ⟨Nat.zero_le _, WR.start⟩ ?_ (bodyW1 hN hx ?_ ?_)
    · unfold patW1 hpW
      simp -implicitDefEqProofs only [zN, List.getElem?_cons_zero, ↓reduceIte, Nat.reduceEqDiff, List.append_nil, zX, leE, leH, leB, leV, leVs, keepP, liveP, wfE, wfB, wfV, wfL, Bool.and_self, and_self, lg0, lg1, lg2, lg3, Int.natCast_zero, g7, g6, g3, g2]
    · intro g hg e b q7 q6
      unfold hpW
      simp -implicitDefEqProofs only [qF, qI, qN, qO, qP, qV, qW, zH, zI, zJ, zN, cells?, List.length_nil, List.length_cons, List.set_cons_zero, splice, zO, List.getD_eq_getElem?_getD, List.getElem?_cons_zero, ↓reduceIte, Nat.reduceEqDiff, Option.getD_some, List.nil_append, List.append_nil, Nat.zero_add, Nat.reduceAdd, List.drop_zero, List.take_zero, List.take_nil, List.drop_nil, List.all_cons, List.all_nil, isC, Bool.and_true, Bool.and_self, true_and, and_true, and_self, List.not_mem_nil, not_false_eq_true, Nat.le_refl, lg0, zY, zZ, ka, lg1, kh, ki, jq, ↓jr, ↓ju, ↓jx, ↓jB, ↓jC, ↓jD, q7, q6, List.nil_append]
      refine retP_isQ g hg ?_
      simp -implicitDefEqProofs only [zN, List.length_nil, List.length_cons, zO, List.getD_eq_getElem?_getD, List.getElem?_cons_zero, ↓reduceIte, Nat.reduceEqDiff, Option.getD_some, List.nil_append, Nat.zero_add, Nat.reduceAdd, resP, tupV, List.reverse_cons, List.reverse_nil, leH, leB, keepP, liveP, wfB, wfV, wfL, List.drop_zero, List.take_nil, Bool.and_self, and_self, Nat.reduceLeDiff, Nat.le_refl, lg0, ka, lg1, ki, lg2, lg3, ↓ju, ↓jx, ↓jB, q6]
    · intro g hg e b q6
      unfold hpW
      simp -implicitDefEqProofs only [List.set_cons_zero, List.append_nil, zY]
      refine retP_isQ g hg ?_
      simp -implicitDefEqProofs only [List.length_nil, List.length_cons, zO, List.getD_eq_getElem?_getD, List.getElem?_cons_zero, Option.getD_some, List.nil_append, Nat.zero_add, Nat.reduceAdd, resP, tupV, List.reverse_cons, List.reverse_nil, leH, leB, keepP, liveP, wfB, wfV, wfL, List.drop_zero, List.take_nil, Bool.and_self, and_self, Nat.reduceLeDiff, Nat.le_refl, lg0, ka, lg1, ki, lg2, lg3, ↓ju, ↓jx, ↓jB, q6]
end
end Go.Fx.C
namespace Go.Fx.C
open Go Go.Fx Go.Proofs
section
variable {N : Nat} {arcs : List Arc} {f t : Nat} {am sent : Int} {x p : List Int}
theorem SI.move (h : SI N arcs f t am x p sent) {n : Int} {x' : List Int} (hx : XB arcs x') (hv : ∀ w : Nat, valTo arcs w x' arcs.length = valTo arcs w x arcs.length + vd f n w - vd t n w)
    (ht : ∀ k, k < arcs.length → x'.getD k 0 ≠ x.getD k 0 → rcst arcs (fun u => p.getD u 0) (2 * k) = 0) (hn : 0 ≤ n ∧ n ≤ am - sent) : SI N arcs f t am x' p (sent + n) := by
  have hs := h.s0
  refine ⟨hx, fun w => ?_, fun i hi => ?_, h.pl, h.p0, h.pb, h.pt, by omega⟩
  · rw [hv, h.val, vd_add, vd_add]; omega
  · by_cases e : x'.getD (i / 2) 0 = x.getD (i / 2) 0
    · refine h.nn i ⟨hi.1, ?_⟩
      have := hi.2
      unfold wrm at this ⊢
      rw [e] at this
      exact this
    · have h0 := ht (i / 2) hi.1 e
      by_cases e2 : i % 2 = 0
      · rw [show 2 * (i / 2) = i by omega] at h0
        omega
      · have h1 := rcst_b (arcs := arcs) (p := fun u => p.getD u 0) (k := i / 2)
        rw [show 2 * (i / 2) + 1 = i by omega] at h1
        omega
def redD (N : Nat) (D p : List Int) : List Int := (List.range N).map fun v => if D.getD v 0 < farW then D.getD v 0 - p.getD v 0 else far
theorem redD_get {D : List Int} {v : Nat} (hv : v < N) : (redD N D p).getD v 0 = if D.getD v 0 < farW then D.getD v 0 - p.getD v 0 else far := by
  unfold redD
  rw [List.getD_eq_getElem?_getD, List.getElem?_map, List.getElem?_range hv]
  rfl
variable {hV : Val N arcs} {hf : f < N} {hn : NN arcs x fun u => p.getD u 0}
theorem pr_red : ∀ {v : Nat} {r : List Nat}, Lb.PR (grW N arcs x (fun u => p.getD u 0) f hV hf hn) v r → Lb.PR (grD N arcs x (fun u => p.getD u 0) f hV hf hn) v r
  | v, [], h => h
  | v, i :: r, h => ⟨h.1, h.2.1, pr_red h.2.2⟩
theorem vs_red : ∀ {v : Nat} {r : List Nat}, Lb.vs (grD N arcs x (fun u => p.getD u 0) f hV hf hn) v r = Lb.vs (grW N arcs x (fun u => p.getD u 0) f hV hf hn) v r
  | v, [] => rfl
  | v, i :: r => by simp only [Lb.vs]; rw [vs_red]; rfl
theorem cs_red : ∀ {v : Nat} {r : List Nat}, Lb.PR (grW N arcs x (fun u => p.getD u 0) f hV hf hn) v r → Lb.cs (grD N arcs x (fun u => p.getD u 0) f hV hf hn) r = Lb.cs (grW N arcs x (fun u => p.getD u 0) f hV hf hn) r + p.getD f 0 - p.getD v 0
  | v, [], h => by rw [show v = f from h]; simp only [Lb.cs]; omega
  | v, i :: r, h => by
    have ih : Lb.cs (grD N arcs x (fun u => p.getD u 0) f hV hf hn) r = Lb.cs (grW N arcs x (fun u => p.getD u 0) f hV hf hn) r + p.getD f 0 - p.getD (wsrc arcs i) 0 := cs_red h.2.2
    have hd : wdst arcs i = v := h.2.1
    have e1 : Lb.cs (grD N arcs x (fun u => p.getD u 0) f hV hf hn) (i :: r) = rcst arcs (fun u => p.getD u 0) i + Lb.cs (grD N arcs x (fun u => p.getD u 0) f hV hf hn) r := rfl
    have e2 : Lb.cs (grW N arcs x (fun u => p.getD u 0) f hV hf hn) (i :: r) = wcst arcs i + Lb.cs (grW N arcs x (fun u => p.getD u 0) f hV hf hn) r := rfl
    rw [e1, e2, ih]
    unfold rcst
    simp only
    rw [hd]; omega
theorem dom_red (hN : N ≤ 63) (hp0 : p.getD f 0 = 0) (hpb : ∀ j, 0 ≤ p.getD j 0 ∧ p.getD j 0 ≤ 1073741824) {D : List Int} : ∀ {v : Nat} {r : List Nat}, v < N → r.length ≤ 64 → Lb.PR (grW N arcs x (fun u => p.getD u 0) f hV hf hn) v r → Lb.Dom (grW N arcs x (fun u => p.getD u 0) f hV hf hn) (fun u => D.getD u 0) v r → Lb.Dom (grD N arcs x (fun u => p.getD u 0) f hV hf hn) (fun u => (redD N D p).getD u 0) v r
  | v, [], hv, _, hp, hd => by
    have hd : D.getD v 0 ≤ 0 := hd
    show (redD N D p).getD v 0 ≤ 0
    have hvf : v = f := hp
    have hfw : (0 : Int) < farW := by decide
    rw [redD_get hv, if_pos (by omega), hvf, hp0, ← hvf]; omega
  | v, i :: r, hv, hl, hp, hd => by
    have hi : wres arcs x i := hp.1
    refine ⟨?_, dom_red hN hp0 hpb (w_in hV hi.1).1 (by simp at hl; omega) hp.2.2 hd.2⟩
    have h1 : D.getD v 0 ≤ Lb.cs (grW N arcs x (fun u => p.getD u 0) f hV hf hn) (i :: r) := hd.1
    have h2 := wcs_b (by omega) hp hl
    have h3 := cs_red hp
    have hfw : (67108864 : Int) < farW := by decide
    show (redD N D p).getD v 0 ≤ _
    rw [redD_get hv, if_pos (by omega), h3, hp0]
    omega
theorem WQ.dist (hN : N ≤ 63) (h : SI N arcs f t am x p sent) {D L : List Int} (hq : WQ (grW N arcs x (fun u => p.getD u 0) f hV hf h.nn) N (D, L)) : DistQ N (grD N arcs x (fun u => p.getD u 0) f hV hf h.nn) (redD N D p) := by
  have hpb := h.pmax ⟨hV.hn.1, by omega⟩
  have hb : ∀ u, u < N → D.getD u 0 = farW ∨ (D.getD u 0 < farW ∧ -67108864 ≤ D.getD u 0 ∧ D.getD u 0 ≤ 67108864) := fun u hu => wlab_b (by omega) hq.bf.lab hu
  have hfw : (67108864 : Int) + 1048576 < farW := by decide
  have hff : (67108864 : Int) + 1073741824 < far := by decide
  refine ⟨⟨?_, fun v hv => ?_⟩, by simp [redD], fun i hi hu => ?_⟩
  · show (redD N D p).getD f 0 = 0
    have : D.getD f 0 = 0 := hq.bf.lab.h0
    rw [redD_get hf, this, h.p0, if_pos (by decide)]; rfl
  · have hv : v < N := hv
    rcases hq.bf.lab.hw v hv with he | ⟨h1, r, hW⟩
    · left
      have he : D.getD v 0 = farW := he
      rw [redD_get hv, if_neg (by omega)]
    · right
      have h1 : D.getD v 0 < farW := h1
      have hbv := hb v hv
      have hl : r.length < N := hW.len
      have hpv := hpb v
      refine ⟨by rw [redD_get hv, if_pos h1]; omega, r, pr_red hW.pr, ?_, by rw [vs_red]; exact hW.nd, dom_red hN h.p0 hpb hv (by omega) hW.pr hW.dm⟩
      have hco : Lb.cs (grW N arcs x (fun u => p.getD u 0) f hV hf h.nn) r = D.getD v 0 := hW.co
      rw [cs_red hW.pr, redD_get hv, if_pos h1, hco, h.p0]; omega
  · have hi : wres arcs x i := hi
    obtain ⟨w1, w2, _⟩ := w_in hV hi.1
    have hu : (redD N D p).getD (wsrc arcs i) 0 < far := hu
    show (redD N D p).getD (wdst arcs i) 0 ≤ (redD N D p).getD (wsrc arcs i) 0 + rcst arcs (fun u => p.getD u 0) i
    rw [redD_get w1] at hu ⊢
    have hus : D.getD (wsrc arcs i) 0 < farW := by
      apply Classical.byContradiction
      intro hc
      rw [if_neg hc] at hu
      exact absurd hu (Int.lt_irrefl _)
    have hc : D.getD (wdst arcs i) 0 ≤ D.getD (wsrc arcs i) 0 + wcst arcs i := hq.cl i hi hus
    have hb1 := hb _ w1
    have hcb := wcst_b hV hi.1
    rw [redD_get w2, if_pos hus, if_pos (by omega)]
    unfold rcst
    simp only
    omega
theorem ch_fun {G : Lb.Gr} {L : Nat → Nat} : ∀ {v : Nat} {r r' : List Nat}, Lb.Ch G L v r → Lb.Ch G L v r' → r = r'
  | v, [], [], _, _ => rfl
  | v, [], j :: r', h, h' => absurd h h'.1
  | v, i :: r, [], h, h' => absurd h' h.1
  | v, i :: r, j :: r', h, h' => by
    obtain ⟨_, rfl, h3⟩ := h
    obtain ⟨_, rfl, h3'⟩ := h'
    rw [ch_fun h3 h3']
theorem ch_tail {G : Lb.Gr} {L : Nat → Nat} {u : Nat} : ∀ {v : Nat} {r : List Nat}, Lb.Ch G L v r → u ∈ Lb.vs G v r → ∃ r', Lb.Ch G L u r' ∧ r'.length ≤ r.length
  | v, [], h, hu => by
    simp only [Lb.vs, List.mem_singleton] at hu
    subst hu; exact ⟨[], h, Nat.le_refl _⟩
  | v, i :: r, h, hu => by
    rcases List.mem_cons.1 hu with rfl | hu
    · exact ⟨i :: r, h, Nat.le_refl _⟩
    · obtain ⟨r', h1, h2⟩ := ch_tail h.2.2 hu
      exact ⟨r', h1, by simp; omega⟩
theorem ch_new {G : Lb.Gr} {L : Nat → Nat} {v i : Nat} {r : List Nat} (h : Lb.Ch G L v (i :: r)) : v ∉ Lb.vs G (G.src i) r := by
  intro hm
  obtain ⟨r', h1, h2⟩ := ch_tail h.2.2 hm
  have := ch_fun h h1
  rw [← this] at h2
  simp at h2
  omega
theorem ends_in {G : Lb.Gr} {j : Nat} : ∀ {v : Nat} {r : List Nat}, Lb.PR G v r → j ∈ r → G.src j ∈ Lb.vs G v r ∧ G.dst j ∈ Lb.vs G v r
  | v, i :: r, h, hj => by
    have h0 : ∀ u, u ∈ Lb.vs G u r := fun u => by cases r <;> simp [Lb.vs]
    rcases List.mem_cons.1 hj with rfl | hj
    · rw [h.2.1]
      exact ⟨by simp [Lb.vs, h0], by simp [Lb.vs]⟩
    · have := ends_in h.2.2 hj
      exact ⟨by simp [Lb.vs, this.1], by simp [Lb.vs, this.2]⟩
theorem ch_arc {x : List Int} {P : Nat → Int} {hn : NN arcs x P} {L : Nat → Nat} {v i : Nat} {r : List Nat} (h : Lb.Ch (grW N arcs x P f hV hf hn) L v (i :: r)) (hp : Lb.PR (grW N arcs x P f hV hf hn) v (i :: r)) : ∀ j ∈ r, j / 2 ≠ i / 2 := by
  intro j hj e
  have hnew := ch_new h
  have hd : wdst arcs i = v := hp.2.1
  obtain ⟨e1, e2⟩ := ends_in hp.2.2 hj
  have e1 : wsrc arcs j ∈ Lb.vs (grW N arcs x P f hV hf hn) ((grW N arcs x P f hV hf hn).src i) r := e1
  have e2 : wdst arcs j ∈ Lb.vs (grW N arcs x P f hV hf hn) ((grW N arcs x P f hV hf hn).src i) r := e2
  by_cases hij : j % 2 = i % 2
  · have : j = i := by omega
    subst this
    rw [hd] at e2
    exact hnew e2
  · have : wsrc arcs j = wdst arcs i := by
      unfold wsrc wdst
      rw [e]
      by_cases h0 : j % 2 = 0
      · rw [if_pos h0, if_neg (by omega)]
      · rw [if_neg h0, if_pos (by omega)]
    rw [this, hd] at e1
    exact hnew e1
end
end Go.Fx.C
namespace Go.Fx.C
open Go Go.Fx Go.Proofs
section
variable {N : Nat} {arcs : List Arc} {f t : Nat} {am sent : Int} {x p p' : List Int} {hV : Val N arcs} {hf : f < N} {hn : NN arcs x fun u => p.getD u 0} {L : Nat → Nat}
structure A1 (hV : Val N arcs) (hf : f < N) (hn : NN arcs x fun u => p.getD u 0) (L : Nat → Nat) (mx : Int) (r0 : List Nat) (g : Nat × Int × List Nat) : Prop where
  ch : Lb.Ch (grW N arcs x (fun u => p.getD u 0) f hV hf hn) L g.1 g.2.2
  pr : Lb.PR (grW N arcs x (fun u => p.getD u 0) f hV hf hn) g.1 g.2.2
  m0 : 0 < g.2.1 ∧ g.2.1 ≤ mx
  al : ∀ i ∈ r0, i ∈ g.2.2 ∨ g.2.1 ≤ wrm arcs x i
theorem A1.step {mx : Int} {r0 : List Nat} {u : Nat} {m : Int} {r : List Nat} (h : A1 hV hf hn L mx r0 (u, m, r)) (hu : u ≠ f) : ∃ r', r = L u :: r' ∧ wres arcs x (L u) ∧ wdst arcs (L u) = u ∧ A1 hV hf hn L mx r0 (wsrc arcs (L u), min m (wrm arcs x (L u)), r') := by
  have hc := h.ch
  have hp := h.pr
  have hm := h.m0
  have ha := h.al
  simp only at hc hp hm ha
  cases r with
  | nil => exact absurd hc hu
  | cons i r =>
    obtain ⟨_, rfl, h3⟩ := hc
    have hres : wres arcs x (L u) := hp.1
    refine ⟨r, rfl, hres, hp.2.1, h3, hp.2.2, ⟨Int.lt_min.2 ⟨hm.1, hres.2⟩, Int.le_trans (Int.min_le_left _ _) hm.2⟩, fun j hj => ?_⟩
    simp only
    rcases ha j hj with h4 | h4
    · rcases List.mem_cons.1 h4 with rfl | h5
      · exact .inr (Int.min_le_right _ _)
      · exact .inl h5
    · exact .inr (Int.le_trans (Int.min_le_left _ _) h4)
structure A2 (hV : Val N arcs) (hf : f < N) (hn : NN arcs x fun u => p.getD u 0) (L : Nat → Nat) (t : Nat) (p' : List Int) (m : Int) (g : Nat × List Int × List Nat) : Prop where
  ch : Lb.Ch (grW N arcs x (fun u => p.getD u 0) f hV hf hn) L g.1 g.2.2
  pr : Lb.PR (grW N arcs x (fun u => p.getD u 0) f hV hf hn) g.1 g.2.2
  xb : XB arcs g.2.1
  val : ∀ w : Nat, valTo arcs w g.2.1 arcs.length = valTo arcs w x arcs.length + vd g.1 m w - vd t m w
  tig : ∀ k, k < arcs.length → g.2.1.getD k 0 ≠ x.getD k 0 → rcst arcs (fun u => p'.getD u 0) (2 * k) = 0
  old : ∀ i ∈ g.2.2, g.2.1.getD (i / 2) 0 = x.getD (i / 2) 0
  rom : ∀ i ∈ g.2.2, m ≤ wrm arcs x i
  zro : ∀ i ∈ g.2.2, rcst arcs (fun u => p'.getD u 0) i = 0
def mvW (i : Nat) (m : Int) : Int := if i % 2 = 0 then m else -m
theorem A2.step {m : Int} (hm : 0 ≤ m) {u : Nat} {x1 : List Int} {r : List Nat} (h : A2 hV hf hn L t p' m (u, x1, r)) (hu : u ≠ f) :
    ∃ r', r = L u :: r' ∧ wres arcs x (L u) ∧ wdst arcs (L u) = u ∧ 0 ≤ x1.getD (L u / 2) 0 + mvW (L u) m ∧ x1.getD (L u / 2) 0 + mvW (L u) m ≤ 1073741824 ∧ A2 hV hf hn L t p' m (wsrc arcs (L u), x1.set (L u / 2) (x1.getD (L u / 2) 0 + mvW (L u) m), r') := by
  have hc := h.ch
  have hp := h.pr
  have hxb := h.xb
  have hval := h.val
  have htig := h.tig
  have hold := h.old
  have hrom := h.rom
  have hzro := h.zro
  simp only at hc hp hxb hval htig hold hrom hzro
  cases r with
  | nil => exact absurd hc hu
  | cons i r =>
    have hmet := ch_arc hc hp
    obtain ⟨_, rfl, h3⟩ := hc
    have hres : wres arcs x (L u) := hp.1
    have hd : wdst arcs (L u) = u := hp.2.1
    generalize hi : L u = i at *
    have hk := hres.1
    have hkl : i / 2 < x1.length := by rw [hxb.hl]; exact hk
    have hva := hV.at hk
    have h0 := hold i (by simp)
    have hr := hrom i (by simp)
    have hz := hzro i (by simp)
    have hxk := hxb.hb _ hk
    have hbd : 0 ≤ x1.getD (i / 2) 0 + mvW i m ∧ x1.getD (i / 2) 0 + mvW i m ≤ (gA arcs (i / 2)).cap := by
      unfold wrm at hr
      unfold mvW
      rw [← h0] at hr
      split
      · rename_i e; rw [if_pos e] at hr; omega
      · rename_i e; rw [if_neg e] at hr; omega
    have hge : ∀ j w, (x1.set (i / 2) w).getD j 0 = if j = i / 2 then w else x1.getD j 0 := fun j w => getD_set hkl
    refine ⟨r, rfl, hres, hd, hbd.1, by omega, h3, hp.2.2, ⟨by rw [List.length_set]; exact hxb.hl, fun j hj => ?_⟩, fun w => ?_, fun j hj hne => ?_, fun j hj => ?_, fun j hj => hrom j (by simp [hj]), fun j hj => hzro j (by simp [hj])⟩
    · simp only
      rw [hge]
      split
      · rename_i e; subst e; exact hbd
      · exact hxb.hb j hj
    · simp only
      rw [valTo_set w hkl, if_pos hk, hval w]
      have e1 : x1.getD (i / 2) 0 + mvW i m - x1.getD (i / 2) 0 = mvW i m := by omega
      rw [e1]
      unfold wsrc
      unfold wdst at hd
      unfold mvW vd
      by_cases e : i % 2 = 0
      · rw [if_pos e] at hd ⊢
        rw [if_pos e]
        have t1 : ((gA arcs (i / 2)).from_ = w) ↔ w = (gA arcs (i / 2)).from_.toNat := by omega
        have t2 : ((gA arcs (i / 2)).to = w) ↔ w = u := by omega
        simp only [t1, t2]
        split <;> split <;> split <;> omega
      · rw [if_neg e] at hd ⊢
        rw [if_neg e]
        have t1 : ((gA arcs (i / 2)).to = w) ↔ w = (gA arcs (i / 2)).to.toNat := by omega
        have t2 : ((gA arcs (i / 2)).from_ = w) ↔ w = u := by omega
        simp only [t1, t2]
        split <;> split <;> split <;> omega
    · simp only at hne
      rw [hge] at hne
      by_cases e : j = i / 2
      · subst e; exact rcst_half hz
      · rw [if_neg e] at hne
        exact htig j hj hne
    · simp only
      rw [hge, if_neg (hmet j hj)]
      exact hold j (by simp [hj])
theorem WQ.way (hN : N ≤ 63) (ht : t < N) (h : SI N arcs f t am x p sent) {D La : List Int} (hq : WQ (grW N arcs x (fun u => p.getD u 0) f hV hf h.nn) N (D, La)) (hD : D.getD t 0 < farW) (hlt : sent < am) :
    ∃ r0 p', SI N arcs f t am x p' sent ∧ (∀ i ∈ r0, rcst arcs (fun u => p'.getD u 0) i = 0) ∧ A1 hV hf h.nn (fun u => wayL (La.getD u 0)) (am - sent) r0 (t, am - sent, r0) := by
  have hdist := hq.dist hN h
  have hrt := redD_get (D := D) (p := p) ht
  rw [if_pos hD] at hrt
  have hpb := h.pmax ⟨hV.hn.1, by omega⟩
  have hb := wlab_b (by omega) hq.bf.lab ht
  have hff : (67108864 : Int) + 1073741824 < far := by decide
  have hnf : (redD N D p).getD t 0 ≠ far := by
    rw [hrt]
    have hb : D.getD t 0 = farW ∨ (D.getD t 0 < farW ∧ -67108864 ≤ D.getD t 0 ∧ D.getD t 0 ≤ 67108864) := hb
    have := hpb t
    omega
  obtain ⟨r0, hch⟩ := hq.bf.ch t ht hD
  obtain ⟨hpr, htg⟩ := hq.bf.tight hq.cl ht hD hch
  have hlen : ∀ k, k < N → (pmix p (redD N D p) t N).getD k 0 = p.getD k 0 + min ((redD N D p).getD k 0) ((redD N D p).getD t 0) := fun k hk => by
    rw [pmix_get k (by rw [h.pl]; exact Nat.le_refl _), if_pos hk]
  obtain ⟨hS, _⟩ := h.price hV hf ht hdist (by omega) hnf (p' := pmix p (redD N D p) t N) (pmix_len.trans h.pl) hlen
  refine ⟨r0, pmix p (redD N D p) t N, hS, ?_, hch, hpr, ⟨by simp only; omega, Int.le_refl _⟩, fun i hi => .inl hi⟩
  have key : ∀ (v : Nat) (r : List Nat), v < N → D.getD v 0 < farW → Lb.Ch (grW N arcs x (fun u => p.getD u 0) f hV hf h.nn) (fun u => wayL (La.getD u 0)) v r → Lb.PR (grW N arcs x (fun u => p.getD u 0) f hV hf h.nn) v r → Lb.Tight (grW N arcs x (fun u => p.getD u 0) f hV hf h.nn) (fun u => D.getD u 0) v r → (redD N D p).getD v 0 ≤ (redD N D p).getD t 0 → ∀ i ∈ r, rcst arcs (fun u => (pmix p (redD N D p) t N).getD u 0) i = 0 := by
    intro v r
    induction r generalizing v with
    | nil => intro _ _ _ _ _ _ i hi; simp at hi
    | cons j r ih =>
      intro hv hDv hc hp htt hle i hi
      have hres : wres arcs x j := hp.1
      have hd : wdst arcs j = v := hp.2.1
      obtain ⟨w1, w2, _⟩ := w_in hV hres.1
      have h1 : D.getD (wdst arcs j) 0 = D.getD (wsrc arcs j) 0 + wcst arcs j := htt.1
      have hcb := wcst_b hV hres.1
      obtain ⟨q1, q2, q3⟩ := hc
      have hpre := hq.bf.pre v hv q1 hDv
      have hDs : D.getD (wsrc arcs j) 0 < farW := by
        have : D.getD (wsrc arcs (wayL (La.getD v 0))) 0 < farW := hpre.2.2.1
        rw [q2]
        exact this
      have hnn : 0 ≤ rcst arcs (fun u => p.getD u 0) j := h.nn j hres
      have g1 := redD_get (D := D) (p := p) w1
      have g2 := redD_get (D := D) (p := p) w2
      rw [if_pos hDs] at g1
      rw [hd, if_pos hDv, ← hd] at g2
      have hle1 : (redD N D p).getD (wdst arcs j) 0 ≤ (redD N D p).getD t 0 := by rw [hd]; exact hle
      unfold rcst at hnn
      simp only at hnn
      have hle2 : (redD N D p).getD (wsrc arcs j) 0 ≤ (redD N D p).getD t 0 := by omega
      rcases List.mem_cons.1 hi with rfl | hi
      · unfold rcst
        simp only
        rw [hlen _ w1, hlen _ w2, Int.min_eq_left hle1, Int.min_eq_left hle2, g1, g2]
        omega
      · exact ih (wsrc arcs j) w1 hDs q3 hp.2.2 htt.2 hle2 i hi
  exact key t r0 ht hD hch hpr htg (Int.le_refl _)
end
end Go.Fx.C
namespace Go.Fx.C
open Go Go.Fx Go.Proofs
section
variable {N : Nat} {arcs : List Arc} {f t : Nat} {am sent : Int} {x p p' : List Int} {hV : Val N arcs} {hf : f < N} {hn : NN arcs x fun u => p.getD u 0}
theorem SI.upto (h : SI N arcs f t am x p sent) {am2 : Int} (h2 : sent ≤ am2) : SI N arcs f t am2 x p sent :=
  ⟨h.xb, h.val, h.nn, h.pl, h.p0, h.pb, h.pt, ⟨h.s0.1, h2⟩⟩
theorem met_once {u i : Nat} {r : List Nat} (hp : Lb.PR (grD N arcs x (fun u => p.getD u 0) f hV hf hn) u (i :: r)) (hd : (Lb.vs (grD N arcs x (fun u => p.getD u 0) f hV hf hn) u (i :: r)).Nodup) : ∀ j ∈ r, j / 2 ≠ i / 2 := by
  intro j hj e
  have hnew := (List.nodup_cons.1 hd).1
  have hdst : wdst arcs i = u := hp.2.1
  obtain ⟨e1, e2⟩ := ends_in hp.2.2 hj
  have e1 : wsrc arcs j ∈ Lb.vs (grD N arcs x (fun u => p.getD u 0) f hV hf hn) ((grD N arcs x (fun u => p.getD u 0) f hV hf hn).src i) r := e1
  have e2 : wdst arcs j ∈ Lb.vs (grD N arcs x (fun u => p.getD u 0) f hV hf hn) ((grD N arcs x (fun u => p.getD u 0) f hV hf hn).src i) r := e2
  by_cases hij : j % 2 = i % 2
  · have : j = i := by omega
    subst this
    rw [hdst] at e2
    exact hnew e2
  · have : wsrc arcs j = wdst arcs i := by
      unfold wsrc wdst
      rw [e]
      by_cases h0 : j % 2 = 0
      · rw [if_pos h0, if_neg (by omega)]
      · rw [if_neg h0, if_pos (by omega)]
    rw [this, hdst] at e1
    exact hnew e1
theorem aug_path {m : Int} (hm : 0 ≤ m) : ∀ (r : List Nat) (u : Nat) (x1 : List Int), Lb.PR (grD N arcs x (fun u => p.getD u 0) f hV hf hn) u r → (Lb.vs (grD N arcs x (fun u => p.getD u 0) f hV hf hn) u r).Nodup → XB arcs x1 →
    (∀ w : Nat, valTo arcs w x1 arcs.length = valTo arcs w x arcs.length + vd u m w - vd t m w) → (∀ k, k < arcs.length → x1.getD k 0 ≠ x.getD k 0 → rcst arcs (fun u => p'.getD u 0) (2 * k) = 0) →
    (∀ i ∈ r, x1.getD (i / 2) 0 = x.getD (i / 2) 0) → (∀ i ∈ r, m ≤ wrm arcs x i) → (∀ i ∈ r, rcst arcs (fun u => p'.getD u 0) i = 0) →
    ∃ x2, XB arcs x2 ∧ (∀ w : Nat, valTo arcs w x2 arcs.length = valTo arcs w x arcs.length + vd f m w - vd t m w) ∧ (∀ k, k < arcs.length → x2.getD k 0 ≠ x.getD k 0 → rcst arcs (fun u => p'.getD u 0) (2 * k) = 0)
  | [], u, x1, hp, _, hxb, hval, htig, _, _, _ => by
    have : u = f := hp
    subst this
    exact ⟨x1, hxb, hval, htig⟩
  | i :: r, u, x1, hp, hnd, hxb, hval, htig, hold, hrom, hzro => by
    have hmet := met_once hp hnd
    have hres : wres arcs x i := hp.1
    have hd : wdst arcs i = u := hp.2.1
    have hk := hres.1
    have hkl : i / 2 < x1.length := by rw [hxb.hl]; exact hk
    have hva := hV.at hk
    have h0 := hold i (by simp)
    have hr := hrom i (by simp)
    have hz := hzro i (by simp)
    have hxk := hxb.hb _ hk
    have hbd : 0 ≤ x1.getD (i / 2) 0 + mvW i m ∧ x1.getD (i / 2) 0 + mvW i m ≤ (gA arcs (i / 2)).cap := by
      unfold wrm at hr
      unfold mvW
      rw [← h0] at hr
      split
      · rename_i e; rw [if_pos e] at hr; omega
      · rename_i e; rw [if_neg e] at hr; omega
    have hge : ∀ j w, (x1.set (i / 2) w).getD j 0 = if j = i / 2 then w else x1.getD j 0 := fun j w => getD_set hkl
    refine aug_path hm r (wsrc arcs i) (x1.set (i / 2) (x1.getD (i / 2) 0 + mvW i m)) hp.2.2 (List.nodup_cons.1 hnd).2 ⟨by rw [List.length_set]; exact hxb.hl, fun j hj => ?_⟩ (fun w => ?_) (fun j hj hne => ?_) (fun j hj => ?_) (fun j hj => hrom j (by simp [hj])) (fun j hj => hzro j (by simp [hj]))
    · rw [hge]
      split
      · rename_i e; subst e; exact hbd
      · exact hxb.hb j hj
    · rw [valTo_set w hkl, if_pos hk, hval w]
      have e1 : x1.getD (i / 2) 0 + mvW i m - x1.getD (i / 2) 0 = mvW i m := by omega
      rw [e1]
      unfold wsrc
      unfold wdst at hd
      unfold mvW vd
      by_cases e : i % 2 = 0
      · rw [if_pos e] at hd ⊢
        rw [if_pos e]
        have t1 : ((gA arcs (i / 2)).from_ = w) ↔ w = (gA arcs (i / 2)).from_.toNat := by omega
        have t2 : ((gA arcs (i / 2)).to = w) ↔ w = u := by omega
        simp only [t1, t2]
        split <;> split <;> split <;> omega
      · rw [if_neg e] at hd ⊢
        rw [if_neg e]
        have t1 : ((gA arcs (i / 2)).to = w) ↔ w = (gA arcs (i / 2)).to.toNat := by omega
        have t2 : ((gA arcs (i / 2)).from_ = w) ↔ w = u := by omega
        simp only [t1, t2]
        split <;> split <;> split <;> omega
    · rw [hge] at hne
      by_cases e : j = i / 2
      · subst e; exact rcst_half hz
      · rw [if_neg e] at hne
        exact htig j hj hne
    · rw [hge, if_neg (hmet j hj)]
      exact hold j (by simp [hj])
theorem pr_res : ∀ {u : Nat} {r : List Nat}, Lb.PR (grD N arcs x (fun u => p.getD u 0) f hV hf hn) u r → ∀ i ∈ r, wres arcs x i
  | _, [], _, i, hi => by simp at hi
  | u, j :: r, h, i, hi => by
    rcases List.mem_cons.1 hi with rfl | hi
    · exact h.1
    · exact pr_res h.2.2 i hi
theorem SI.aug (hN : N ≤ 63) (ht : t < N) (h : SI N arcs f t am x p sent) {D : List Int} (hD : DistQ N (grD N arcs x (fun u => p.getD u 0) f hV hf h.nn) D) (hdt : D.getD t 0 ≠ far) :
    ∃ x' p', SI N arcs f t (sent + 1) x' p' (sent + 1) ∧ SI N arcs f t am x p' sent ∧ p'.getD t 0 = p.getD t 0 + D.getD t 0 ∧ p'.getD f 0 = 0 := by
  have hlen : ∀ k, k < N → (pmix p D t N).getD k 0 = p.getD k 0 + min (D.getD k 0) (D.getD t 0) := fun k hk => by
    rw [pmix_get k (by rw [h.pl]; exact Nat.le_refl _), if_pos hk]
  obtain ⟨hS, _⟩ := h.price hV hf ht hD (by omega) hdt (p' := pmix p D t N) (pmix_len.trans h.pl) hlen
  obtain ⟨r, hW⟩ : ∃ r, Lb.Wp (grD N arcs x (fun u => p.getD u 0) f hV hf h.nn) (fun u => D.getD u 0) t r := by
    rcases hD.lab.hw t ht with he | ⟨_, h⟩
    · exact absurd he hdt
    · exact h
  have hb : ∀ u, u < N → 0 ≤ D.getD u 0 ∧ (D.getD u 0 = far ∨ D.getD u 0 ≤ KB) := fun u hu => lab_b (by omega) (fun j => h.pmax ⟨hV.hn.1, by omega⟩ j) hD.lab hu
  have hDf : D.getD f 0 = 0 := hD.lab.h0
  have hfin : ∀ i, (grD N arcs x (fun u => p.getD u 0) f hV hf h.nn).res i → D.getD (wsrc arcs i) 0 < far → D.getD (wdst arcs i) 0 < far := by
    intro i hi hlt
    have hi' : wres arcs x i := hi
    obtain ⟨w1, w2, _⟩ := w_in hV hi'.1
    have h1 : D.getD (wdst arcs i) 0 ≤ D.getD (wsrc arcs i) 0 + rcst arcs (fun u => p.getD u 0) i := hD.cl i hi hlt
    have h2 := hb _ w1
    have h3 := wcst_b hV hi'.1
    have h4 := h.pmax ⟨hV.hn.1, by omega⟩ (wsrc arcs i)
    have h5 := h.pmax ⟨hV.hn.1, by omega⟩ (wdst arcs i)
    unfold rcst at h1
    simp only at h1
    have : KB + 1048576 + 1073741824 < far := by decide
    rcases h2.2 with e | e <;> omega
  have hti := Lb.tight_of hDf (by decide : (0 : Int) < far) hD.cl hfin hW.pr hW.co
  have key : ∀ (v : Nat) (r : List Nat), Lb.PR (grD N arcs x (fun u => p.getD u 0) f hV hf h.nn) v r → Lb.Tight (grD N arcs x (fun u => p.getD u 0) f hV hf h.nn) (fun u => D.getD u 0) v r → D.getD v 0 ≤ D.getD t 0 → ∀ i ∈ r, rcst arcs (fun u => (pmix p D t N).getD u 0) i = 0 := by
    intro v r
    induction r generalizing v with
    | nil => intro _ _ _ i hi; simp at hi
    | cons j r ih =>
      intro h1 h2 h3 i hi
      have hj : wres arcs x j := h1.1
      have hd : wdst arcs j = v := h1.2.1
      obtain ⟨w1, w2, _⟩ := w_in hV hj.1
      have ht1 : D.getD (wdst arcs j) 0 = D.getD (wsrc arcs j) 0 + rcst arcs (fun u => p.getD u 0) j := h2.1
      have h0 := h.nn j hj
      rw [← hd] at h3
      rcases List.mem_cons.1 hi with rfl | hi
      · unfold rcst at ht1 h0 ⊢
        simp only at ht1 h0 ⊢
        rw [hlen _ w1, hlen _ w2, Int.min_eq_left h3, Int.min_eq_left (by omega)]
        omega
      · exact ih (wsrc arcs j) h1.2.2 h2.2 (by omega) i hi
  have hz := key t r hW.pr hti (Int.le_refl _)
  obtain ⟨x2, q1, q2, q3⟩ := aug_path (p' := pmix p D t N) (t := t) (m := 1) (by omega) r t x hW.pr hW.nd h.xb (fun w => by omega) (fun k _ hk => absurd rfl hk) (fun _ _ => rfl) (fun i hi => (pr_res hW.pr i hi).2) hz
  have hs0 := h.s0
  refine ⟨x2, pmix p D t N, (hS.upto (am2 := sent + 1) (by omega)).move q1 q2 q3 ⟨by omega, by omega⟩, hS, ?_, hS.p0⟩
  rw [hlen t ht, Int.min_self]
theorem one_sent {f t am : Int} (hV : Val N arcs) (hf : 0 ≤ f ∧ f < N) (ht : 0 ≤ t ∧ t < N) (hft : f ≠ t) {a : Fr} (ha : OkAc N arcs f t am a) {g : List Int} (hg : OkF N arcs f t g) (hl : valTo arcs f g arcs.length ≤ am) : valTo arcs f g arcs.length ≤ a.sent := by
  have hc := ha.hc
  split at hc
  · rename_i e; rw [e]; exact hl
  · have := cut_most hV hf ht hft ha.fl hg (fun v => hasB a.cut (v : Int)) (by rw [Int.toNat_of_nonneg hf.1]; exact hc.hf) (by rw [Int.toNat_of_nonneg ht.1]; exact hc.ht) (hc.cut hV hf ht)
    rw [ha.hv] at this
    exact this
theorem one_cost {f t am am2 : Int} (hV : Val N arcs) (hf : 0 ≤ f ∧ f < N) (ht : 0 ≤ t ∧ t < N) (hft : f ≠ t) {a b : Fr} (ha : OkAc N arcs f t am a) (hb : OkAc N arcs f t am2 b) (he : a.sent = b.sent) : a.cost ≤ b.cost := by
  have h := cheaper hV hf ht hft ha.fl hb.fl ha.hp.slack
  rw [ha.hv, hb.hv, he, Int.sub_self, Int.mul_zero, ha.ht, hb.ht] at h
  omega
theorem next_no (hN : N ≤ 63) (ht : t < N) (hft : f ≠ t) {a b : Fr} (hA : OkAc N arcs f t am a) (hS : SI N arcs f t am a.flow a.price a.sent) (hB : OkAc N arcs f t (am + 1) b) {D : List Int} (hD : DistQ N (grD N arcs a.flow (fun u => a.price.getD u 0) f hV hf hS.nn) D) (hdt : D.getD t 0 = far) : b.sent = a.sent ∧ b.cost = a.cost := by
  have hs0 := hS.s0
  have hC := (hS.upto (am2 := am + 1) (by omega)).cut hV (by omega) hf ht hft (by omega) hD hdt
  have hfI : 0 ≤ (f : Int) ∧ (f : Int) < N := ⟨by omega, by omega⟩
  have htI : 0 ≤ (t : Int) ∧ (t : Int) < N := ⟨by omega, by omega⟩
  have hftI : (f : Int) ≠ t := by omega
  have h1 := one_sent hV hfI htI hftI hC hB.fl (by rw [hB.hv]; exact hB.hs.2)
  have h2 := one_sent hV hfI htI hftI hB hC.fl (by rw [hC.hv]; exact hC.hs.2)
  rw [hB.hv] at h1
  rw [hC.hv] at h2
  simp only at h1 h2
  have e : b.sent = a.sent := by omega
  have h3 := one_cost hV hfI htI hftI hC hB (by simp only; exact e.symm)
  have h4 := one_cost hV hfI htI hftI hB hC (by simp only; exact e)
  have h5 := hA.ht
  simp only at h3 h4
  exact ⟨e, by omega⟩
theorem next_yes (hN : N ≤ 63) (ht : t < N) (hft : f ≠ t) {a b : Fr} (hA : OkAc N arcs f t am a) (hS : SI N arcs f t am a.flow a.price a.sent) (hB : OkAc N arcs f t (am + 1) b) (hSB : SI N arcs f t (am + 1) b.flow b.price b.sent) {D : List Int} (hD : DistQ N (grD N arcs a.flow (fun u => a.price.getD u 0) f hV hf hS.nn) D) (hdt : D.getD t 0 ≠ far) :
    a.sent = am ∧ b.sent = am + 1 ∧ b.cost - a.cost = D.getD t 0 + a.price.getD t 0 ∧ ∀ Db, DistQ N (grD N arcs b.flow (fun u => b.price.getD u 0) f hV hf hSB.nn) Db → Db.getD t 0 ≠ far → D.getD t 0 + a.price.getD t 0 ≤ Db.getD t 0 + b.price.getD t 0 := by
  have hfI : 0 ≤ (f : Int) ∧ (f : Int) < N := ⟨by omega, by omega⟩
  have htI : 0 ≤ (t : Int) ∧ (t : Int) < N := ⟨by omega, by omega⟩
  have hftI : (f : Int) ≠ t := by omega
  obtain ⟨x', p', g1, g2, g3, g4⟩ := hS.aug hN ht hD hdt
  have hF := g1.okF hf ht
  have hv : valTo arcs (f : Int) x' arcs.length = a.sent + 1 := g1.okv hft
  have hs0 := hS.s0
  have ea : a.sent = am := by
    apply Classical.byContradiction
    intro hne
    have := one_sent hV hfI htI hftI hA hF (by rw [hv]; omega)
    rw [hv] at this
    omega
  have hX := (g1.upto (am2 := am + 1) (by omega)).all hV (by omega) hf ht hft (by omega)
  have h1 := one_sent hV hfI htI hftI hB hF (by rw [hv]; omega)
  rw [hv] at h1
  have eb : b.sent = am + 1 := by have := hB.hs.2; omega
  have h3 := one_cost hV hfI htI hftI hX hB (by simp only; omega)
  have h4 := one_cost hV hfI htI hftI hB hX (by simp only; omega)
  simp only at h3 h4
  have k1 := cheaper hV hfI htI hftI hA.fl hF (nn_slack.1 g2.nn)
  have k2 := cheaper hV hfI htI hftI hF hA.fl (nn_slack.1 g1.nn)
  rw [hv, hA.hv, hA.ht, Int.toNat_natCast, Int.toNat_natCast, g3, g4] at k1 k2
  rw [show a.sent + 1 - a.sent = 1 by omega, Int.mul_one] at k1
  rw [show a.sent - (a.sent + 1) = -1 by omega, Int.mul_neg, Int.mul_one] at k2
  have ec : b.cost - a.cost = D.getD t 0 + a.price.getD t 0 := by omega
  refine ⟨ea, eb, ec, fun Db hDb hdb => ?_⟩
  obtain ⟨y', py, j1, j2, j3, j4⟩ := hSB.aug hN ht hDb hdb
  have hFy := j1.okF hf ht
  have hvy : valTo arcs (f : Int) y' arcs.length = b.sent + 1 := j1.okv hft
  have m1 := cheaper hV hfI htI hftI hFy hB.fl (nn_slack.1 j1.nn)
  rw [hvy, hB.hv, hB.ht, Int.toNat_natCast, Int.toNat_natCast, j3, j4, show b.sent - (b.sent + 1) = -1 by omega, Int.mul_neg, Int.mul_one] at m1
  have m2 := cheaper hV hfI htI hftI hA.fl hFy (nn_slack.1 g2.nn)
  rw [hvy, hA.hv, hA.ht, Int.toNat_natCast, Int.toNat_natCast, g3, g4, show b.sent + 1 - a.sent = 2 by omega] at m2
  omega
end
end Go.Fx.C
namespace Go.Fx.C
open Go Go.Fx Go.Proofs
theorem aw_frz {cx : Cx} {xs : List Nat} {c : LCode} {N R : St → Prop} {X : Nat → St → Prop} {e : Env} {h : List Blk} {b : Nat} : aw cx (.frz xs c) N X R ⟨e, h, b⟩ = frzP cx.fx xs ⟨e, h, b⟩ fun s' => aw cx c N X R s' := rfl
def frzQ (fx : List Nat) (v : V) (r : List Nat) (s : St) (K : St → Prop) : Prop :=
  match v with
  | .sl k _ _ => frz1 fx k (blk s.h k) s fun s' => frzP fx r s' K
  | _ => frzP fx r s K
theorem frzP_n {fx : List Nat} {s : St} {K : St → Prop} : frzP fx [] s K = K s := rfl
theorem frzP_c {fx : List Nat} {x : Nat} {r : List Nat} {e : Env} {h : List Blk} {b : Nat} {K : St → Prop} : frzP fx (x :: r) ⟨e, h, b⟩ K = frzQ fx (get e x) r ⟨e, h, b⟩ K := rfl
theorem frzQ_s {fx : List Nat} {k i n : Nat} {r : List Nat} {e : Env} {h : List Blk} {b : Nat} {K : St → Prop} : frzQ fx (.sl k i n) r ⟨e, h, b⟩ K = frz1 fx k (blk h k) ⟨e, h, b⟩ fun s' => frzP fx r s' K := rfl
theorem frz1_a {fx : List Nat} {k sz : Nat} {els : List (List V)} {e : Env} {h : List Blk} {b : Nat} {K : St → Prop} : frz1 fx k (.arr sz els) ⟨e, h, b⟩ K = (k ∉ fx ∧ K ⟨frzE k sz els e, (h.map (frzB k sz els)).set k .dead, b⟩) := rfl
@[congr] theorem c_frzQ {fx : List Nat} {v v' : V} {r : List Nat} {s : St} {K : St → Prop} (q : v = v') : frzQ fx v r s K = frzQ fx v' r s K := by rw [q]
@[congr] theorem c_frz1 {fx : List Nat} {k : Nat} {B B' : Blk} {s : St} {K : St → Prop} (q : B = B') : frz1 fx k B s K = frz1 fx k B' s K := by rw [q]
@[congr] theorem c_frzP {fx xs : List Nat} {s s' : St} {K : St → Prop} (q : s = s') : frzP fx xs s K = frzP fx xs s' K := by rw [q]
end Go.Fx.C
namespace Go.Fx.C
open Go Go.Fx Go.Proofs
set_option maxRecDepth 20000
section
variable {N : Nat} {arcs : List Arc} {f t : Nat} {am : Int}
def FrS (N : Nat) (arcs : List Arc) (f t : Nat) (am : Int) (fr : Fr) : Prop := OkAc N arcs f t am fr ∧ SI N arcs f t am fr.flow fr.price fr.sent
theorem ok13o (hV : Val N arcs) (hN : N ≤ 64) (hf : f < N) (ht : t < N) (hft : f ≠ t) (hal : arcs.length ≤ 100) (ham : 0 ≤ am ∧ am ≤ 2199023255552) (htask : taskP N f t am = true) :
    Ok 13 [net N arcs, .i f, .i t, .i am] (IsQ (FrS N arcs f t am) (fun fr => .tup [.agg [.i fr.sent, .i fr.cost, .sl 2 0 arcs.length, .sl 5 0 N, .ro 1 (fr.cut.map encI)], .i 0]) (fun fr => [.dead, .dead, .arr 1 (fr.flow.map encI), .dead, .dead, .arr 1 (fr.price.map encI)])) := by
  refine ⟨(raw13 hV hN hf ht hft hal ham htask).1, Fn_ghostN [] (by simp) (by simp) (raw13 hV hN hf ht hft hal ham htask).2 ?_⟩
  rintro r hs ⟨fr, h1, ⟨c, tl, rfl, rfl, hc⟩, _⟩
  refine ⟨trivial, _, _, ⟨fr, h1, rfl, rfl⟩, by simp, ?_⟩
  refine ⟨_, .give (fun k => decide (6 ≤ k)) (by simp) (.refl _), ?_⟩
  simp only [List.cons_append, List.nil_append] at hc
  simp only [St.give, gvE, gvV, List.cons_append, List.nil_append, gvL, hc]
  simp -implicitDefEqProofs only [zN, List.getElem?_cons_zero, ↓reduceIte, Nat.zero_add, Nat.reduceAdd, zX, leE, leH, leB, keepP, liveP, wfE, wfB, wfV, wfL, Bool.and_self, and_self, Bool.false_eq_true, Nat.reduceLeDiff, lg0, lg1, lg2, lg3, lg4, gvH, gvB, leH_nil, Nat.reduceLeDiff, decide_false, Bool.false_eq_true]
theorem ok19 {x p : List Int} {hV : Val N arcs} {hf : f < N} {hn : NN arcs x fun u => p.getD u 0} (hN : N ≤ 63) (ht : t < N) (hx : XB arcs x) : Ok 19 [net N arcs, .i f, .i t, .bro 1 (x.map encI)] (IsQ (fun g : Int × Bool => ∃ D La, WQ (grW N arcs x (fun u => p.getD u 0) f hV hf hn) N (D, La) ∧ ((D.getD t 0 = farW ∧ g.1 = 0 ∧ g.2 = false) ∨ (D.getD t 0 ≠ farW ∧ g.1 = D.getD t 0 ∧ g.2 = true))) (fun g => .agg [.i g.1, .b g.2]) (fun _ => [])) := by
  have hxl := hx.hl
  have h31 := ok31 (hV := hV) (s := f) (hs := hf) (hn := hn) hN hx
  generalize hQ : WQ (grW N arcs x (fun u => p.getD u 0) f hV hf hn) N = Q at *
  refine ok_of lw19 (by simp) ?_
  unfold c19 net
  simp -implicitDefEqProofs only [qF, qI, qO, qP, qR, qT, qU, qV, zD, zH, zJ, zN, ofConst, cells?, List.length_nil, List.length_cons, List.set_cons_zero, zO, List.getD_eq_getElem?_getD, List.getElem?_cons_zero, ↓reduceIte, Nat.reduceEqDiff, Option.getD_some, List.nil_append, List.cons_append, Nat.zero_add, Nat.reduceAdd, Nat.add_zero, reduceCtorEq, freshP, List.map_cons, List.map_nil, List.drop_zero, List.take_nil, true_and, Nat.le_refl, lg0, zY, ka, kc, ki, kj, jq, ↓jr, ↓ju, ↓jx, ↓jB, cxN, args0]
  refine call_isM Q [] [] [] [net N arcs, .i f, .bro 1 (x.map encI)] (fun _ => .agg [.sl 3 0 N, .sl 4 0 N]) [] (fun g : List Int × List Int => [Blk.dead, Blk.dead, Blk.dead, Blk.arr 1 (g.1.map encI), Blk.arr 1 (g.2.map encI)]) h31 (by simp) (by simp) rfl (by simp [net, lendsOk, lendOk, lends, lend, wkL, wk, wkR, wkB, blk, pos]) fun g hq => ⟨trivial, ?_⟩
  obtain ⟨D, La⟩ := g
  have hDl : D.length = N := by rw [← hQ] at hq; exact hq.l1
  have hDt : D.getD t 0 = D[t]'(by omega) := getD_nat (by omega)
  simp -implicitDefEqProofs only [qa, qc, qd, qw, rdK, qx, qz, qA, qC, qI, qO, qP, qR, qU, qV, qW, qX, qY, zD, zH, zI, zJ, zN, ofConst, cells?, List.length_nil, List.length_cons, List.set_cons_zero, splice, zO, List.getD_eq_getElem?_getD, List.getElem?_cons_zero, ↓reduceIte, Nat.reduceEqDiff, Option.getD_some, zP, arrSz, List.nil_append, List.cons_append, List.append_nil, Nat.zero_add, Nat.reduceAdd, Nat.add_zero, reduceCtorEq, freshP, killE, killB, kill, kills, St.kill, List.map_cons, List.map_nil, List.take_zero, List.drop_nil, List.all_cons, List.all_nil, isC, Bool.and_true, Bool.and_self, true_and, and_true, and_self, List.not_mem_nil, List.length_map, not_false_eq_true, Nat.le_refl, lg0, zY, zZ, lg1, kg, kh, lg2, lg3, lg4, lg5, jq, ↓jr, ↓ju, ↓jx, ↓jy, ↓jA, ↓jC, ↓jD, ↓jG, ↓jI, List.length_map, List.getElem_map, encI_0, Int.toNat_natCast, setAll, renB, rens, ren, back, List.getElem?_nil, Nat.reduceSub, Nat.reduceAdd]
  refine ⟨⟨by omega, by omega⟩, by omega, ?_⟩
  refine call32 rfl rfl ?_
  simp -implicitDefEqProofs only [qe, qy, qA, qE, qF, qI, qJ, qN, qO, qP, qR, qV, qW, qX, qY, qZ, zk, zH, zI, zJ, zK, zN, ofConst, cells?, List.length_nil, List.length_cons, List.set_cons_zero, splice, zO, List.getD_eq_getElem?_getD, List.getElem?_cons_zero, ↓reduceIte, Nat.reduceEqDiff, Option.getD_some, zP, arrSz, zR, List.nil_append, List.cons_append, List.append_nil, Nat.zero_add, Nat.reduceAdd, Nat.add_zero, reduceCtorEq, buildP, List.map_cons, List.map_nil, List.drop_zero, List.take_zero, List.drop_nil, List.all_cons, List.all_nil, isC, Bool.and_true, Bool.and_self, true_and, and_true, and_self, List.not_mem_nil, List.length_append, List.length_map, not_false_eq_true, Nat.reduceLeDiff, Nat.le_refl, lg0, zY, zZ, ka, lg1, kh, lg2, lg3, lg4, lg5, jq, ↓jr, ↓ju, ↓jx, ↓jy, ↓jA, ↓jC, ↓jD, ↓jG, ↓jI, ↓qaR, List.length_map, List.getElem_map, encI_0, Int.toNat_natCast]
  simp only [br, beq_iff_eq, beq_eq_false_iff_ne]
  refine ⟨fun hfar => ?_, fun hfar => ?_⟩
  · refine retP_isQ (0, false) ⟨D, La, hq, .inl ⟨hDt.trans hfar, rfl, rfl⟩⟩ ?_
    simp -implicitDefEqProofs only [zN, List.length_nil, List.length_cons, zO, List.getD_eq_getElem?_getD, List.getElem?_cons_zero, ↓reduceIte, Nat.reduceEqDiff, Option.getD_some, List.nil_append, Nat.zero_add, Nat.reduceAdd, resP, tupV, List.reverse_cons, List.reverse_nil, leH, keepP, wfB, wfV, wfL, List.drop_zero, List.take_nil, Bool.and_self, and_self, Nat.le_refl, lg0, ka, ki, ↓ju, ↓jx, ↓jB]
  · refine ⟨⟨by omega, by omega⟩, by omega, ?_⟩
    refine retP_isQ (D[t]'(by omega), true) ⟨D, La, hq, .inr ⟨fun h => hfar (hDt.symm.trans h), hDt.symm, rfl⟩⟩ ?_
    simp -implicitDefEqProofs only [zN, List.length_nil, List.length_cons, zO, List.getD_eq_getElem?_getD, List.getElem?_cons_zero, ↓reduceIte, Nat.reduceEqDiff, Option.getD_some, List.nil_append, Nat.zero_add, Nat.reduceAdd, resP, tupV, List.reverse_cons, List.reverse_nil, leH, keepP, wfB, wfV, wfL, List.drop_zero, List.take_nil, Bool.and_self, and_self, Nat.le_refl, lg0, ka, ki, ↓ju, ↓jx, ↓jB]
end
end Go.Fx.C
namespace Go.Fx.C
open Go Go.Fx Go.Proofs
set_option maxRecDepth 20000
section
variable {N : Nat} {arcs : List Arc} {f t : Nat} {am : Int}
def NxQ (Q : List Int → Prop) (t : Nat) (p : List Int) (g : Int × Bool) : Prop := ∃ D, Q D ∧ ((D.getD t 0 = far ∧ g.1 = 0 ∧ g.2 = false) ∨ (D.getD t 0 ≠ far ∧ g.1 = D.getD t 0 + p.getD t 0 ∧ g.2 = true))
theorem ok18 {x p : List Int} (sent cost : Int) (hV : Val N arcs) (hf : f < N) (hN : N ≤ 63) (ht : t < N) (hx : XB arcs x) (hW : WOk N arcs x p) (hn : NN arcs x fun u => p.getD u 0) :
    OkN Try.prog 18 [net N arcs, .i f, .i t, .agg [.i sent, .i cost, .sl 0 0 arcs.length, .sl 1 0 N, .any]] [.arr 1 (x.map encI), .arr 1 (p.map encI)] []
      (IsQ (NxQ (DistQ N (grD N arcs x (fun u => p.getD u 0) f hV hf hn)) t p) (fun g => .tup [.i g.1, .b g.2]) (fun _ => [.arr 1 (x.map encI), .arr 1 (p.map encI)])) := by
  have hxl := hx.hl
  have hpl := hW.hp
  have h28 := ok28 (hs := hf) hW hn (fun j => hx.bd hV j)
  have h27 := ok27 N arcs x hV
  rw [hxl] at h27
  have hKb : ∀ D, DistQ N (grD N arcs x (fun u => p.getD u 0) f hV hf hn) D → D.getD t 0 = far ∨ (0 ≤ D.getD t 0 ∧ D.getD t 0 ≤ KB) := fun D hD => by
    have := lab_b (by omega) (fun j => hW.hb j) hD.lab ht
    rcases this.2 with e | e
    · exact .inl e
    · exact .inr ⟨this.1, e⟩
  have hQl : ∀ D, DistQ N (grD N arcs x (fun u => p.getD u 0) f hV hf hn) D → D.length = N := fun D hD => hD.len
  have hpt := hW.hb t
  have hpe : p.getD t 0 = p[t]'(by omega) := getD_nat (by omega)
  generalize hQ : DistQ N (grD N arcs x (fun u => p.getD u 0) f hV hf hn) = Q at *
  have ek : List.take N (p.map encI) = p.map encI := tk_enc hpl
  have ed : List.drop (min p.length N) (List.replicate N (encI 0)) = [] := List.drop_of_length_le (by simp [hpl])
  refine okN_of pol [0, 1] lw18 (by simp) ⟨trivial, trivial, trivial⟩ (by simp; omega) ?_
  unfold c18 net
  simp -implicitDefEqProofs only [qF, qI, qO, qP, qR, qT, qV, qX, zD, zH, zJ, zK, zN, ofConst, cells?, List.length_nil, List.length_cons, List.set_cons_zero, zO, List.getD_eq_getElem?_getD, List.getElem?_cons_zero, ↓reduceIte, Nat.reduceEqDiff, Option.getD_some, List.nil_append, List.cons_append, List.append_nil, Nat.zero_add, Nat.reduceAdd, Nat.add_zero, reduceCtorEq, freshP, List.map_cons, List.map_nil, List.drop_zero, List.take_nil, true_and, Nat.le_refl, lg0, zY, ka, kc, lg1, kg, ki, kj, lg2, kk, jq, ↓jr, ↓ju, ↓jx, ↓jA, ↓jB, ↓jG, cxN, args0]
  refine call_isN [0] [net N arcs, .sl 0 0 arcs.length] (.ptr 4 0 0) (.ptr 7 0 0) [.arr 1 (x.map encI)] [.arr 1 (x.map encI), Blk.dead, .arv 1 (outR arcs N), .arr 1 (List.replicate N (encI 0)), wB N arcs.length arcs 0 2 3] _ h27 (by simp) (by simp [blk, renB, rens, ren, pos]) (by simp [net, lendsOk, lendOk, lends, lend, wkL, wk, wkR, pos]) (by simp) rfl (by simp [ren, rens, back]) (by simp [keepP, liveP, setAll, renB]) ?_
  simp -implicitDefEqProofs only [qF, qG, qI, qO, qP, qR, qV, qX, zt, zD, zF, zH, zJ, zN, List.length_nil, List.length_cons, List.set_cons_zero, zO, List.getD_eq_getElem?_getD, List.getElem?_cons_zero, ↓reduceIte, Nat.reduceEqDiff, Option.getD_some, List.nil_append, List.cons_append, List.append_nil, Nat.zero_add, Nat.reduceAdd, reduceCtorEq, List.map_cons, List.map_nil, List.drop_zero, List.take_zero, Bool.and_self, true_and, and_self, List.not_mem_nil, List.length_map, List.length_replicate, not_false_eq_true, Nat.le_refl, lg0, zY, lg1, kg, lg2, kk, lg3, kr, lg4, kz, lg5, kD, lg6, jq, ↓jr, ↓ju, ↓jx, ↓jA, ↓jG, ↓jU, ↓jY, ↓jZ, ↓qat, ↓qau, List.length_map, wB, setAll, renB, rens, ren, outR_ren, back, List.getElem?_nil, Nat.reduceSub, Nat.reduceAdd, ek, ed, List.append_nil]
  refine ⟨by omega, .inr trivial, ?_⟩
  refine call_isM Q [7, 0, 5, 6] [] [] [.ptr 0 0 0, .i f] (fun _ => .sl 7 0 N) (wH N arcs x p) (fun D : List Int => wH N arcs x p ++ [Blk.dead, Blk.dead, Blk.dead, Blk.arr 1 (D.map encI)]) h28 (by simp) (by simp) (by simp [wH, wB, blk, renB, rens, ren, pos, outR_ren, hxl]) (by simp [lendsOk, lendOk, lends, lend, wkL, wk, pos]) fun D hD => ⟨by simp [keepP, liveP, wH, wB, setAll, renB, killB], ?_⟩
  have hDl := hQl D hD
  have hDt : D.getD t 0 = D[t]'(by omega) := getD_nat (by omega)
  have hb := hKb D hD
  have hKv : KB = 67711795200 := rfl
  have hfv : far = 4611686018427387904 := rfl
  simp -implicitDefEqProofs only [qE, qF, qH, qI, qJ, qN, qO, qP, qR, qV, qX, qY, qZ, zF, zH, zJ, zK, zN, ofConst, List.length_nil, List.length_cons, List.set_cons_zero, zO, List.getD_eq_getElem?_getD, List.getElem?_cons_zero, ↓reduceIte, Nat.reduceEqDiff, Option.getD_some, zP, arrSz, zR, List.nil_append, List.cons_append, List.append_nil, Nat.zero_add, Nat.reduceAdd, reduceCtorEq, killE, killB, kill, kills, St.kill, List.map_cons, List.map_nil, true_and, List.not_mem_nil, List.length_map, lg0, zY, lg1, kg, lg2, kk, lg3, kr, lg4, kz, lg5, kD, lg6, kI, lg7, lg8, lg9, kY, jq, ↓jr, ↓ju, ↓jx, ↓jy, ↓jA, ↓jG, ↓jI, ↓jU, ↓qaL, ↓qaR, List.length_map, List.getElem_map, encI_0, Int.toNat_natCast, wH, wB, setAll, renB, rens, ren, outR_ren, outR_kill, back, hxl, List.getElem?_nil, Nat.reduceSub, Nat.reduceAdd]
  refine ⟨⟨by omega, by omega⟩, by omega, ?_⟩
  simp only [br, beq_iff_eq, beq_eq_false_iff_ne]
  refine ⟨fun hfar => ?_, fun hfar => ?_⟩
  · refine retP_isQ (0, false) ⟨D, hD, .inl ⟨hDt.trans hfar, rfl, rfl⟩⟩ ?_
    simp -implicitDefEqProofs only [zN, List.length_nil, List.length_cons, List.getElem?_cons_zero, ↓reduceIte, Nat.reduceEqDiff, List.nil_append, List.cons_append, Nat.zero_add, Nat.reduceAdd, resP, tupV, List.reverse_cons, List.reverse_nil, leH, leB, keepP, liveP, wfB, wfV, wfL, Bool.and_self, and_self, Nat.le_refl, lg0]
  · refine ⟨⟨by omega, by omega⟩, by omega, ⟨by omega, by omega⟩, by omega, by simp only [lo, hi]; omega, ?_⟩
    refine retP_isQ (D[t]'(by omega) + p[t]'(by omega), true) ⟨D, hD, .inr ⟨fun h => hfar (hDt.symm.trans h), by rw [hDt, hpe], rfl⟩⟩ ?_
    simp -implicitDefEqProofs only [zN, List.length_nil, List.length_cons, List.getElem?_cons_zero, ↓reduceIte, Nat.reduceEqDiff, List.nil_append, List.cons_append, Nat.zero_add, Nat.reduceAdd, resP, tupV, List.reverse_cons, List.reverse_nil, leH, leB, keepP, liveP, wfB, wfV, wfL, Bool.and_self, and_self, Nat.le_refl, lg0]
end
end Go.Fx.C
namespace Go.Fx.C
open Go Go.Fx Go.Proofs
theorem ex_map {α β : Type} {g : α → β} : ∀ {els : List β}, (∀ x ∈ els, ∃ a, x = g a) → ∃ l : List α, els = l.map g
  | [], _ => ⟨[], rfl⟩
  | x :: r, h => by
    obtain ⟨a, rfl⟩ := h x List.mem_cons_self
    obtain ⟨l, rfl⟩ := ex_map (els := r) fun y hy => h y (List.mem_cons_of_mem _ hy)
    exact ⟨a :: l, rfl⟩
abbrev tArc : Fx.T := .st [.int .i64, .int .i64, .int .i64, .int .i64]
abbrev tNet : Fx.T := .st [.int .i64, .sl 4 tArc]
abbrev tLi : Fx.T := .sl 1 (.int .i64)
abbrev tFr : Fx.T := .st [.int .i64, .int .i64, tLi, tLi, tLi]
theorem wf_arc {x : List V} (h : WfT tArc x) : ∃ a : Arc, x = a.enc := by
  simp only [WfT, WfTs] at h
  obtain ⟨_, _, rfl, ⟨a, rfl, _⟩, _, _, rfl, ⟨b, rfl, _⟩, _, _, rfl, ⟨c, rfl, _⟩, _, _, rfl, ⟨d, rfl, _⟩, rfl⟩ := h
  exact ⟨⟨a, b, c, d⟩, rfl⟩
theorem wf_net {x : V} (h : WfV tNet x) : ∃ n arcs, x = net n arcs := by
  obtain ⟨cs, h, rfl⟩ := h
  rw [WfTs.eq_2] at h
  obtain ⟨a, b, rfl, h1, h2⟩ := h
  rw [WfTs.eq_2] at h2
  obtain ⟨c, d, rfl, h3, h4⟩ := h2
  rw [WfTs.eq_1] at h4
  subst h4
  simp only [WfT] at h1
  obtain ⟨n, rfl, _⟩ := h1
  rw [WfT] at h3
  obtain ⟨els, rfl, _, he⟩ := h3
  obtain ⟨arcs, rfl⟩ := ex_map (fun x hx => wf_arc (he x hx))
  exact ⟨n, arcs, rfl⟩
theorem wf_int {x : V} (h : WfV (.int .i64) x) : ∃ n, x = .i n := by
  simp only [WfV, WfT] at h
  obtain ⟨n, h, _⟩ := h
  exact ⟨n, by simpa using h⟩
theorem fn_of {f : FuncId} {xs : List V} (h : Ok f xs (Is (.b true))) : Fn Try.prog f xs [] [] (fun r _ => r = .b true) := (okN_post h fun r h' hr => hr.1).2
end Go.Fx.C
namespace Go.Fx.C
open Go Go.Fx Go.Proofs
set_option maxRecDepth 20000
section
variable {N : Nat} {arcs : List Arc} {f t : Nat} {am sent : Int} {x p : List Int} {hV : Val N arcs} {hf : f < N}
theorem dist_fin (hN : N ≤ 63) (h : SI N arcs f t am x p sent) {D : List Int} (hD : DistQ N (grD N arcs x (fun u => p.getD u 0) f hV hf h.nn) D) : ∀ i, (grD N arcs x (fun u => p.getD u 0) f hV hf h.nn).res i → D.getD (wsrc arcs i) 0 < far → D.getD (wdst arcs i) 0 < far := by
  intro i hi hlt
  have hi' : wres arcs x i := hi
  obtain ⟨w1, w2, _⟩ := w_in hV hi'.1
  have h1 : D.getD (wdst arcs i) 0 ≤ D.getD (wsrc arcs i) 0 + rcst arcs (fun u => p.getD u 0) i := hD.cl i hi hlt
  have h2 := lab_b (by omega) (fun j => h.pmax ⟨hV.hn.1, by omega⟩ j) hD.lab w1
  have h3 := wcst_b hV hi'.1
  have h4 := h.pmax ⟨hV.hn.1, by omega⟩ (wsrc arcs i)
  have h5 := h.pmax ⟨hV.hn.1, by omega⟩ (wdst arcs i)
  unfold rcst at h1
  simp only at h1
  have : KB + 1048576 + 1073741824 < far := by decide
  rcases h2.2 with e | e <;> omega
theorem dist_le (hN : N ≤ 63) (h : SI N arcs f t am x p sent) {D E : List Int} (hD : DistQ N (grD N arcs x (fun u => p.getD u 0) f hV hf h.nn) D) (hE : DistQ N (grD N arcs x (fun u => p.getD u 0) f hV hf h.nn) E) {u : Nat} (hu : u < N) : D.getD u 0 = far ∨ (E.getD u 0 ≤ D.getD u 0 ∧ E.getD u 0 < far) := by
  rcases hD.lab.hw u hu with he | ⟨_, r, hW⟩
  · exact .inl he
  · right
    have h0 : E.getD f 0 = 0 := hE.lab.h0
    have := Lb.cl_path (G := grD N arcs x (fun u => p.getD u 0) f hV hf h.nn) (D := fun u => E.getD u 0) h0 (by decide : (0 : Int) < far) hE.cl (dist_fin hN h hE) hW.pr
    rw [hW.co] at this
    exact this
theorem dist_uniq (hN : N ≤ 63) (h : SI N arcs f t am x p sent) {D E : List Int} (hD : DistQ N (grD N arcs x (fun u => p.getD u 0) f hV hf h.nn) D) (hE : DistQ N (grD N arcs x (fun u => p.getD u 0) f hV hf h.nn) E) {u : Nat} (hu : u < N) : D.getD u 0 = E.getD u 0 := by
  have h1 := dist_le hN h hD hE hu
  have h2 := dist_le hN h hE hD hu
  omega
theorem same_next (hN : N ≤ 63) (ht : t < N) (h : SI N arcs f t am x p sent) {D E La : List Int} (hD : DistQ N (grD N arcs x (fun u => p.getD u 0) f hV hf h.nn) D) (hE : WQ (grW N arcs x (fun u => p.getD u 0) f hV hf h.nn) N (E, La)) : (D.getD t 0 = far ∧ E.getD t 0 = farW) ∨ (D.getD t 0 ≠ far ∧ E.getD t 0 ≠ farW ∧ E.getD t 0 = D.getD t 0 + p.getD t 0) := by
  have hu := dist_uniq hN h hD (hE.dist hN h) ht
  have hb : E.getD t 0 = farW ∨ (E.getD t 0 < farW ∧ -67108864 ≤ E.getD t 0 ∧ E.getD t 0 ≤ 67108864) := wlab_b (by omega) hE.bf.lab ht
  have hp := h.pmax ⟨hV.hn.1, by omega⟩ t
  rw [redD_get ht] at hu
  have : (67108864 : Int) + 1073741824 < far := by decide
  split at hu
  · right; omega
  · left; omega
end
theorem ok6 (n : Int) (arcs : List Arc) (f t am : Int) (hamI : lo .i64 ≤ am ∧ am ≤ hi .i64) : Ok 6 [net n arcs, .i f, .i t, .i am] (Is (.b true)) := by
  refine ok_of lw6 (by simp) ?_
  unfold c6 net
  simp -implicitDefEqProofs only [qF, qI, qO, qP, qR, qT, qV, zD, zH, zJ, zK, zN, ofConst, cells?, List.length_nil, List.length_cons, List.set_cons_zero, zO, List.getD_eq_getElem?_getD, List.getElem?_cons_zero, ↓reduceIte, Nat.reduceEqDiff, Option.getD_some, List.nil_append, List.append_nil, Nat.zero_add, Nat.reduceAdd, Nat.add_zero, freshP, List.map_cons, List.map_nil, List.drop_zero, List.take_nil, true_and, Nat.le_refl, ka, kc, ki, jq, ↓jr, ↓ju, ↓jx, ↓jB, cxN, args0]
  refine call_is (ok14 n 1073741824 arcs) (by simp [net, lendsOk, lendOk, lends, lend, wkL, wk, wkR]) rfl trivial ?_
  cases hfew : fewB n arcs 1073741824 with
  | false =>
    simp -implicitDefEqProofs only [qF, qI, qJ, qO, qP, qQ, qR, qS, zd, zD, zH, zJ, zK, zN, ofConst, List.length_nil, List.length_cons, ↓reduceIte, Nat.reduceEqDiff, zQ, zR, Bool.not_false, ↓zS, zU, List.append_nil, Nat.zero_add, List.map_nil, Bool.false_eq_true, jq]
    refine call9 rfl rfl ?_
    simp -implicitDefEqProofs only [qN, qO, qP, qR, zH, zJ, zN, ↓reduceIte, List.nil_append, zW, resP, tupV, List.reverse_cons, List.reverse_nil, wfV, Bool.and_self, and_self]
  | true =>
  obtain ⟨N, rfl, hV, hN, hL⟩ := few_val hfew
  simp -implicitDefEqProofs only [qF, qI, qJ, qO, qP, qQ, qR, qS, qV, qZ, zd, zD, zH, zJ, zK, zN, ofConst, List.length_nil, List.length_cons, zO, List.getD_eq_getElem?_getD, List.getElem?_cons_zero, ↓reduceIte, Nat.reduceEqDiff, Option.getD_some, zP, zQ, zR, Bool.not_true, Bool.not_false, ↓zS, ↓zT, zU, List.append_nil, Nat.zero_add, Nat.reduceAdd, reduceCtorEq, List.map_cons, List.map_nil, List.drop_zero, List.take_nil, true_and, Bool.false_eq_true, Nat.le_refl, ka, ki, jq, ↓ju, ↓jx, ↓jB, ↓qaW]
  by_cases hbig : 1099511627776 ≤ am
  · have hd : decide ((1099511627776 : Int) ≤ am) = true := decide_eq_true hbig
    simp -implicitDefEqProofs only [↓zS, hd]
    refine call9 rfl rfl ?_
    simp -implicitDefEqProofs only [qN, qO, qP, qR, zH, zJ, zN, ↓reduceIte, List.nil_append, zW, resP, tupV, List.reverse_cons, List.reverse_nil, wfV, Bool.and_self, and_self]
  have hd : decide ((1099511627776 : Int) ≤ am) = false := decide_eq_false hbig
  simp -implicitDefEqProofs only [↓zT, hd]
  refine call_is (ok12 N arcs f t am) (by simp [net, lendsOk, lendOk, lends, lend, wkL, wk, wkR]) rfl trivial ?_
  cases htk : taskB N arcs f t am with
  | false =>
    simp -implicitDefEqProofs only [qF, qI, qJ, qO, qP, qQ, qS, zd, zD, zH, zJ, zN, List.length_nil, List.length_cons, ↓reduceIte, Nat.reduceEqDiff, zQ, zR, Bool.not_false, ↓zS, ↓zT, zU, List.append_nil, Nat.zero_add, List.map_nil, Bool.false_eq_true, jq]
    refine call9 rfl rfl ?_
    simp -implicitDefEqProofs only [qN, qO, qP, qR, zH, zJ, zN, ↓reduceIte, List.nil_append, zW, resP, tupV, List.reverse_cons, List.reverse_nil, wfV, Bool.and_self, and_self]
  | true =>
  have htask : ∀ am2 : Int, 0 ≤ am2 ∧ am2 ≤ 2199023255552 → taskP N f t am2 = true := by
    intro am2 h
    simp only [taskB, taskP, Bool.and_eq_true, decide_eq_true_eq] at htk ⊢
    exact ⟨htk.2.1, htk.2.2.1, htk.2.2.2.1, h⟩
  obtain ⟨hf, ht, hft, ham⟩ := task_in htk
  obtain ⟨f, rfl⟩ : ∃ f' : Nat, f = f' := ⟨f.toNat, by omega⟩
  obtain ⟨t, rfl⟩ : ∃ t' : Nat, t = t' := ⟨t.toNat, by omega⟩
  simp -implicitDefEqProofs only [qE, qF, qI, qJ, qO, qP, qQ, qR, qS, qV, zd, zD, zH, zJ, zN, List.length_nil, List.length_cons, zO, List.getD_eq_getElem?_getD, List.getElem?_cons_zero, ↓reduceIte, Nat.reduceEqDiff, Option.getD_some, zQ, zR, Bool.not_true, ↓zT, zU, List.nil_append, List.cons_append, Nat.zero_add, Nat.reduceAdd, reduceCtorEq, List.map_cons, List.map_nil, List.drop_zero, List.take_nil, true_and, Bool.false_eq_true, Nat.le_refl, ka, kc, ki, jq, ↓ju, ↓jx, ↓jB]
  refine call_isM (FrS N arcs f t (am)) [] [] [] [net N arcs, .i f, .i t, .i (am)] (fun fr => .tup [.agg [.i fr.sent, .i fr.cost, .sl 2 0 arcs.length, .sl 5 0 N, .ro 1 (fr.cut.map encI)], .i 0]) [] (fun fr : Fr => [Blk.dead, Blk.dead, Blk.arr 1 (fr.flow.map encI), Blk.dead, Blk.dead, Blk.arr 1 (fr.price.map encI)]) (ok13o (am := am) hV (by omega) (by omega) (by omega) (by omega) (by omega) (by omega) (htask _ (by omega))) (by simp) (by simp) rfl (by simp [net, lendsOk, lendOk, lends, lend, wkL, wk, wkR]) fun a hA => ⟨trivial, ?_⟩
  simp -implicitDefEqProofs only [qF, qI, qO, qP, qR, qU, qV, qW, qZ, zD, zE, zH, zI, zJ, zK, zN, ofConst, cells?, List.length_nil, List.length_cons, List.set_cons_zero, splice, zO, List.getD_eq_getElem?_getD, List.getElem?_cons_zero, ↓reduceIte, Nat.reduceEqDiff, Option.getD_some, zP, List.nil_append, List.cons_append, Nat.zero_add, Nat.reduceAdd, Nat.add_zero, reduceCtorEq, freshP, killE, killB, kill, kills, St.kill, List.map_cons, List.map_nil, List.drop_zero, List.take_zero, List.take_nil, List.drop_nil, List.all_cons, List.all_nil, isC, Bool.and_true, Bool.and_self, true_and, and_true, and_self, List.not_mem_nil, not_false_eq_true, Nat.le_refl, lg0, zY, zZ, ka, kc, kh, ki, kn, kw, kA, jq, ↓jr, ↓ju, ↓jx, ↓jB, ↓jC, ↓jD, ↓jT, ↓qaL, setAll, renB, rens, ren, back, List.getElem?_nil, Nat.reduceSub, Nat.reduceAdd]
  refine ⟨by simp only [lo, hi]; omega, ?_⟩
  refine call_isM (FrS N arcs f t (am + 1)) [] [] [] [net N arcs, .i f, .i t, .i (am + 1)] (fun fr => .tup [.agg [.i fr.sent, .i fr.cost, .sl 2 0 arcs.length, .sl 5 0 N, .ro 1 (fr.cut.map encI)], .i 0]) [] (fun fr : Fr => [Blk.dead, Blk.dead, Blk.arr 1 (fr.flow.map encI), Blk.dead, Blk.dead, Blk.arr 1 (fr.price.map encI)]) (ok13o (am := am + 1) hV (by omega) (by omega) (by omega) (by omega) (by omega) (by omega) (htask _ (by omega))) (by simp) (by simp) rfl (by simp [net, lendsOk, lendOk, lends, lend, wkL, wk, wkR]) fun b hB => ⟨trivial, ?_⟩
  simp -implicitDefEqProofs only [qE, qF, qI, qJ, qN, qO, qP, qQ, qR, qS, qU, qV, qW, qX, qZ, zb, zD, zE, zH, zI, zJ, zK, zN, ofConst, cells?, List.length_nil, List.length_cons, List.set_cons_zero, splice, zO, List.getD_eq_getElem?_getD, List.getElem?_cons_zero, ↓reduceIte, Nat.reduceEqDiff, Option.getD_some, zP, zR, Bool.not_false, ↓zS, ↓zT, zU, List.nil_append, List.cons_append, List.append_nil, Nat.zero_add, Nat.reduceAdd, Nat.add_zero, reduceCtorEq, freshP, zW, resP, tupV, List.reverse_cons, List.reverse_nil, wfV, killE, killB, kill, kills, St.kill, List.map_cons, List.map_nil, List.drop_zero, List.take_zero, List.take_nil, List.drop_nil, List.all_cons, List.all_nil, isC, Bool.and_true, Bool.and_self, true_and, and_true, and_self, V.v.injEq, Value.int.injEq, Value.bool.injEq, List.not_mem_nil, List.length_map, not_false_eq_true, Bool.false_eq_true, Nat.le_refl, lg0, zY, zZ, ka, lg1, kg, kh, ki, lg2, kk, kn, ko, lg3, kr, kw, kx, lg4, kz, kA, kB, lg5, kD, lg6, kI, lg7, kM, jq, ↓jr, ↓ju, ↓jx, ↓jA, ↓jB, ↓jC, ↓jD, ↓jG, ↓jN, ↓jO, ↓jT, ↓qaS, List.length_map, setAll, renB, rens, ren, back, List.getElem?_nil, Nat.reduceSub, Nat.reduceAdd]
  simp only [bne_self_eq_false, zT]
  intro _ _
  have hfN : f < N := by omega
  have htN : t < N := by omega
  have hal := hA.2.xb.hl
  have hbl := hB.2.xb.hl
  refine call_isM (NxQ (DistQ N (grD N arcs a.flow (fun u => a.price.getD u 0) f hV hfN hA.2.nn)) t a.price) [4, 7] [] [] [net N arcs, .i f, .i t, .agg [.i a.sent, .i a.cost, .sl 0 0 arcs.length, .sl 1 0 N, .any]] (fun g : Int × Bool => .tup [.i g.1, .b g.2]) [.arr 1 (a.flow.map encI), .arr 1 (a.price.map encI)] (fun _ => [.arr 1 (a.flow.map encI), .arr 1 (a.price.map encI)])
    (ok18 a.sent a.cost hV hfN (by omega) htN hA.2.xb (hA.2.wok hV (by omega) _ hA.2.xb) hA.2.nn) (by simp) (by simp) (by simp [blk, renB, rens, ren, pos, encI]) (by simp [net, lendsOk, lendOk, lends, lend, wkL, wk, wkR, wkB, blk, pos]) fun ga hga => ⟨by simp [keepP], ?_⟩
  obtain ⟨va, ia⟩ := ga
  simp -implicitDefEqProofs only [qF, qI, qO, qP, qR, qV, qX, zD, zE, zH, zJ, zN, List.length_nil, List.length_cons, List.set_cons_zero, zO, List.getD_eq_getElem?_getD, List.getElem?_cons_zero, ↓reduceIte, Nat.reduceEqDiff, Option.getD_some, List.nil_append, List.cons_append, List.append_nil, Nat.zero_add, Nat.reduceAdd, reduceCtorEq, killE, killB, kill, kills, St.kill, List.map_cons, List.map_nil, List.drop_zero, List.take_nil, true_and, List.not_mem_nil, Nat.le_refl, lg0, zY, ka, kc, lg1, kg, ki, kk, kr, kz, kD, kI, jq, ↓jr, ↓ju, ↓jx, ↓jA, ↓jB, ↓jG, ↓jT, setAll, renB, rens, ren, Nat.reduceAdd]
  refine call_isM (fun g : Int × Bool => ∃ D La, WQ (grW N arcs a.flow (fun u => a.price.getD u 0) f hV hfN hA.2.nn) N (D, La) ∧ ((D.getD t 0 = farW ∧ g.1 = 0 ∧ g.2 = false) ∨ (D.getD t 0 ≠ farW ∧ g.1 = D.getD t 0 ∧ g.2 = true))) [] [] [] [net N arcs, .i f, .i t, .bro 1 (a.flow.map encI)] (fun g => .agg [.i g.1, .b g.2]) [] (fun _ => []) (ok19 (by omega) htN hA.2.xb) (by simp) (by simp) rfl (by simp [net, lendsOk, lendOk, lends, lend, wkL, wk, wkR, wkB, blk, pos, tk_enc hal, hal]) fun gw hgw => ⟨trivial, ?_⟩
  obtain ⟨vw, iw⟩ := gw
  simp -implicitDefEqProofs only [qE, qF, qI, qJ, qN, qO, qP, qQ, qR, qS, qU, qV, qW, qX, qZ, zd, zl, zD, zH, zI, zJ, zK, zN, ofConst, cells?, List.length_nil, List.length_cons, List.set_cons_zero, splice, zO, List.getD_eq_getElem?_getD, List.getElem?_cons_zero, ↓reduceIte, Nat.reduceEqDiff, Option.getD_some, zP, zQ, zR, Bool.not_true, Bool.not_false, ↓zS, ↓zT, zU, zV, List.nil_append, List.cons_append, List.append_nil, Nat.zero_add, Nat.reduceAdd, Nat.add_zero, reduceCtorEq, freshP, zW, resP, tupV, List.reverse_cons, List.reverse_nil, wfV, killE, killB, kill, kills, St.kill, List.map_cons, List.map_nil, List.drop_zero, List.take_zero, List.take_nil, List.drop_nil, List.all_cons, List.all_nil, isC, Bool.and_true, Bool.and_self, true_and, and_true, and_self, V.v.injEq, Value.int.injEq, Value.bool.injEq, List.not_mem_nil, not_false_eq_true, Bool.false_eq_true, Nat.le_refl, lg0, zY, zZ, ka, lg1, kg, kh, ki, lg2, kk, ko, lg3, kr, kx, lg4, kz, kB, lg5, kD, lg6, kI, lg7, kM, lg8, kQ, lg9, kU, kY, kZ, wd, we, wl, wm, ws, wt, wx, wy, jq, ↓jr, ↓ju, ↓jx, ↓jA, ↓jB, ↓jC, ↓jD, ↓jG, ↓qaL, ↓qaR, ↓qaS, setAll, List.map_nil, List.append_nil, rens, ren, Nat.reduceAdd]
  obtain ⟨D, hD, hcase⟩ := hga
  obtain ⟨E, La, hE, hcw⟩ := hgw
  simp only at hcase hcw
  have hsame := same_next (by omega) htN hA.2 hD hE
  rcases hcase with ⟨d1, rfl, rfl⟩ | ⟨d1, hva, rfl⟩
  · obtain ⟨hw, hi⟩ : vw = 0 ∧ iw = false := by
      rcases hcw with ⟨_, q1, q2⟩ | ⟨q0, _, _⟩
      · exact ⟨q1, q2⟩
      · rcases hsame with ⟨_, q⟩ | ⟨q, _⟩
        · exact absurd q q0
        · exact absurd d1 q
    subst hw hi
    obtain ⟨s1, s2⟩ := next_no (by omega) htN (by omega) hA.1 hA.2 hB.1 hD d1
    have hsa := hA.2.s0
    have hne : (b.sent == am + 1) = false := by simp; omega
    simp only [bne_self_eq_false, zT, hne]
    refine ⟨by simp only [lo, hi]; omega, ?_⟩
    simp -implicitDefEqProofs only [Bool.not_false, ↓zS, Bool.not_false]
    refine call9 rfl rfl ?_
    simp -implicitDefEqProofs only [qN, qO, qP, qQ, qR, qS, qV, qX, qZ, zH, zJ, zN, zO, List.getD_eq_getElem?_getD, List.getElem?_cons_zero, ↓reduceIte, Nat.reduceEqDiff, Option.getD_some, zP, zR, ↓zS, zU, List.nil_append, Nat.zero_add, Nat.add_zero, zW, resP, tupV, List.reverse_cons, List.reverse_nil, wfV, Bool.and_self, and_self, lg0, lg1, lg2, lg3, lg4, lg5, lg6, lg7, ↓jr, ↓ju, ↓jx, ↓jA, ↓jG, ↓qaR, s1, s2, beq_self_eq_true]
  · obtain ⟨hw, hi⟩ : vw = va ∧ iw = true := by
      rcases hsame with ⟨q, _⟩ | ⟨_, q1, q2⟩
      · exact absurd q d1
      · rcases hcw with ⟨q, _⟩ | ⟨_, q3, q4⟩
        · exact absurd q q1
        · exact ⟨by omega, q4⟩
    subst hw hi
    obtain ⟨s1, s2, s3, s4⟩ := next_yes (by omega) htN (by omega) hA.1 hA.2 hB.1 hB.2 hD d1
    have e1 : (b.sent == am + 1) = true := by simp; omega
    have e2 : (a.sent == am) = true := by simp; omega
    simp only [bne_self_eq_false, zT, e1, e2, zS]
    refine ⟨by simp only [lo, hi]; omega, ?_⟩
    simp -implicitDefEqProofs only [Bool.not_true, ↓zT, Bool.not_true]
    refine call_isM (NxQ (DistQ N (grD N arcs b.flow (fun u => b.price.getD u 0) f hV hfN hB.2.nn)) t b.price) [11, 14] [] [] [net N arcs, .i f, .i t, .agg [.i b.sent, .i b.cost, .sl 0 0 arcs.length, .sl 1 0 N, .any]] (fun g : Int × Bool => .tup [.i g.1, .b g.2]) [.arr 1 (b.flow.map encI), .arr 1 (b.price.map encI)] (fun _ => [.arr 1 (b.flow.map encI), .arr 1 (b.price.map encI)])
      (ok18 b.sent b.cost hV hfN (by omega) htN hB.2.xb (hB.2.wok hV (by omega) _ hB.2.xb) hB.2.nn) (by simp) (by simp) (by simp [blk, renB, rens, ren, pos, encI]) (by simp [net, lendsOk, lendOk, lends, lend, wkL, wk, wkR, wkB, blk, pos]) fun gb hgb => ⟨by simp [keepP], ?_⟩
    obtain ⟨vb, ib⟩ := gb
    simp -implicitDefEqProofs only [qF, qI, qO, qP, qR, zD, zE, zH, zJ, zN, List.length_nil, List.length_cons, List.set_cons_zero, List.getElem?_cons_zero, ↓reduceIte, Nat.reduceEqDiff, List.append_nil, Nat.zero_add, Nat.reduceAdd, killE, killB, kill, kills, St.kill, List.map_cons, List.map_nil, List.not_mem_nil, lg0, zY, kg, kk, kr, kz, kD, kI, kM, kQ, kU, kZ, we, wm, wt, jq, ↓jr, ↓jT, setAll, renB, rens, ren, Nat.reduceAdd]
    refine call9 rfl rfl ?_
    obtain ⟨Db, hDb, hcb⟩ := hgb
    simp only at hcb
    have e3 : b.cost - a.cost = vw := by omega
    have hxy : ib = false ∨ vw ≤ vb := by
      rcases hcb with ⟨_, _, q⟩ | ⟨q1, q2, _⟩
      · exact .inl q
      · have := s4 Db hDb q1
        right; omega
    have hbnd : ∀ (x : List Int), XB arcs x → 0 ≤ totTo arcs x arcs.length ∧ totTo arcs x arcs.length ≤ 33776997205278720 := fun x hx => by
      have h := totTo_bound arcs x (fun y hy => by
        obtain ⟨i, hi, rfl⟩ := List.getElem_of_mem hy
        have := hx.bd hV i
        rw [getD_nat hi] at this
        exact this) (fun a h => (hV.ha a h).2.2.2.2) arcs.length
      have h2 : (arcs.length : Int) * 1125899906842624 ≤ 30 * 1125899906842624 := Int.mul_le_mul_of_nonneg_right (by omega) (by omega)
      omega
    have ca := hbnd _ hA.2.xb
    have cb := hbnd _ hB.2.xb
    have ta := hA.1.ht
    have tb := hB.1.ht
    have hr : lo .i64 ≤ vw ∧ vw ≤ hi .i64 := by simp only [lo, hi]; omega
    cases ib
    · simp -implicitDefEqProofs only [qN, qO, qP, qQ, qR, qS, qV, qX, qZ, zd, zH, zJ, zK, zN, ofConst, zO, List.getD_eq_getElem?_getD, List.getElem?_cons_zero, ↓reduceIte, Nat.reduceEqDiff, Option.getD_some, zP, zQ, zR, Bool.not_false, ↓zS, zU, List.nil_append, Nat.zero_add, zW, resP, tupV, List.reverse_cons, List.reverse_nil, wfV, Bool.and_true, Bool.and_self, true_and, and_true, and_self, Bool.false_eq_true, lg0, lg1, lg2, lg3, lg4, lg5, lg6, lg7, ↓jr, ↓ju, ↓jx, ↓jA, ↓jG, ↓qaN, ↓qaR, e3, beq_self_eq_true, Bool.not_false]
      exact hr
    · have hd3 : decide (vw ≤ vb) = true := by
        rcases hxy with q | q
        · cases q
        · exact decide_eq_true q
      simp -implicitDefEqProofs only [qN, qO, qP, qQ, qR, qS, qV, qX, qZ, zd, zH, zJ, zN, zO, List.getD_eq_getElem?_getD, List.getElem?_cons_zero, ↓reduceIte, Nat.reduceEqDiff, Option.getD_some, zP, zQ, zR, Bool.not_true, ↓zS, ↓zT, zU, List.nil_append, Nat.zero_add, zW, resP, tupV, List.reverse_cons, List.reverse_nil, wfV, Bool.and_true, Bool.and_self, true_and, and_true, and_self, Bool.false_eq_true, lg0, lg1, lg2, lg3, lg4, lg5, lg6, lg7, ↓jr, ↓ju, ↓jx, ↓jA, ↓jG, ↓qaN, ↓qaR, ↓qaW, e3, hd3, beq_self_eq_true, Bool.not_true]
      exact hr
theorem fn6 : ∀ xs, WfA [tNet, .int .i64, .int .i64, .int .i64] xs → Fn Try.prog 6 xs [] [] (fun r _ => r = .b true) := by
  intro xs h
  obtain ⟨x1, _, rfl, h1, h⟩ := h
  obtain ⟨x2, _, rfl, h2, h⟩ := h
  obtain ⟨x3, _, rfl, h3, h⟩ := h
  obtain ⟨x4, _, rfl, h4, h⟩ := h
  obtain rfl : _ = [] := h
  obtain ⟨n, arcs, rfl⟩ := wf_net h1
  obtain ⟨f, rfl⟩ := wf_int h2
  obtain ⟨t, rfl⟩ := wf_int h3
  simp only [WfV, WfT] at h4
  obtain ⟨am, h4, hr⟩ := h4
  obtain rfl : x4 = .i am := by simpa using h4
  exact fn_of (ok6 n arcs f t am hr)
end Go.Fx.C
