import Derived.Test.YtmddpcjkpbjkeaaT18
import Derived.Test.YtmddpcjkpbjkeaaFxRun
set_option linter.unusedVariables false
set_option linter.unusedSimpArgs false
set_option linter.unusedSectionVars false
namespace Go.Fx.F
open Go Go.Fx Go.Proofs
set_option maxRecDepth 20000
/-- The heap in the search: the map, where it lies, and the open nodes. -/
def sH (N m : Nat) (arcs R : List Arc) (f t : Int) (s : List Int × List Int) (w : List Int) : List Blk :=
  k12 N m arcs R f t (begC R N) [.map (ents s.1 s.2) s.2.length, .var [.mp 12], .arr 1 (w.map encI)]
def sE (N j n : Nat) : Env := [(13, .sl 14 j n), (12, .ptr 13 0 0), (9, .sl 11 0 N), (8, .ptr 4 0 0), (5, .ptr 2 0 0), (4, .ptr 1 0 0), (3, .ptr 0 0 0)]
structure InI (R : List Arc) (k : Int) (s0 : List Int × List Int) (h : Nat) (p i j n : Nat) (w : List Int) : Prop where
  hi : i ≤ R.length
  hp : (fromK R k i).length = p
  hn : j + n = w.length
  hw : w.drop j = (scanTo R k s0 i).2.drop (h + 1)
def pat3 (N m : Nat) (arcs R : List Arc) (f t k : Int) (s0 : List Int × List Int) (g : Nat × Nat × Nat × Nat × List Int) : St :=
  ⟨(76, .i g.1) :: (75, .i (fromK R k R.length).length) :: (74, .ro 1 ((fromK R k R.length).map encI)) :: sE N g.2.2.1 g.2.2.2.1, sH N m arcs R f t (scanTo R k s0 g.2.1) g.2.2.2.2, 0⟩
theorem body36d (N m : Nat) (arcs R : List Arc) (f t k : Int) (s0 : List Int × List Int) (h : Nat) (hN : N ≤ 256) (hm : m < 2048) (hR : R.length = 2 * (m + 1)) (hf : 0 ≤ f ∧ f < N)
    (hT : ∀ i, i < R.length → 0 ≤ (gA R i).to ∧ (gA R i).to < N) (hS : Srch R N f s0) (hk : k ∈ s0.2) (hh : h + 1 ≤ s0.2.length) {RR : St → Prop} {X : Nat → St → Prop}
    (hX : ∀ (j n : Nat) (w : List Int) b y z, j + n = w.length → w.drop j = (scanTo R k s0 R.length).2.drop (h + 1) → X 6 ⟨(77, y) :: (76, z) :: (75, .i (fromK R k R.length).length) :: (74, .ro 1 ((fromK R k R.length).map encI)) :: sE N j n, sH N m arcs R f t (scanTo R k s0 R.length) w, b⟩)
    (g : Nat × Nat × Nat × Nat × List Int) (hI : InI R k s0 h g.1 g.2.1 g.2.2.1 g.2.2.2.1 g.2.2.2.2) :
    aw cx0 c36l3 (fun s' => ∃ g' : Nat × Nat × Nat × Nat × List Int, (InI R k s0 h g'.1 g'.2.1 g'.2.2.1 g'.2.2.2.1 g'.2.2.2.2 ∧ (fromK R k R.length).length - g'.1 < (fromK R k R.length).length - g.1) ∧ leS cx0.fx s' (pat3 N m arcs R f t k s0 g')) X RR (pat3 N m arcs R f t k s0 g) := by
  obtain ⟨p, i, j, n, w⟩ := g
  obtain ⟨h1, h2, h3, h4⟩ := hI
  simp only at h1 h2 h3 h4
  have hLl : (fromK R k R.length).length ≤ R.length := by
    have := List.length_filter_le (fun i => decide ((gA R i).from_ = k)) (List.range R.length)
    rw [List.length_range] at this
    rwa [fromK, List.length_map]
  obtain ⟨hS1, hS2, hS3⟩ := Srch.scan hf hT hS hk i h1
  have hord := nodup_le N hS1.nod hS1.rng
  unfold c36l3 pat3 sE sH k12
  simp -implicitDefEqProofs only [qa, qc, qw, rdK, qx, qy, qz, qA, qC, qE, qF, qI, qJ, qK, qM, qO, qP, qQ, qR, qS, qU, qV, qW, qX, qY, qZ, zd, zp, zr, zv, zx, zE, zJ, zK, zL, zM, zP, ofConst, cells?, List.length_nil, List.length_cons, List.set_cons_zero, splice, zQ, List.getD_eq_getElem?_getD, List.getElem?_cons_zero, ↓reduceIte, Nat.reduceEqDiff, Option.getD_some, zR, arrSz, zT, Bool.not_true, ↓zU, ↓zV, zW, List.nil_append, List.cons_append, List.append_nil, Nat.zero_add, Nat.reduceAdd, Nat.add_zero, reduceCtorEq, freshP, litsP, zZ, leE, leH, leB, leV, leVs, keepP, liveP, wfE, wfB, wfV, wfL, killE, killB, kill, kills, St.kill, List.map_cons, List.map_nil, List.drop_zero, List.take_zero, List.take_nil, List.drop_nil, List.all_cons, List.all_nil, isD, Bool.and_true, Bool.and_self, true_and, and_true, and_self, V.v.injEq, Value.int.injEq, Value.bool.injEq, List.mem_cons, List.not_mem_nil, or_false, false_or, List.length_map, not_false_eq_true, Bool.false_eq_true, Nat.reduceLT, Nat.le_refl, lg0, ka, kc, ke, kf, lg1, kg, kh, kj, lg2, kk, kn, lg3, kq, kr, lg4, ky, lg5, kC, lg6, kG, lg7, kK, lg8, kO, lg9, kS, kW, kX, wb, wc, wh, wj, wq, wr, wx, wy, wC, wD, jo, ↓jp, ↓jr, ↓jt, ↓ju, ↓jv, ↓jy, ↓jz, ↓jA, ↓jB, ↓jE, ↓jG, ↓jH, ↓jW, ↓jX, ↓qan, ↓qao, ↓qat, ↓qau, ↓qav, ↓qaw, ↓qaG, ↓qaJ, ↓qaR, ↓qaT, List.length_map, List.getElem_map, enc_len, enc_take, enc_1, enc_2, enc_isC, encI_0, Int.toNat_natCast, cx0_bn, cx0_fx]
  simp only [br, decide_eq_true_eq, decide_eq_false_iff_not]
  refine ⟨fun hc => ?_, fun hc => ?_⟩
  · obtain ⟨i', q1, q2, q3, q4, q5, q6⟩ := fromK_next (R := R) (k := k) (n := R.length) (R.length - i) i rfl h1 (by omega)
    have hsk : scanTo R k s0 i' = scanTo R k s0 i := scanTo_skip i' q1 q4
    have hpl : p < (fromK R k R.length).length := by omega
    have hget : (fromK R k R.length)[p] = (i' : Int) := by
      rw [h2, List.getElem?_eq_getElem hpl] at q6; simpa using q6
    have hgi : gA R i' = R[i'] := getD_nil (a := ⟨0,0,0,0⟩) q2
    have hto := hT i' q2
    rw [hgi] at hto
    have hp1 : (fromK R k (i' + 1)).length = p + 1 := by rw [fromK_yes q3, q5, List.length_append, h2]; rfl
    have hsc : scanTo R k s0 (i' + 1) = if 0 < R[i'].cap ∧ (scanTo R k s0 i).1.getD R[i'].to.toNat 0 = -2 then ((scanTo R k s0 i).1.set R[i'].to.toNat i', (scanTo R k s0 i).2 ++ [R[i'].to]) else scanTo R k s0 i := by
      conv => lhs; unfold scanTo
      rw [hgi] at q3 ⊢
      rw [hsk]
      simp only [q3, true_and]
    have hmem : (scanTo R k s0 i).1.getD R[i'].to.toNat 0 ≠ -2 ↔ R[i'].to ∈ (scanTo R k s0 i).2 := by
      have := hS1.mem R[i'].to.toNat (by omega)
      rwa [Int.toNat_of_nonneg hto.1] at this
    refine ⟨⟨by omega, hc⟩, by omega, ?_⟩
    simp only [hget]
    generalize hs : scanTo R k s0 i = s at *
    have hnb : n ≤ N := by have := congrArg List.length h4; simp at this; omega
    by_cases hin : R[i'].to ∈ s.2
    · obtain ⟨q, hq⟩ := find_yes (b := s.1) hin
      have hsc2 : scanTo R k s0 (i' + 1) = s := by rw [hsc, if_neg]; exact fun hcc => hmem.2 hin hcc.2
      simp -implicitDefEqProofs only [List.getD_eq_getElem?_getD, List.getElem?_cons_zero, zS, Bool.not_true, Bool.and_true, Bool.and_self, true_and, and_true, and_self, Bool.false_eq_true, lg0, ↓jp, ↓jR, ↓qay, ↓qaC, Int.toNat_natCast, hq, qay, ents_kill, begC_kill, qaC, eq_true begC_wf, eq_true ents_wf]
      refine ⟨⟨by omega, by omega⟩, by omega, fun hc2 => hc2.elim, fun _ => ⟨by simp only [lo, hi]; omega, (p + 1, i' + 1, j, n, w), ⟨⟨Nat.succ_le_of_lt q2, hp1, h3, by show w.drop j = (scanTo R k s0 (i' + 1)).2.drop (h + 1); rw [hsc2]; exact h4⟩, by omega⟩, ⟨by simp, rfl⟩, by simp only [hsc2]; exact ⟨trivial, trivial⟩⟩⟩
    · have hq := find_not (b := s.1) hin
      simp -implicitDefEqProofs only [ofConst, List.getElem?_cons_zero, zS, Bool.not_false, reduceCtorEq, Bool.and_true, Bool.and_self, true_and, and_true, and_self, lg0, ↓jp, ↓jR, ↓qaA, ↓qaD, Int.toNat_natCast, hq, qaA, ents_kill, begC_kill, qaD, eq_true begC_wf, eq_true ents_wf, forall_const]
      refine ⟨⟨by omega, by omega⟩, by omega, ⟨fun hcap => ⟨⟨by omega, by omega⟩, by simp only [lo, hi]; omega, ?_⟩, fun hcap => ⟨by simp only [lo, hi]; omega, (p + 1, i' + 1, j, n, w), ⟨⟨Nat.succ_le_of_lt q2, hp1, h3, ?_⟩, by omega⟩, ⟨by simp, rfl⟩, ?_⟩⟩, fun hc2 => hc2.elim⟩
      · have hsc2 : scanTo R k s0 (i' + 1) = (s.1.set R[i'].to.toNat i', s.2 ++ [R[i'].to]) := by rw [hsc, if_pos ⟨hcap, Decidable.not_not.1 fun hne => hin (hmem.1 hne)⟩]
        have hsl : R[i'].to.toNat < s.1.length := by rw [hS1.len]; omega
        have htk : List.take n (List.drop j w) = List.drop (h + 1) s.2 := by rw [List.take_of_length_le (by simp; omega), h4]
        refine ⟨(p + 1, i' + 1, 0, n + 1, List.drop (h + 1) s.2 ++ [R[i'].to]), ⟨⟨Nat.succ_le_of_lt q2, hp1, ?_, ?_⟩, by omega⟩, ⟨by simp, rfl⟩, ?_, ?_⟩
        · have := congrArg List.length h4
          simp at this ⊢; omega
        · rw [hsc2, List.drop_zero]
          simp only
          have hpre := hS3.length_le
          rw [List.drop_append_of_le_length (by omega)]
        · simp only [hsc2, ents_add ⟨hto.1, hsl⟩ hin (fun v hv => (hS1.rng v hv).1), List.length_append, List.length_cons, List.length_nil]
        · rw [← List.map_drop, ← List.map_take, htk, List.map_append]; rfl
      · have hsc2 : scanTo R k s0 (i' + 1) = s := by rw [hsc, if_neg]; exact fun hcc => hcap hcc.1
        show w.drop j = (scanTo R k s0 (i' + 1)).2.drop (h + 1)
        rw [hsc2]; exact h4
      · have hsc2 : scanTo R k s0 (i' + 1) = s := by rw [hsc, if_neg]; exact fun hcc => hcap hcc.1
        simp only [hsc2]
        exact ⟨trivial, trivial⟩
  · have hpe : p = (fromK R k R.length).length := by
      obtain ⟨l, hl⟩ := fromK_pre (R := R) (k := k) R.length h1
      have := congrArg List.length hl
      rw [List.length_append] at this
      omega
    have hsk : scanTo R k s0 R.length = scanTo R k s0 i := scanTo_skip R.length h1 (fromK_end h1 (by omega))
    rw [← hsk] at h4 ⊢
    exact hX j n w _ _ _ h3 h4
end Go.Fx.F
namespace Go.Fx.F
open Go Go.Fx Go.Proofs
set_option maxRecDepth 20000
structure InO (R : List Arc) (N : Nat) (f : Int) (h j n : Nat) (w : List Int) : Prop where
  hn : j + n = w.length
  hw : w.drop j = (bfsTo R N f h).2.drop h
  hh : h ≤ (bfsTo R N f h).2.length
def pat4 (N m : Nat) (arcs R : List Arc) (f t : Int) (g : Nat × Nat × Nat × List Int) : St :=
  ⟨sE N g.2.1 g.2.2.1, sH N m arcs R f t (bfsTo R N f g.1) g.2.2.2, 0⟩
theorem body36c (N m : Nat) (arcs R : List Arc) (f t : Int) (hN : N ≤ 256) (hm : m < 2048) (hR : R.length = 2 * (m + 1)) (hf : 0 ≤ f ∧ f < N)
    (hT : ∀ i, i < R.length → 0 ≤ (gA R i).to ∧ (gA R i).to < N) {RR : St → Prop} {X : Nat → St → Prop}
    (hX : ∀ (j n : Nat) (w : List Int) b y63 y64 y65, X 4 ⟨(65, y65) :: (64, y64) :: (63, y63) :: sE N j n, sH N m arcs R f t (srch R N f) w, b⟩)
    (g : Nat × Nat × Nat × List Int) (hI : InO R N f g.1 g.2.1 g.2.2.1 g.2.2.2) :
    aw cx0 c36l2 (fun s' => ∃ g' : Nat × Nat × Nat × List Int, (InO R N f g'.1 g'.2.1 g'.2.2.1 g'.2.2.2 ∧ N - g'.1 < N - g.1) ∧ leS cx0.fx s' (pat4 N m arcs R f t g')) X RR (pat4 N m arcs R f t g) := by
  obtain ⟨h, j, n, w⟩ := g
  obtain ⟨h3, h4, h5⟩ := hI
  simp only at h3 h4 h5
  have hS := Srch.bfs hf hT h
  have hord := nodup_le N hS.nod hS.rng
  have hnl : n = (bfsTo R N f h).2.length - h := by have := congrArg List.length h4; simp at this; omega
  unfold c36l2 pat4 sE sH k12
  simp -implicitDefEqProofs only [qE, qF, qI, qJ, qK, qL, qM, qO, qP, qR, qV, qY, qZ, zb, zj, zJ, zL, zM, zP, ofConst, List.length_nil, List.length_cons, zQ, List.getD_eq_getElem?_getD, List.getElem?_cons_zero, ↓reduceIte, Nat.reduceEqDiff, Option.getD_some, zR, arrSz, zT, List.append_nil, Nat.zero_add, Nat.reduceAdd, Option.map_some, Option.map_none, slcOk, Option.getD_none, Bool.and_self, true_and, and_self, List.length_map, lg0, lg1, lg2, lg3, lg4, lg5, lg6, lg7, lg8, lg9, kW, wb, wh, wq, jo, ↓jp, ↓jr, ↓jv, ↓jx, ↓jy, ↓jG, ↓jL, ↓qac, ↓qad, ↓qae, ↓qaT, List.length_map, List.getElem_map, encI_0, Int.toNat_natCast, cx0_fx]
  intro hmx
  simp only [br, decide_eq_true_eq, decide_eq_false_iff_not]
  refine ⟨fun hc => ?_, fun hc => ?_⟩
  · have hjl : j < w.length := by omega
    have hhl : h < (bfsTo R N f h).2.length := by omega
    have hk : w[j] = (bfsTo R N f h).2[h] := by
      have e1 : (w.drop j)[0]? = some w[j] := by rw [List.getElem?_drop, Nat.add_zero, List.getElem?_eq_getElem hjl]
      have e2 : ((bfsTo R N f h).2.drop h)[0]? = some (bfsTo R N f h).2[h] := by rw [List.getElem?_drop, Nat.add_zero, List.getElem?_eq_getElem hhl]
      rw [h4, e2] at e1
      simpa using e1.symm
    have hkm : (bfsTo R N f h).2[h] ∈ (bfsTo R N f h).2 := List.getElem_mem hhl
    have hkr := hS.rng _ hkm
    have hstep : bfsTo R N f (h + 1) = scanTo R w[j] (bfsTo R N f h) R.length := by
      conv => lhs; unfold bfsTo
      rw [List.getElem?_eq_getElem hhl, hk]
    have hS2 := (Srch.scan hf hT hS hkm R.length (Nat.le_refl _)).2.2.length_le
    have hd1 : w.drop (j + 1) = (bfsTo R N f h).2.drop (h + 1) := by
      rw [← List.drop_drop, h4, List.drop_drop]
    have hi1 : Int.toNat 1 = 1 := rfl
    have hi0 : Int.toNat 0 = 0 := rfl
    refine ⟨⟨by omega, by omega⟩, by omega, ⟨⟨by omega, by omega⟩, by omega⟩, ?_⟩
    rw [← hk] at hkr hkm hS2
    refine ⟨by simp only [hi0, Nat.add_zero]; exact hkr, by simp only [hi0, Nat.add_zero, begC_len]; omega, ?_⟩
    simp only [hi0, hi1, Nat.add_zero, begC_get, List.getElem?_cons_zero]
    have hfk : ((w[j].toNat : Nat) : Int) = w[j] := by omega
    unfold begV
    split
    · rename_i hnil
      rw [hfk] at hnil
      have hsk : scanTo R w[j] (bfsTo R N f h) R.length = bfsTo R N f h := scanTo_skip (i := 0) R.length (Nat.zero_le _) (fromK_end (Nat.zero_le _) (by rw [hnil]; simp))
      simp -implicitDefEqProofs only [↓jp, ↓jP]
      refine loopP_intro (fun _ : Unit => ⟨(76, .i 0) :: (75, .i 0) :: sE N (j + 1) (n - 1), sH N m arcs R f t (bfsTo R N f h) w, 0⟩) (fun _ => True) (fun _ => 0) () trivial ?_ ?_
      · unfold sE sH k12
        simp -implicitDefEqProofs only [zP, List.getElem?_cons_zero, ↓reduceIte, Nat.reduceEqDiff, zZ, leE, leH, leB, leV, leVs, keepP, liveP, wfE, wfB, wfV, wfL, Bool.and_self, and_self, lg0, lg1, lg2, lg3, lg4, lg5, lg6, lg7, lg8, lg9, kW, wb, wh, wq, leVs, leV, eq_true begC_wf, eq_true ents_wf]
      · rintro ⟨⟩ -
        have hdf : decide ((0 : Int) < 0) = false := rfl
        unfold c36l3 sE sH k12
        simp -implicitDefEqProofs only [qF, qI, qJ, qM, qO, qP, qZ, zJ, zL, zP, List.length_nil, List.length_cons, List.getElem?_cons_zero, ↓reduceIte, Nat.reduceEqDiff, zR, zT, ↓zV, List.append_nil, Nat.zero_add, Nat.reduceAdd, zZ, leE, leH, leB, leV, leVs, keepP, liveP, wfE, wfB, wfV, wfL, Bool.and_true, Bool.and_self, true_and, and_true, and_self, Nat.reduceLT, lg0, lg1, lg2, lg3, lg4, lg5, lg6, lg7, lg8, lg9, kW, wb, wh, wq, jo, ↓qaR, leVs, leV, hdf]
        refine ⟨(h + 1, j + 1, n - 1, w), ⟨⟨by show j + 1 + (n - 1) = w.length; omega, ?_, ?_⟩, by show N - (h + 1) < N - h; omega⟩, rfl, ?_, ?_⟩
        · show w.drop (j + 1) = (bfsTo R N f (h + 1)).2.drop (h + 1)
          rw [hstep, hsk, hd1]
        · show h + 1 ≤ (bfsTo R N f (h + 1)).2.length
          rw [hstep, hsk]; omega
        · rw [hstep, hsk]; exact ⟨rfl, rfl⟩
        · simp only [eq_true begC_wf, eq_true ents_wf, and_self]
    · rename_i hnn
      rw [hfk] at hnn ⊢
      simp -implicitDefEqProofs only [List.length_map, ↓jp, ↓jM, List.length_map]
      intro hmx2
      refine loopP_intro (pat3 N m arcs R f t w[j] (bfsTo R N f h)) (fun g => InI R w[j] (bfsTo R N f h) h g.1 g.2.1 g.2.2.1 g.2.2.2.1 g.2.2.2.2) (fun g => (fromK R w[j] R.length).length - g.1) (0, 0, j + 1, n - 1, w) ⟨Nat.zero_le _, rfl, ?_, hd1⟩ ?_ (body36d N m arcs R f t w[j] (bfsTo R N f h) h hN hm hR hf hT hS hkm (by omega) ?_)
      · show j + 1 + (n - 1) = w.length; omega
      · unfold pat3 sE sH k12
        simp -implicitDefEqProofs only [zP, List.getElem?_cons_zero, ↓reduceIte, Nat.reduceEqDiff, zZ, leE, leH, leB, leV, leVs, keepP, liveP, wfE, wfB, wfV, wfL, Bool.and_self, and_self, lg0, lg1, lg2, lg3, lg4, lg5, lg6, lg7, lg8, lg9, kW, wb, wh, wq, leVs, leV, eq_true begC_wf, eq_true ents_wf, Int.natCast_zero, scanTo]
      · intro j' n' w' b y z e1 e2
        simp only [↓reduceIte]
        refine ⟨(h + 1, j', n', w'), ⟨⟨e1, ?_, ?_⟩, by show N - (h + 1) < N - h; omega⟩, ?_⟩
        · show w'.drop j' = (bfsTo R N f (h + 1)).2.drop (h + 1)
          rw [hstep]; exact e2
        · show h + 1 ≤ (bfsTo R N f (h + 1)).2.length
          rw [hstep]; omega
        · unfold sE sH k12
          simp -implicitDefEqProofs only [zP, List.getElem?_cons_zero, ↓reduceIte, Nat.reduceEqDiff, zZ, leE, leH, leB, leV, leVs, keepP, liveP, wfE, wfB, wfV, wfL, Bool.and_self, and_self, lg0, lg1, lg2, lg3, lg4, lg5, lg6, lg7, lg8, lg9, kW, wb, wh, wq, leVs, leV, eq_true begC_wf, eq_true ents_wf, hstep]
  · have hle : (bfsTo R N f h).2.length ≤ h := by omega
    rw [srch_of hf hT hle]
    exact hX j n w _ _ _ _
end Go.Fx.F
namespace Go.Fx.F
open Go Go.Fx Go.Proofs
set_option maxRecDepth 20000
def cxN (fx : List Nat) : Cx := ⟨fun f xs h0 mv R => Callable Try.prog f ∧ Fn Try.prog f xs h0 mv R, fx, []⟩
theorem cxN_ok (fx : List Nat) : (cxN fx).ok Try.prog := fun _ _ _ _ _ h => h
/-- A contract of a function that is lent blocks. -/
def OkN (f : FuncId) (xs : List V) (h0 : List Blk) (R : V → List Blk → Prop) : Prop := Callable Try.prog f ∧ Fn Try.prog f xs h0 [] R
theorem okN_of {f : FuncId} {l0 l : LCode} {rs : List LRes} {nt : Nat} (fx : List Nat) (hl : rlF Try.prog f l0 = some (l, rs, nt)) {args : List V} {h0 : List Blk} {R : V → List Blk → Prop} (hlen : args.length ≤ nt) (hb : keepP fx h0) (hfx : fx = List.range h0.length)
    (h : aw (cxN fx) l (retP fx h0.length rs R) (fun _ _ => False) (retP fx h0.length rs R) ⟨args0 0 args, h0, 0⟩) : OkN f args h0 R :=
  ⟨rlF_callable hl, Fn_rl pol (cxN_ok fx) hl hlen hb (fun k hk _ => by show k ∈ fx; rw [hfx, List.mem_range]; exact hk) h⟩
theorem call_isN {cx : Cx} {f : FuncId} {args : List V} {e : Env} {h : List Blk} {b : Nat} {K : V → St → Prop} (ι : List Nat) (xs : List V) (x x' : V) (h0 h1 h' : List Blk) (hC : cx.C f xs h0 [] (IsA x h1))
    (hι : ι.Nodup ∧ ∀ k ∈ ι, k < h.length ∧ k ∉ cx.bn) (r0 : ι.map (fun k => renB (pos ι) (blk h k)) = h0) (ha : lendsOk h (pos ι) args ∧ wkL xs (lends h (pos ι) args)) (hlen : ι.length ≤ h1.length)
    (hh : setAll ι (h1.map (renB (back ι h.length))) h = h') (hx : ren (back ι h.length) x = x') (keep : keepP cx.fx h') (h3 : K x' ⟨e, h', b⟩) : callP cx f args ⟨e, h, b⟩ K := by
  have hkb : ∀ l : List Blk, l.map (killB []) = l := killB_nil
  refine ⟨ι, xs, [], IsA x h1, ⟨hι, by simp⟩, ha.1, ha.2, by rw [r0]; exact hC, ?_⟩
  rintro r h2 ⟨rfl, rfl⟩ _
  simp only [List.filterMap_nil, hkb, killE_nil, hh, hx]
  exact ⟨keep, h3⟩
theorem bi_xr {k : IntKind} {a c : Int} {K : V → Prop} {x : Bool} : binInt .xor x k a c K = K (.v (.int k (k.wrap ((BitVec.ofInt k.bits a ^^^ BitVec.ofInt k.bits c).toNat : Int)))) := rfl
theorem xor1 {i : Nat} (h : i < 1000000) : IntKind.wrap .i64 (((BitVec.ofInt (IntKind.bits .i64) (i : Int) ^^^ BitVec.ofInt (IntKind.bits .i64) 1).toNat : Nat) : Int) = ((if i % 2 = 0 then i + 1 else i - 1 : Nat) : Int) := by
  have h1 : (BitVec.ofInt (IntKind.bits .i64) (i : Int) ^^^ BitVec.ofInt (IntKind.bits .i64) 1).toNat = i ^^^ 1 := by
    rw [BitVec.toNat_xor]
    congr 1
    rw [BitVec.toNat_ofInt]
    show (((i : Int) % ((2 ^ 64 : Nat) : Int)).toNat) = i
    omega
  have h2 : i ^^^ 1 = if i % 2 = 0 then i + 1 else i - 1 := by
    have hd : (i ^^^ 1) / 2 = i / 2 := by
      rw [Nat.xor_div_two]; simp
    have hm := @Nat.xor_mod_two_eq_one i 1
    split <;> omega
  rw [h1, h2]
  exact wrap_in .i64 _ (by simp only [lo, hi]; split <;> omega)
/-- What is left, after a push on one arc. -/
theorem restA_push (arcs : List Arc) (fl : List Int) (k i : Nat) (c : Int) (hi : i < 2 * k) (hk : k = arcs.length) (hl : fl.length = arcs.length) (R : List Arc) (hR : R = restA arcs fl k) (h1 : i < R.length) (j : Nat) (hj : j = if i % 2 = 0 then i + 1 else i - 1) (h2 : j < R.length) :
    (R.set i ⟨R[i].from_, R[i].to, R[i].cap - c, R[i].cost⟩).set j ⟨R[j].from_, R[j].to, R[j].cap + c, R[j].cost⟩ = restA arcs (push1 c fl i) k := by
  subst hR
  have g : ∀ (fl' : List Int) (q : Nat) (hq : q < (restA arcs fl' k).length), (restA arcs fl' k)[q] = if q % 2 = 0 then ⟨(gA arcs (q / 2)).from_, (gA arcs (q / 2)).to, (gA arcs (q / 2)).cap - fl'.getD (q / 2) 0, (gA arcs (q / 2)).cost⟩ else ⟨(gA arcs (q / 2)).to, (gA arcs (q / 2)).from_, fl'.getD (q / 2) 0, IntKind.wrap .i64 (-(gA arcs (q / 2)).cost)⟩ := by
    intro fl' q hq
    rw [restA_len] at hq
    rw [← getD_nil (a := ⟨0,0,0,0⟩) (by rw [restA_len]; exact hq)]
    split
    · rename_i he
      conv => lhs; rw [show q = 2 * (q / 2) by omega]
      rw [restA_even arcs fl' k _ (by omega)]
    · rename_i he
      conv => lhs; rw [show q = 2 * (q / 2) + 1 by omega]
      rw [restA_odd arcs fl' k _ (by omega)]
  have hp : ∀ q, (push1 c fl i).getD q 0 = if q = i / 2 then (if i % 2 = 0 then fl.getD (i / 2) 0 + c else fl.getD (i / 2) 0 - c) else fl.getD q 0 := by
    intro q
    unfold push1
    split
    · rw [getD_set (by omega)]
    · rw [getD_set (by omega)]
  rw [restA_len] at h1 h2
  apply List.ext_getElem
  · simp [restA_len]
  · intro q q1 q2
    rw [restA_len] at q2
    simp only [List.getElem_set, g, hp]
    by_cases e1 : j = q
    · subst e1
      rw [if_pos rfl]
      by_cases e2 : i % 2 = 0
      · have e3 : j = i + 1 := by rw [hj, if_pos e2]
        have e4 : j / 2 = i / 2 := by omega
        have e5 : ¬ j % 2 = 0 := by omega
        simp [e2, e4, e5]
      · have e3 : j = i - 1 := by rw [hj, if_neg e2]
        have e4 : j / 2 = i / 2 := by omega
        have e5 : j % 2 = 0 := by omega
        simp [e2, e4, e5]; omega
    · rw [if_neg e1]
      by_cases e2 : i = q
      · subst e2
        simp only [if_true]
        by_cases e2 : i % 2 = 0
        · simp [e2]; omega
        · simp [e2]
      · rw [if_neg e2]
        have e3 : ¬ q / 2 = i / 2 := by split at hj <;> omega
        simp [e3]
theorem ok55 (N i : Nat) (c : Int) (R : List Arc) (hi : i < R.length) : OkN 55 [.i i, .ptr 0 0 0, .ptr 1 0 0] [.var [.i c], .var [.i N, .sl 2 0 R.length], .arr 4 (R.map Arc.enc)] (IsA (.tup []) [.var [.i (min c R[i].cap)], .var [.i N, .sl 2 0 R.length], .arr 4 (R.map Arc.enc)]) := by
  refine okN_of [0, 1, 2] lw55 (by simp) ⟨trivial, trivial, trivial, trivial⟩ rfl ?_
  unfold c55
  simp -implicitDefEqProofs only [qG, qO, qP, qR, qV, qW, qX, qY, zg, zJ, zK, zL, zP, cells?, List.length_nil, List.length_cons, List.set_cons_zero, splice, zQ, List.getD_eq_getElem?_getD, List.getElem?_cons_zero, ↓reduceIte, Nat.reduceEqDiff, Option.getD_some, zR, arrSz, List.nil_append, List.append_nil, Nat.zero_add, Nat.reduceAdd, reduceCtorEq, resP, tupV, List.reverse_nil, leH, leB, leV, leVs, keepP, liveP, wfB, wfV, wfL, List.take_zero, List.drop_nil, List.all_cons, List.all_nil, isC, Bool.and_true, Bool.and_self, true_and, and_true, and_self, List.not_mem_nil, List.length_map, not_false_eq_true, Bool.false_eq_true, Nat.le_refl, lg0, kc, lg1, jo, ↓jp, ↓jr, ↓ju, ↓jv, ↓jy, ↓jA, ↓jB, ↓jE, ↓jG, List.length_map, List.getElem_map, enc_2, Int.toNat_natCast, args0, cxN, retP_isA]
  exact ⟨⟨by omega, by omega⟩, by omega, trivial⟩
theorem ok56 (N i : Nat) (c : Int) (arcs : List Arc) (fl : List Int) (hi : i < 2 * arcs.length) (hL : arcs.length ≤ 2048) (hl : fl.length = arcs.length) (hc : 0 ≤ c ∧ c ≤ 1073741824) (hb : ∀ q (h : q < (restA arcs fl arcs.length).length), -4294967296 ≤ (restA arcs fl arcs.length)[q].cap ∧ (restA arcs fl arcs.length)[q].cap ≤ 4294967296) :
    OkN 56 [.i i, .ptr 0 0 0, .ptr 1 0 0] [.var [.i N, .sl 2 0 (2 * arcs.length)], .var [.i c], .arr 4 ((restA arcs fl arcs.length).map Arc.enc)] (IsA (.tup []) [.var [.i N, .sl 2 0 (2 * arcs.length)], .var [.i c], .arr 4 ((restA arcs (push1 c fl i) arcs.length).map Arc.enc)]) := by
  refine okN_of [0, 1, 2] lw56 (by simp) ⟨trivial, trivial, trivial, trivial⟩ rfl ?_
  unfold c56
  simp -implicitDefEqProofs only [qG, qI, qO, qP, qR, qV, qW, qX, qY, qZ, zJ, zK, zL, zM, zP, ofConst, cells?, List.length_nil, List.length_cons, List.set_cons_zero, splice, zQ, List.getD_eq_getElem?_getD, List.getElem?_cons_zero, ↓reduceIte, Nat.reduceEqDiff, Option.getD_some, zR, arrSz, List.append_nil, Nat.zero_add, Nat.reduceAdd, reduceCtorEq, resP, tupV, List.reverse_nil, leH, leB, leV, leVs, keepP, liveP, wfB, wfV, wfL, List.all_cons, List.all_nil, isD, isC, Bool.and_true, Bool.and_self, true_and, and_true, and_self, List.not_mem_nil, List.length_map, not_false_eq_true, Nat.reduceLeDiff, Nat.le_refl, lg0, ka, lg1, kg, jo, ↓jp, ↓jr, ↓ju, ↓jv, ↓jy, ↓jA, ↓jC, ↓jE, ↓jG, ↓qaJ, ↓qaL, List.length_map, List.getElem_map, enc_2, Int.toNat_natCast, args0, cxN, retP_isA, ↓bi_xr, xor1 (show i < 1000000 by omega)]
  obtain ⟨j, hj⟩ : ∃ j, j = if i % 2 = 0 then i + 1 else i - 1 := ⟨_, rfl⟩
  have hlen : (restA arcs fl arcs.length).length = 2 * arcs.length := restA_len _ _ _
  have hj1 : j < 2 * arcs.length := by split at hj <;> omega
  have hij : ¬ i = j := by split at hj <;> omega
  have hb1 := hb i (by omega)
  have hb2 := hb j (by omega)
  simp only [← hj]
  refine ⟨⟨by omega, by omega⟩, by omega, ⟨by simp only [lo]; omega, by simp only [Fx.hi]; omega⟩, ⟨by omega, by omega⟩, by omega, ⟨by omega, by omega⟩, by simp only [List.length_set, List.length_map]; omega, ?_⟩
  have e1 : ((List.map Arc.enc (restA arcs fl arcs.length)).set i (List.take 2 (restA arcs fl arcs.length)[i].enc ++ [V.v (Value.int IntKind.i64 ((restA arcs fl arcs.length)[i].cap - c))] ++ List.drop 3 (restA arcs fl arcs.length)[i].enc))[j]'(by simp; omega) = (restA arcs fl arcs.length)[j].enc := by
    rw [List.getElem_set_ne hij, List.getElem_map]
  rw [e1]
  simp -implicitDefEqProofs only [zR, true_and, ↓jp, enc_2]
  refine ⟨⟨by simp only [lo]; omega, by simp only [Fx.hi]; omega⟩, ⟨by omega, by omega⟩, by simp only [List.length_set, List.length_map]; omega, ?_⟩
  rw [← restA_push arcs fl arcs.length i c (by omega) rfl hl _ rfl (by omega) j hj (by omega), List.map_set, List.map_set]
  simp only [e1]
  rfl
end Go.Fx.F
namespace Go.Fx.F
open Go Go.Fx Go.Proofs
set_option maxRecDepth 20000
/-- The blocks that the walk back is lent. -/
def bH (N : Nat) (f t : Int) (R : List Arc) (s : List Int × List Int) (c : Int) : List Blk :=
  [.var [.i t], .var [.i f], .var [.i N, .sl 5 0 R.length], .var [.mp 4], .map (ents s.1 s.2) s.2.length, .arr 4 (R.map Arc.enc), .var [.i c]]
theorem ok54a (N : Nat) (f t : Int) (R : List Arc) (c : Int) (hN : N ≤ 256) (hR : R.length ≤ 4096) (hf : 0 ≤ f ∧ f < N) (hT : ∀ i, i < R.length → 0 ≤ (gA R i).to ∧ (gA R i).to < N) (j0 : Nat) (hS : Srch R N f (srch R N f)) (hj0 : (srch R N f).2[j0]? = some t) :
    OkN 54 [.clo 55 [.ptr 6 0 0, .ptr 2 0 0], .ptr 0 0 0, .ptr 1 0 0, .ptr 2 0 0, .ptr 3 0 0] (bH N f t R (srch R N f) c)
      (IsA (.tup []) (bH N f t R (srch R N f) (leastOf R (walk R (srch R N f) j0 t) c))) := by
  refine okN_of [0, 1, 2, 3, 4, 5, 6] lw54 (by simp) ⟨trivial, trivial, trivial, trivial, trivial, trivial, trivial, trivial⟩ rfl ?_
  unfold c54 bH
  simp -implicitDefEqProofs only [qF, qI, qK, qL, qO, qP, qR, qV, zJ, zL, zP, List.length_nil, List.length_cons, zQ, List.getD_eq_getElem?_getD, List.getElem?_cons_zero, ↓reduceIte, Option.getD_some, List.append_nil, Nat.zero_add, Nat.reduceAdd, reduceCtorEq, jo, ↓jp, ↓jr, ↓ju, ↓jy, args0, cxN]
  generalize hs : srch R N f = s at *
  refine loopP_intro (fun g : Nat × Int × Int => ⟨[(6, .i g.2.1), (4, .ptr 3 0 0), (3, .ptr 2 0 0), (2, .ptr 1 0 0), (1, .ptr 0 0 0), (0, .clo 55 [.ptr 6 0 0, .ptr 2 0 0])], bH N f t R s g.2.2, 0⟩)
    (fun g => s.2[g.1]? = some g.2.1 ∧ leastOf R (walk R s g.1 g.2.1) g.2.2 = leastOf R (walk R s j0 t) c) (fun g => g.1) (j0, t, c) ⟨hj0, rfl⟩ ?_ ?_
  · unfold bH
    simp -implicitDefEqProofs only [zP, List.getElem?_cons_zero, ↓reduceIte, Nat.reduceEqDiff, reduceCtorEq, zZ, leE, leH, leB, leV, leVs, keepP, liveP, wfE, wfB, wfV, wfL, Bool.and_self, and_self, lg0, lg1, lg2, lg3, lg4, lg5, leVs, leV, eq_true ents_wf]
  rintro ⟨j, v, c'⟩ ⟨hjv, hle⟩
  simp only at hjv hle
  have hvr := hS.rng v (List.mem_of_getElem? hjv)
  unfold c54l0 bH
  rcases hS.pos hjv with ⟨rfl, rfl⟩ | ⟨hj, hvf⟩
  · simp -implicitDefEqProofs only [qF, qI, qJ, qM, qO, qP, qR, qV, qZ, zJ, zL, zP, List.length_nil, List.length_cons, zQ, List.getD_eq_getElem?_getD, List.getElem?_cons_zero, ↓reduceIte, Nat.reduceEqDiff, Option.getD_some, zR, zT, ↓zV, List.append_nil, Nat.zero_add, Nat.reduceAdd, resP, tupV, List.reverse_nil, leH, leB, leV, leVs, keepP, liveP, wfB, wfV, wfL, Bool.and_true, Bool.and_self, true_and, and_true, and_self, V.v.injEq, Value.int.injEq, Value.bool.injEq, Nat.le_refl, lg0, lg1, lg2, lg3, lg4, lg5, jo, ↓jp, ↓jr, ↓ju, ↓jy, ↓qaQ, bne_self_eq_false, retP_isA, leVs, leV, eq_true ents_wf]
    rw [walk_root hS] at hle
    exact hle
  · cases j with
    | zero => omega
    | succ j =>
    obtain ⟨i, h1, h2, h3, h4, ⟨j', h5, h6⟩, h7⟩ := walk_step hS (by omega) hjv j
    obtain ⟨q, hq⟩ := find_yes (b := s.1) (List.mem_of_getElem? hjv)
    rw [h2] at hq
    have hvf2 : (v != f) = true := by simpa using hvf
    simp -implicitDefEqProofs only [qE, qF, qI, qJ, qK, qO, qP, qR, qV, qZ, zx, zG, zJ, zL, zP, List.length_nil, List.length_cons, zQ, List.getD_eq_getElem?_getD, List.getElem?_cons_zero, ↓reduceIte, Nat.reduceEqDiff, Option.getD_some, zR, zT, ↓zU, List.nil_append, List.cons_append, List.append_nil, Nat.zero_add, Nat.reduceAdd, reduceCtorEq, List.map_cons, List.map_nil, true_and, lg0, lg1, lg2, lg3, jo, ↓jp, ↓jr, ↓ju, ↓jy, ↓jU, ↓qat, ↓qav, ↓qaw, ↓qaz, ↓qaG, ↓qaQ, hvf2, hq, qaG, qaw, qaz]
    have hgi : gA R i = R[i] := getD_nil (a := ⟨0,0,0,0⟩) h1
    refine call_isN [6, 2, 5] [.i i, .ptr 0 0 0, .ptr 1 0 0] (.tup []) (.tup []) [.var [.i c'], .var [.i N, .sl 2 0 R.length], .arr 4 (R.map Arc.enc)] [.var [.i (min c' R[i].cap)], .var [.i N, .sl 2 0 R.length], .arr 4 (R.map Arc.enc)] (bH N f t R s (min c' R[i].cap)) (ok55 N i c' R h1) (by simp) rfl (by simp [lendsOk, lendOk, lends, lend, wkL, wk, pos]) (by simp) rfl rfl ⟨trivial, trivial, trivial, trivial, trivial, trivial, trivial, trivial⟩ ?_
    unfold bH
    simp -implicitDefEqProofs only [qF, qO, qP, qR, qV, qX, qY, zx, zJ, zL, zP, List.length_nil, List.length_cons, zQ, List.getD_eq_getElem?_getD, List.getElem?_cons_zero, ↓reduceIte, Nat.reduceEqDiff, Option.getD_some, zR, arrSz, List.append_nil, Nat.zero_add, Nat.reduceAdd, Nat.add_zero, reduceCtorEq, zZ, leE, leH, leB, leV, leVs, keepP, liveP, wfE, wfB, wfV, wfL, Bool.and_true, Bool.and_self, true_and, and_true, and_self, V.v.injEq, Value.int.injEq, Value.bool.injEq, List.length_map, lg0, lg1, lg2, lg3, lg4, lg5, jo, ↓jp, ↓jr, ↓ju, ↓jv, ↓jy, ↓jE, ↓jG, ↓qat, ↓qav, ↓qaw, ↓qaz, ↓qaG, List.length_map, List.getElem_map, enc_0, Int.toNat_natCast, hq, qaG, qaw, qaz, leVs, leV, eq_true ents_wf]
    refine ⟨⟨by omega, by omega⟩, h1, (j', R[i].from_, min c' R[i].cap), ⟨⟨by rw [← hgi]; exact h6, ?_⟩, h5⟩, rfl, rfl⟩
    rw [← hle, h7, ← hgi, ← walk_fuel hS j' _ j h6 (by omega)]
    rfl
theorem restA_from (arcs : List Arc) (fl fl' : List Int) (k i : Nat) (hi : i < 2 * k) : (gA (restA arcs fl k) i).from_ = (gA (restA arcs fl' k) i).from_ := by
  by_cases h : i % 2 = 0
  · rw [show i = 2 * (i / 2) by omega, restA_even arcs fl k _ (by omega), restA_even arcs fl' k _ (by omega)]
  · rw [show i = 2 * (i / 2) + 1 by omega, restA_odd arcs fl k _ (by omega), restA_odd arcs fl' k _ (by omega)]
theorem restA_cap (arcs : List Arc) (fl : List Int) (k q : Nat) (h : q < (restA arcs fl k).length) (hc : ∀ q, 0 ≤ (gA arcs q).cap ∧ (gA arcs q).cap ≤ 1073741824) (hb : ∀ q, -1073741824 ≤ fl.getD q 0 ∧ fl.getD q 0 ≤ 2147483648) : -4294967296 ≤ (restA arcs fl k)[q].cap ∧ (restA arcs fl k)[q].cap ≤ 4294967296 := by
  have hq := h
  rw [restA_len] at hq
  have h1 := hc (q / 2)
  have h2 := hb (q / 2)
  rw [← getD_nil (a := ⟨0,0,0,0⟩) h]
  by_cases hp : q % 2 = 0
  · conv => rw [show q = 2 * (q / 2) by omega]
    rw [restA_even arcs fl k _ (by omega)]
    simp only
    omega
  · conv => rw [show q = 2 * (q / 2) + 1 by omega]
    rw [restA_odd arcs fl k _ (by omega)]
    simp only
    omega
theorem caps_in {N : Nat} {arcs : List Arc} (hV : Val N arcs) : ∀ q, 0 ≤ (gA arcs q).cap ∧ (gA arcs q).cap ≤ 1073741824 := by
  intro q
  by_cases h : q < arcs.length
  · rw [getD_nil (a := ⟨0,0,0,0⟩) h]
    exact (hV.ha arcs[q] (List.getElem_mem h)).2
  · simp [gA, List.getD_eq_getElem?_getD, List.getElem?_eq_none (show arcs.length ≤ q by omega)]
theorem ok54b (N : Nat) (f t : Int) (arcs : List Arc) (fl : List Int) (c : Int) (hV : Val N arcs) (hl : fl.length = arcs.length) (hp : possP arcs fl) (hc : 0 ≤ c ∧ c ≤ 1073741824) (hf : 0 ≤ f ∧ f < N) (j0 : Nat) (hj0 : (srch (restA arcs fl arcs.length) N f).2[j0]? = some t) :
    OkN 54 [.clo 56 [.ptr 2 0 0, .ptr 6 0 0], .ptr 0 0 0, .ptr 1 0 0, .ptr 2 0 0, .ptr 3 0 0] (bH N f t (restA arcs fl arcs.length) (srch (restA arcs fl arcs.length) N f) c)
      (IsA (.tup []) (bH N f t (restA arcs (pushAll c fl (walk (restA arcs fl arcs.length) (srch (restA arcs fl arcs.length) N f) j0 t)) arcs.length) (srch (restA arcs fl arcs.length) N f) c)) := by
  have hL := hV.hl
  have hN := hV.hn
  have hS : Srch (restA arcs fl arcs.length) N f (srch (restA arcs fl arcs.length) N f) := Srch.bfs hf (rest_to hV fl) N
  have hh := walk_halves arcs N f fl hS j0 t hj0
  have ha := walk_arcs hS j0 t hj0
  refine okN_of [0, 1, 2, 3, 4, 5, 6] lw54 (by simp) ⟨trivial, trivial, trivial, trivial, trivial, trivial, trivial, trivial⟩ rfl ?_
  unfold c54 bH
  simp -implicitDefEqProofs only [qF, qI, qK, qL, qO, qP, qR, qV, zJ, zL, zP, List.length_nil, List.length_cons, zQ, List.getD_eq_getElem?_getD, List.getElem?_cons_zero, ↓reduceIte, Option.getD_some, List.append_nil, Nat.zero_add, Nat.reduceAdd, reduceCtorEq, jo, ↓jp, ↓jr, ↓ju, ↓jy, args0, cxN, restA_len]
  generalize hs : srch (restA arcs fl arcs.length) N f = s at *
  generalize hW : walk (restA arcs fl arcs.length) s j0 t = W at *
  refine loopP_intro (fun g : Nat × Int × List Nat => ⟨[(6, .i g.2.1), (4, .ptr 3 0 0), (3, .ptr 2 0 0), (2, .ptr 1 0 0), (1, .ptr 0 0 0), (0, .clo 56 [.ptr 2 0 0, .ptr 6 0 0])], bH N f t (restA arcs (pushAll c fl g.2.2) arcs.length) s c, 0⟩)
    (fun g => s.2[g.1]? = some g.2.1 ∧ W = g.2.2 ++ walk (restA arcs fl arcs.length) s g.1 g.2.1) (fun g => g.1) (j0, t, []) ⟨hj0, by rw [hW]; rfl⟩ ?_ ?_
  · unfold bH
    simp -implicitDefEqProofs only [zP, List.getElem?_cons_zero, ↓reduceIte, Nat.reduceEqDiff, reduceCtorEq, zZ, leE, leH, leB, leV, leVs, keepP, liveP, wfE, wfB, wfV, wfL, Bool.and_self, and_self, lg0, lg1, lg2, lg3, lg4, lg5, leVs, leV, eq_true ents_wf, restA_len, pushAll, List.foldl_nil]
  rintro ⟨j, v, p1⟩ ⟨hjv, hw⟩
  simp only at hjv hw
  have hvr := hS.rng v (List.mem_of_getElem? hjv)
  unfold c54l0 bH
  rcases hS.pos hjv with ⟨rfl, rfl⟩ | ⟨hj, hvf⟩
  · rw [walk_root hS, List.append_nil] at hw
    simp -implicitDefEqProofs only [qF, qI, qJ, qM, qO, qP, qR, qV, qZ, zJ, zL, zP, List.length_nil, List.length_cons, zQ, List.getD_eq_getElem?_getD, List.getElem?_cons_zero, ↓reduceIte, Nat.reduceEqDiff, Option.getD_some, zR, zT, ↓zV, List.append_nil, Nat.zero_add, Nat.reduceAdd, resP, tupV, List.reverse_nil, leH, leB, leV, leVs, keepP, liveP, wfB, wfV, wfL, Bool.and_self, and_self, Nat.le_refl, lg0, lg1, lg2, lg3, lg4, lg5, jo, ↓jp, ↓jr, ↓ju, ↓jy, ↓qaQ, bne_self_eq_false, retP_isA, leVs, leV, eq_true ents_wf, hw, restA_len]
  · cases j with
    | zero => omega
    | succ j =>
    obtain ⟨i, h1, h2, h3, h4, ⟨j', h5, h6⟩, h7⟩ := walk_step hS (by omega) hjv j
    obtain ⟨q, hq⟩ := find_yes (b := s.1) (List.mem_of_getElem? hjv)
    rw [h2] at hq
    have hvf2 : (v != f) = true := by simpa using hvf
    have hi1 := h1
    rw [restA_len] at hi1
    have hp1 : (p1.map (· / 2)).Nodup := by
      rw [hw, List.map_append] at hh
      exact (List.nodup_append.1 hh).1
    have hval := pushAll_get (d := c) (fl := fl) hp1 (fun i2 hi2 => by
      have := (ha i2 (by rw [hw]; exact List.mem_append_left _ hi2)).1
      rw [restA_len] at this; omega)
    have hbd : ∀ q, -1073741824 ≤ (pushAll c fl p1).getD q 0 ∧ (pushAll c fl p1).getD q 0 ≤ 2147483648 := by
      intro q
      have h0 : 0 ≤ fl.getD q 0 ∧ fl.getD q 0 ≤ 1073741824 := by
        by_cases hq : q < arcs.length
        · have := (poss_iff hl).1 hp q hq
          have := caps_in hV q
          omega
        · simp [List.getD_eq_getElem?_getD, List.getElem?_eq_none (show fl.length ≤ q by omega)]
      rw [hval]
      split <;> split <;> omega
    have hstep : pushAll c fl (p1 ++ [i]) = push1 c (pushAll c fl p1) i := by simp [pushAll, List.foldl_append]
    have e56 := ok56 N i c arcs (pushAll c fl p1) hi1 hL (by rw [pushAll_len, hl]) hc (fun q h => restA_cap arcs _ _ q h (caps_in hV) hbd)
    rw [← hstep] at e56
    simp -implicitDefEqProofs only [qE, qF, qI, qJ, qK, qO, qP, qR, qV, qZ, zx, zG, zJ, zL, zP, List.length_nil, List.length_cons, zQ, List.getD_eq_getElem?_getD, List.getElem?_cons_zero, ↓reduceIte, Nat.reduceEqDiff, Option.getD_some, zR, zT, ↓zU, List.nil_append, List.cons_append, List.append_nil, Nat.zero_add, Nat.reduceAdd, reduceCtorEq, List.map_cons, List.map_nil, true_and, lg0, lg1, lg2, lg3, jo, ↓jp, ↓jr, ↓ju, ↓jy, ↓jU, ↓qat, ↓qav, ↓qaw, ↓qaz, ↓qaG, ↓qaQ, hvf2, hq, qaG, qaw, qaz, restA_len]
    refine call_isN [2, 6, 5] [.i i, .ptr 0 0 0, .ptr 1 0 0] (.tup []) (.tup []) [.var [.i N, .sl 2 0 (2 * arcs.length)], .var [.i c], .arr 4 ((restA arcs (pushAll c fl p1) arcs.length).map Arc.enc)] [.var [.i N, .sl 2 0 (2 * arcs.length)], .var [.i c], .arr 4 ((restA arcs (pushAll c fl (p1 ++ [i])) arcs.length).map Arc.enc)] (bH N f t (restA arcs (pushAll c fl (p1 ++ [i])) arcs.length) s c) e56 (by simp) rfl (by simp [lendsOk, lendOk, lends, lend, wkL, wk, pos]) (by simp) (by unfold bH; rw [restA_len]; rfl) rfl ⟨trivial, trivial, trivial, trivial, trivial, trivial, trivial, trivial⟩ ?_
    unfold bH
    simp -implicitDefEqProofs only [qF, qO, qP, qR, qV, qX, qY, zx, zJ, zL, zP, List.length_nil, List.length_cons, zQ, List.getD_eq_getElem?_getD, List.getElem?_cons_zero, ↓reduceIte, Nat.reduceEqDiff, Option.getD_some, zR, arrSz, List.append_nil, Nat.zero_add, Nat.reduceAdd, Nat.add_zero, reduceCtorEq, zZ, leE, leH, leB, leV, leVs, keepP, liveP, wfE, wfB, wfV, wfL, Bool.and_true, Bool.and_self, true_and, and_true, and_self, V.v.injEq, Value.int.injEq, Value.bool.injEq, List.length_map, lg0, lg1, lg2, lg3, lg4, lg5, jo, ↓jp, ↓jr, ↓ju, ↓jv, ↓jy, ↓jE, ↓jG, ↓qat, ↓qav, ↓qaw, ↓qaz, ↓qaG, List.length_map, List.getElem_map, enc_0, Int.toNat_natCast, hq, qaG, qaw, qaz, leVs, leV, eq_true ents_wf, restA_len]
    have hgi : (gA (restA arcs fl arcs.length) i).from_ = ((restA arcs (pushAll c fl (p1 ++ [i])) arcs.length)[i]'(by rw [restA_len]; exact hi1)).from_ := by
      rw [restA_from arcs fl (pushAll c fl (p1 ++ [i])) _ _ hi1]
      rw [getD_nil (a := ⟨0,0,0,0⟩) (by rw [restA_len]; exact hi1)]
    refine ⟨⟨by omega, by omega⟩, by omega, (j', (gA (restA arcs fl arcs.length) i).from_, p1 ++ [i]), ⟨⟨h6, ?_⟩, h5⟩, by rw [hgi], rfl⟩
    show W = (p1 ++ [i]) ++ walk (restA arcs fl arcs.length) s j' (gA (restA arcs fl arcs.length) i).from_
    rw [hw, h7, walk_fuel hS j' _ j h6 (by omega)]
    simp
end Go.Fx.F
namespace Go.Fx.F
open Go Go.Fx Go.Proofs
set_option maxRecDepth 20000
/-- The heap when the answer is put together. -/
def eH (N m : Nat) (arcs R : List Arc) (f t : Int) (s : List Int × List Int) (w : List Int) (l : List Int) (cut : List Bool) : List Blk :=
  k12 N m arcs R f t (begC R N) [.map (ents s.1 s.2) s.2.length, .var [.mp 12], .arr 1 (w.map encI), .arr 1 (l.map encI), .arr 1 (cut.map encB)]
theorem take_set {l : List Int} {i : Nat} (h : i < l.length) : ((l.take i ++ List.replicate (l.length - i) 0).set i l[i]) = l.take (i + 1) ++ List.replicate (l.length - (i + 1)) 0 := by
  apply List.ext_getElem
  · simp; omega
  · intro q h1 h2
    rw [List.getElem_set]
    by_cases e : i = q
    · subst e
      simp [List.getElem_append, h]
      omega
    · rw [if_neg e]
      simp only [List.getElem_append, List.length_take, List.getElem_take, List.getElem_replicate]
      by_cases e2 : q < i
      · rw [dif_pos (by omega), dif_pos (by omega)]
      · rw [dif_neg (by omega), dif_neg (by omega)]
def pat5 (N m : Nat) (arcs R : List Arc) (f t : Int) (s : List Int × List Int) (w fl : List Int) (i : Nat) : St :=
  ⟨[(126, .i i), (125, .i fl.length), (23, .sl 16 0 N), (22, .sl 15 0 fl.length), (12, .ptr 13 0 0), (8, .ptr 4 0 0)], eH N m arcs R f t s w (fl.take i ++ List.replicate (fl.length - i) 0) (List.replicate N false), 0⟩
theorem body36e (N m : Nat) (arcs : List Arc) (f t : Int) (s : List Int × List Int) (w fl : List Int) (hm : arcs.length = m + 1) (hL : arcs.length ≤ 2048) (hl : fl.length = arcs.length) {RR : St → Prop} {X : Nat → St → Prop}
    (hX : ∀ b y z, X 8 ⟨(127, y) :: (126, z) :: [(125, .i fl.length), (23, .sl 16 0 N), (22, .sl 15 0 fl.length), (12, .ptr 13 0 0), (8, .ptr 4 0 0)], eH N m arcs (restA arcs fl (m + 1)) f t s w fl (List.replicate N false), b⟩)
    (i : Nat) (hi : i ≤ fl.length) :
    aw cx0 c36l4 (fun s' => ∃ g' : Nat, (g' ≤ fl.length ∧ fl.length - g' < fl.length - i) ∧ leS cx0.fx s' (pat5 N m arcs (restA arcs fl (m + 1)) f t s w fl g')) X RR (pat5 N m arcs (restA arcs fl (m + 1)) f t s w fl i) := by
  have hRl : (restA arcs fl (m + 1)).length = 2 * (m + 1) := restA_len _ _ _
  unfold c36l4 pat5 eH k12
  simp -implicitDefEqProofs only [qE, qF, qI, qJ, qK, qM, qO, qP, qR, qV, qW, qX, qY, qZ, zJ, zK, zL, zM, zP, ofConst, cells?, List.length_nil, List.length_cons, List.set_cons_zero, splice, zQ, List.getD_eq_getElem?_getD, List.getElem?_cons_zero, ↓reduceIte, Nat.reduceEqDiff, Option.getD_some, zR, arrSz, zT, List.nil_append, List.append_nil, Nat.zero_add, Nat.reduceAdd, zZ, leE, leH, leB, leV, leVs, keepP, liveP, wfE, wfB, wfV, wfL, List.take_zero, List.all_cons, List.all_nil, isD, isC, Bool.and_true, Bool.and_self, true_and, and_true, and_self, V.v.injEq, Value.int.injEq, Value.bool.injEq, List.not_mem_nil, List.length_append, List.length_map, List.length_replicate, not_false_eq_true, Nat.le_refl, lg0, ka, lg1, kg, lg2, kk, lg3, kq, lg4, ky, lg5, kC, lg6, kG, lg7, kK, lg8, kO, lg9, kS, kW, kX, wb, wc, wh, wj, wq, wr, wx, wy, wC, jo, ↓jp, ↓jr, ↓ju, ↓jv, ↓jy, ↓jA, ↓jC, ↓jE, ↓jG, ↓qaJ, ↓qaN, ↓qaR, List.length_map, List.getElem_map, enc_2, Int.toNat_natCast, encI_drop, cx0_bn, cx0_fx, hRl, encI_drop]
  simp only [br, decide_eq_true_eq, decide_eq_false_iff_not]
  refine ⟨fun hc => ?_, fun hc => ?_⟩
  · have hil : i < fl.length := by omega
    have hcast : (2 * (i : Int) + 1).toNat = 2 * i + 1 := by omega
    have hcap : ∀ h : 2 * i + 1 < (restA arcs fl (m + 1)).length, (restA arcs fl (m + 1))[2 * i + 1].cap = fl[i] := by
      intro h
      rw [← getD_nil (a := ⟨0,0,0,0⟩) h, restA_odd arcs fl _ _ (by omega)]
      simp [List.getD_eq_getElem?_getD, List.getElem?_eq_getElem hil]
    simp only [hcast, hcap, eq_true begC_wf, eq_true ents_wf]
    refine ⟨⟨by simp only [lo]; omega, by simp only [Fx.hi]; omega⟩, ⟨by simp only [lo]; omega, by simp only [Fx.hi]; omega⟩, ⟨by omega, by omega⟩, by omega, ⟨by omega, by omega⟩, by simp; omega, ⟨by simp only [lo]; omega, by simp only [Fx.hi]; omega⟩, i + 1, ⟨by omega, by omega⟩, by omega, ?_, trivial, trivial⟩
    rw [show [V.v (Value.int IntKind.i64 fl[i])] = encI fl[i] from rfl, ← List.map_set, take_set hil]
  · have : i = fl.length := by omega
    subst this
    have := hX 17 (.b (decide ((fl.length : Int) < fl.length))) (.i fl.length)
    unfold eH k12 at this
    simpa using this
/-- The nodes whose places in the order of finding were seen. -/
def cutS (N : Nat) (ord : List Int) (seen : List Nat) : List Bool := (List.range N).map fun (q : Nat) => seen.any fun j => ord[j]? == some (q : Int)
theorem cutS_nil {N : Nat} {ord : List Int} : cutS N ord [] = List.replicate N false := by
  apply List.ext_getElem
  · simp [cutS]
  · intro q h1 h2; simp [cutS]
theorem cutS_add {N : Nat} {ord : List Int} {seen : List Nat} {j : Nat} {v : Int} (hn : ord.Nodup) (hj : ord[j]? = some v) (hv : 0 ≤ v) : (cutS N ord seen).set v.toNat true = cutS N ord (seen ++ [j]) := by
  apply List.ext_getElem
  · simp [cutS]
  · intro q h1 h2
    simp only [cutS, List.getElem_set, List.getElem_map, List.getElem_range, List.any_append, List.any_cons, List.any_nil, Bool.or_false, hj]
    by_cases e : v.toNat = q
    · have : (some v == some (q : Int)) = true := by simp; omega
      simp [e, this]
    · have : (some v == some (q : Int)) = false := by simp; omega
      simp [e, this]
theorem cutS_all {R : List Arc} {N : Nat} {f : Int} {s : List Int × List Int} (hS : Srch R N f s) {seen : List Nat} (h : ∀ j, j < s.2.length → j ∈ seen) : cutS N s.2 seen = cutK N s.1 N := by
  unfold cutS cutK
  refine List.map_congr_left fun q hq => ?_
  rw [List.mem_range] at hq
  have hm := hS.mem q hq
  simp only [hq, decide_true, Bool.true_and]
  rw [Bool.eq_iff_iff, List.any_eq_true]
  simp only [beq_iff_eq, bne_iff_ne]
  rw [hm]
  constructor
  · rintro ⟨j, _, h2⟩
    exact List.mem_of_getElem? h2
  · intro h2
    obtain ⟨j, h3, h4⟩ := List.getElem_of_mem h2
    exact ⟨j, h j h3, by rw [List.getElem?_eq_getElem h3, h4]⟩
theorem ents_mem {b ord : List Int} {e : Value × V × Nat} (h : e ∈ ents b ord) : ∃ v, ord[e.2.2]? = some v ∧ e = (.int .i64 v, V.i (b.getD v.toNat 0), e.2.2) := by
  unfold ents at h
  rw [List.mem_map] at h
  obtain ⟨⟨v, j⟩, h1, rfl⟩ := h
  have h2 := List.mem_zipIdx' h1
  exact ⟨v, by simp only [ent1]; rw [h2.2]; exact List.getElem?_eq_getElem h2.1, rfl⟩
theorem ents_find {b ord : List Int} {e : Value × V × Nat} (h : e ∈ ents b ord) : (ents b ord).find? (fun q => q.2.2 == e.2.2) = some e := by
  obtain ⟨v, h1, h2⟩ := ents_mem h
  obtain ⟨x, hx⟩ : ∃ x, (ents b ord).find? (fun q => q.2.2 == e.2.2) = some x := by
    rw [← Option.isSome_iff_exists, List.find?_isSome]
    exact ⟨e, h, by simp⟩
  have h3 := List.mem_of_find?_eq_some hx
  have h4 := List.find?_some hx
  obtain ⟨v', h5, h6⟩ := ents_mem h3
  simp only [beq_iff_eq] at h4
  rw [h4, h1] at h5
  simp only [Option.some.injEq] at h5
  subst h5
  rw [hx, h6, h2, h4]
theorem ents_at {b ord : List Int} {j : Nat} (h : j < ord.length) : ∃ e ∈ ents b ord, e.2.2 = j := by
  refine ⟨ent1 b (ord[j], j), ?_, rfl⟩
  unfold ents
  exact List.mem_map_of_mem (List.mem_zipIdx_iff_getElem?.2 (by simp [h]))
theorem ents_born {b ord : List Int} : ((ents b ord).all fun e => decide (e.2.2 < ord.length)) = true := by
  rw [List.all_eq_true]
  intro e he
  obtain ⟨v, h1, _⟩ := ents_mem he
  have := (List.getElem?_eq_some_iff.1 h1).1
  simpa using this
def left (n : Nat) (seen : List Nat) : Nat := ((List.range n).filter fun j => !seen.contains j).length
theorem left_less {n j : Nat} {seen : List Nat} (hj : j < n) (h : seen.contains j = false) : left n (seen ++ [j]) < left n seen := by
  unfold left
  have e : (List.range n).filter (fun q => !(seen ++ [j]).contains q) = ((List.range n).filter fun q => !seen.contains q).filter fun q => !decide (q = j) := by
    rw [List.filter_filter]
    refine List.filter_congr fun q _ => ?_
    simp
    exact Bool.and_comm _ _
  rw [e, List.length_filter_lt_length_iff_exists]
  exact ⟨j, by simp at h; simp [hj, h], by simp⟩
def pat6 (N m : Nat) (arcs R : List Arc) (f t : Int) (s : List Int × List Int) (w fl : List Int) (seen : List Nat) : St :=
  ⟨[(142, .ptr 17 0 0), (23, .sl 16 0 N), (22, .sl 15 0 fl.length)], eH N m arcs R f t s w fl (cutS N s.2 seen) ++ [.it (.mp 12) s.2.length seen s.2.length], 0⟩
theorem body36f (N m : Nat) (arcs R : List Arc) (f t : Int) (s : List Int × List Int) (w fl : List Int) (hS : Srch R N f s) {RR : St → Prop} {X : Nat → St → Prop}
    (hX : ∀ b sn x y, X 10 ⟨(144, x) :: (143, y) :: [(142, .ptr 17 0 0), (23, .sl 16 0 N), (22, .sl 15 0 fl.length)], eH N m arcs R f t s w fl (cutK N s.1 N) ++ [.it (.mp 12) s.2.length sn s.2.length], b⟩)
    (seen : List Nat) :
    aw cx0 c36l5 (fun s' => ∃ g' : List Nat, (True ∧ left s.2.length g' < left s.2.length seen) ∧ leS cx0.fx s' (pat6 N m arcs R f t s w fl g')) X RR (pat6 N m arcs R f t s w fl seen) := by
  unfold c36l5 pat6 eH k12
  simp -implicitDefEqProofs only [qE, qF, qI, qJ, qK, qM, qO, qP, qR, qW, qY, zB, zC, zE, zJ, zK, zL, zM, zP, ofConst, cells?, List.length_nil, List.length_cons, List.set_cons_zero, splice, zQ, List.getD_eq_getElem?_getD, List.getElem?_cons_zero, ↓reduceIte, Nat.reduceEqDiff, Option.getD_some, arrSz, zT, ↓zU, ↓zV, List.nil_append, List.cons_append, List.append_nil, Nat.zero_add, Nat.reduceAdd, zZ, leE, leH, leB, leV, leVs, keepP, liveP, wfE, wfB, wfV, wfL, List.take_zero, List.all_cons, List.all_nil, isD, isC, Bool.and_true, Bool.and_self, true_and, and_true, and_self, List.not_mem_nil, List.length_map, not_false_eq_true, Nat.le_refl, lg0, ka, lg1, kg, lg2, kk, lg3, kq, lg4, ky, lg5, kC, lg6, kG, lg7, kK, lg8, kO, lg9, kS, kW, kX, wb, wc, wh, wj, wq, wr, wx, wy, wC, wD, wH, wI, jo, ↓jp, ↓jA, ↓jC, ↓jG, ↓jR, ↓qau, ↓qav, ↓qaH, ↓qaI, List.length_map, List.getElem_map, cx0_bn, cx0_fx, encB_drop]
  refine ⟨⟨ents_born, Nat.le_refl _⟩, fun hall => ?_, fun e he hne => ?_⟩
  · have hcut : cutS N s.2 seen = cutK N s.1 N := cutS_all hS fun j hj => by
      obtain ⟨e, h1, h2⟩ := ents_at (b := s.1) hj
      have := List.all_eq_true.1 hall e h1
      rw [h2] at this
      simpa using this
    rw [hcut]
    exact hX _ _ _ _
  · obtain ⟨v, h1, h2⟩ := ents_mem he
    have hvr := hS.rng v (List.mem_of_getElem? h1)
    have hj := (List.getElem?_eq_some_iff.1 h1).1
    have hfind := ents_find he
    rw [List.getLast?_concat]
    simp -implicitDefEqProofs only [List.getElem?_cons_zero, ↓jp, ↓jR, ↓qaE, hfind, ↓qaE]
    rw [h2]
    simp -implicitDefEqProofs only [zR, Bool.and_true, Bool.and_self, and_true, and_self, eq_true begC_wf, eq_true ents_wf]
    refine ⟨hvr, ?_, seen ++ [e.2.2], left_less hj hne, ?_, rfl⟩
    · simp [cutS]; omega
    · rw [show [V.v (Value.bool true)] = encB true from rfl, ← List.map_set, cutS_add hS.nod h1 hvr.1]
end Go.Fx.F
namespace Go.Fx.F
open Go Go.Fx Go.Proofs
set_option maxRecDepth 20000
def pat2 (N m : Nat) (arcs : List Arc) (f t : Int) (fl : List Int) : St :=
  ⟨[(9, .sl 11 0 N), (8, .ptr 4 0 0), (5, .ptr 2 0 0), (4, .ptr 1 0 0), (3, .ptr 0 0 0)], k12 N m arcs (restA arcs fl (m + 1)) f t (begC (restA arcs fl (m + 1)) N) [], 0⟩
def res36 (N : Nat) (arcs : List Arc) (f : Int) (r : List Int) : V → List Blk → Prop :=
  IsA (.tup [.sl 15 0 arcs.length, .sl 16 0 N]) [.dead, .dead, .dead, .dead, .dead, .dead, .dead, .dead, .dead, .dead, .dead, .dead, .dead, .dead, .dead, .arr 1 (r.map encI), .arr 1 ((cutOf arcs N f r).map encB)]
theorem body36b (N m : Nat) (arcs : List Arc) (f t : Int) (r : List Int) (hm : arcs.length = m + 1) (hV : Val N arcs) (hf : 0 ≤ f ∧ f < N) (ht : 0 ≤ t ∧ t < N) (hft : f ≠ t) {X : Nat → St → Prop}
    (fl : List Int) (hI : (fl.length = arcs.length ∧ possP arcs fl) ∧ Run arcs N f t fl r) :
    aw cx0 c36l1 (fun s' => ∃ g' : List Int, (((g'.length = arcs.length ∧ possP arcs g') ∧ Run arcs N f t g' r) ∧ ((arcs.length : Int) * 1073741824 - valTo arcs f g' arcs.length).toNat < ((arcs.length : Int) * 1073741824 - valTo arcs f fl arcs.length).toNat) ∧ leS cx0.fx s' (pat2 N m arcs f t g')) X (retP [] 0 [.tmp 6, .tmp 7] (res36 N arcs f r)) (pat2 N m arcs f t fl) := by
  obtain ⟨⟨hl, hp⟩, hR⟩ := hI
  have hL := hV.hl
  have hN := hV.hn
  have hRl : (restA arcs fl (m + 1)).length = 2 * (m + 1) := restA_len _ _ _
  have hRT := rest_to hV fl
  have hS : Srch (restA arcs fl arcs.length) N f (srch (restA arcs fl arcs.length) N f) := Srch.bfs hf hRT N
  rw [hm] at hRT hS
  unfold c36l1 pat2 k12
  simp -implicitDefEqProofs only [qF, qI, qK, qL, qO, qP, qR, qU, qV, qW, zp, zv, zw, zJ, zK, zL, zM, zP, ofConst, cells?, List.length_nil, List.length_cons, List.set_cons_zero, splice, zQ, List.getD_eq_getElem?_getD, List.getElem?_cons_zero, ↓reduceIte, Nat.reduceEqDiff, Option.getD_some, List.nil_append, List.cons_append, Nat.zero_add, Nat.reduceAdd, Nat.add_zero, freshP, litsP, List.map_cons, List.map_nil, List.take_zero, List.drop_nil, List.all_cons, List.all_nil, isD, isC, Bool.and_true, Bool.and_self, true_and, and_true, and_self, List.not_mem_nil, not_false_eq_true, Nat.reduceLT, Nat.le_refl, lg0, ka, kc, kf, lg1, kg, kj, lg2, kk, lg3, kq, lg4, ky, lg5, kC, lg6, kG, lg7, kK, lg8, kO, lg9, kS, kW, kX, wb, wc, wh, wj, wq, wr, jo, ↓jp, ↓jr, ↓ju, ↓jy, ↓jA, ↓jB, ↓qat, ↓qau, ↓qav, ↓qaD, ↓qaF, ↓qaG, cx0_bn, cx0_fx, qaG, qaF, ↓qaD]
  refine loopP_intro (pat4 N m arcs (restA arcs fl (m + 1)) f t) (fun g => InO (restA arcs fl (m + 1)) N f g.1 g.2.1 g.2.2.1 g.2.2.2) (fun g => N - g.1) (0, 0, 1, [f]) ⟨rfl, rfl, Nat.zero_le _⟩ ?_ (body36c N m arcs (restA arcs fl (m + 1)) f t hN.2 (by omega) hRl hf hRT ?_)
  · have h0 : ents (bfsTo (restA arcs fl (m + 1)) N f 0).1 (bfsTo (restA arcs fl (m + 1)) N f 0).2 = [(.int .i64 f, V.i (-1), 0)] := by
      have : f.toNat < (List.replicate N (-2 : Int)).length := by simp; omega
      have h1 : (bfsTo (restA arcs fl (m + 1)) N f 0).1.getD f.toNat 0 = -1 := by
        show ((List.replicate N (-2 : Int)).set f.toNat (-1)).getD f.toNat 0 = -1
        rw [getD_set this]; simp
      show [ent1 _ (f, 0)] = _
      simp only [ent1]
      rw [h1]
    unfold pat4 sE sH k12
    simp -implicitDefEqProofs only [zP, List.getElem?_cons_zero, ↓reduceIte, Nat.reduceEqDiff, zZ, leE, leH, leB, leV, leVs, keepP, liveP, wfE, wfB, wfV, wfL, List.map_cons, List.map_nil, Bool.and_true, Bool.and_self, true_and, and_true, and_self, lg0, lg1, lg2, lg3, lg4, lg5, lg6, lg7, lg8, lg9, kW, wb, wh, wq, leVs, leV, eq_true begC_wf, eq_true ents_wf, h0]
    exact ⟨rfl, rfl⟩
  intro j n w b y63 y64 y65
  unfold sE sH k12
  simp only [↓reduceIte]
  generalize hs : srch (restA arcs fl (m + 1)) N f = s at *
  by_cases hin : t ∈ s.2
  · obtain ⟨q, hq⟩ := find_yes (b := s.1) hin
    simp -implicitDefEqProofs only [qE, qF, qI, qJ, qO, qP, qR, qU, qV, qW, zd, zh, zx, zE, zG, zJ, zK, zL, zM, zP, ofConst, cells?, List.length_nil, List.length_cons, List.set_cons_zero, splice, zQ, List.getD_eq_getElem?_getD, List.getElem?_cons_zero, ↓reduceIte, Nat.reduceEqDiff, Option.getD_some, zS, zT, Bool.not_true, ↓zV, List.nil_append, List.cons_append, List.append_nil, Nat.zero_add, Nat.reduceAdd, Nat.add_zero, freshP, List.map_cons, List.map_nil, List.take_zero, List.drop_nil, List.all_cons, List.all_nil, isC, Bool.and_true, Bool.and_self, true_and, and_true, and_self, List.not_mem_nil, not_false_eq_true, Nat.le_refl, lg0, ka, kc, kf, lg1, kg, lg2, kk, lg3, kq, lg4, ky, lg5, kC, lg6, kG, lg7, kK, lg8, kO, lg9, kS, kW, kX, wb, wc, wh, wj, wq, wr, wx, wy, jo, ↓jp, ↓jr, ↓ju, ↓jy, ↓jA, ↓jB, ↓jR, ↓jU, ↓qat, ↓qav, ↓qaw, ↓qay, ↓qaG, cx0_bn, hq, qaG, qaw, qay]
    obtain ⟨j0, hj0, hjt⟩ := List.getElem_of_mem hin
    have hjt : s.2[j0]? = some t := by rw [List.getElem?_eq_getElem hj0, hjt]
    have hj0N : j0 ≤ N := by
      have := nodup_le N hS.nod hS.rng
      omega
    have hb : ¬ s.1.getD t.toNat 0 = -2 := by
      have := (hS.mem t.toNat (by omega)).2 (by rw [Int.toNat_of_nonneg ht.1]; exact hin)
      exact this
    have ha := walk_arcs hS j0 t hjt
    obtain ⟨c, hc⟩ : ∃ c, c = leastOf (restA arcs fl (m + 1)) (walk (restA arcs fl (m + 1)) s j0 t) 1073741824 := ⟨_, rfl⟩
    have hcb := leastOf_le (restA arcs fl (m + 1)) (walk (restA arcs fl (m + 1)) s j0 t) 1073741824
    have hcp := leastOf_pos (restA arcs fl (m + 1)) (walk (restA arcs fl (m + 1)) s j0 t) 1073741824 (by omega) (fun i hi => (ha i hi).2.1)
    rw [← hc] at hcb hcp
    have hround : round arcs N f t fl = some (pushAll c fl (walk (restA arcs fl (m + 1)) s j0 t)) := by
      unfold round
      rw [hm, hs, if_neg hb, walk_fuel hS j0 t N hjt hj0N, ← hc]
    have e1 := ok54a N f t (restA arcs fl (m + 1)) 1073741824 hN.2 (by omega) hf hRT j0 (by rw [hs]; exact hS) (by rw [hs]; exact hjt)
    have e2 := ok54b N f t arcs fl c hV hl hp ⟨by omega, by omega⟩ hf j0 (by rw [hm, hs]; exact hjt)
    rw [hs, ← hc] at e1
    rw [hm, hs] at e2
    refine call_isN [2, 1, 4, 13, 12, 10, 15] [.clo 55 [.ptr 6 0 0, .ptr 2 0 0], .ptr 0 0 0, .ptr 1 0 0, .ptr 2 0 0, .ptr 3 0 0] (.tup []) (.tup []) _ _ (sH N m arcs (restA arcs fl (m + 1)) f t s w ++ [.var [.i c]]) e1 (by simp [cx0]) (by unfold bH; simp [blk, renB, rens, ren, pos, ents_ren, restA_len]) (by simp [lendsOk, lendOk, lends, lend, wkL, wk, pos]) (by unfold bH; simp) ?_ rfl trivial ?_
    · unfold bH sH k12
      simp [setAll, renB, rens, ren, back, ents_ren, restA_len]
    unfold sH k12
    simp -implicitDefEqProofs only [qF, qO, qP, qR, zh, zG, zJ, zL, zP, List.length_nil, List.length_cons, ↓reduceIte, Nat.reduceEqDiff, List.nil_append, List.cons_append, List.append_nil, Nat.zero_add, Nat.reduceAdd, List.map_cons, List.map_nil, jo, ↓jU]
    refine call_isN [2, 1, 4, 13, 12, 10, 15] [.clo 56 [.ptr 2 0 0, .ptr 6 0 0], .ptr 0 0 0, .ptr 1 0 0, .ptr 2 0 0, .ptr 3 0 0] (.tup []) (.tup []) _ _ (k12 N m arcs (restA arcs (pushAll c fl (walk (restA arcs fl (m + 1)) s j0 t)) (m + 1)) f t (begC (restA arcs fl (m + 1)) N) [.map (ents s.1 s.2) s.2.length, .var [.mp 12], .arr 1 (w.map encI), .var [.i c]]) e2 (by simp [cx0]) (by unfold bH; simp [blk, renB, rens, ren, pos, ents_ren, restA_len]) (by simp [lendsOk, lendOk, lends, lend, wkL, wk, pos]) (by unfold bH; simp) ?_ rfl trivial ?_
    · unfold bH k12
      simp [setAll, renB, rens, ren, back, ents_ren, restA_len]
    obtain ⟨q1, q2, d, q3, q4⟩ := round_ok hV hf ht hl hp hround
    have hbg : begC (restA arcs fl (m + 1)) N = begC (restA arcs (pushAll c fl (walk (restA arcs fl (m + 1)) s j0 t)) (m + 1)) N := begC_congr (by rw [restA_len, restA_len]) (fun i hi => restA_from arcs _ _ _ i (by rwa [restA_len] at hi))
    unfold k12
    simp -implicitDefEqProofs only [qO, zJ, zP, List.getElem?_cons_zero, ↓reduceIte, Nat.reduceEqDiff, zZ, leE, leH, leB, leV, leVs, keepP, liveP, wfE, wfB, wfV, wfL, Bool.and_true, Bool.and_self, true_and, and_true, and_self, lg0, lg1, lg2, lg3, lg4, lg5, lg6, lg7, lg8, lg9, kW]
    refine ⟨pushAll c fl (walk (restA arcs fl (m + 1)) s j0 t), ⟨⟨⟨q1, q2⟩, ?_⟩, ?_⟩, ?_⟩
    · cases hR with
      | stop h => rw [h] at hround; simp at hround
      | go h h2 => rw [h] at hround; simp only [Option.some.injEq] at hround; rw [← hround]; exact h2
    · have := q4 f
      rw [if_pos rfl, if_neg (fun h => hft h.symm)] at this
      have hb2 := valTo_bound arcs f (pushAll c fl (walk (restA arcs fl (m + 1)) s j0 t)) (hV.flow q1 q2) arcs.length
      omega
    · rw [hbg]
      simp -implicitDefEqProofs only [Bool.and_self, and_self, eq_true begC_wf]
  · have hq := find_not (b := s.1) hin
    simp -implicitDefEqProofs only [qa, qc, qf, qw, rdK, qx, qy, qz, qA, qC, qF, qI, qJ, qK, qL, qO, qP, qR, qV, qX, zb, zd, zq, zx, zE, zJ, zL, zM, zP, ofConst, List.length_nil, List.length_cons, List.set_cons_zero, zQ, List.getD_eq_getElem?_getD, List.getElem?_cons_zero, ↓reduceIte, Nat.reduceEqDiff, Option.getD_some, zR, zS, zT, Bool.not_false, ↓zU, List.nil_append, List.cons_append, List.append_nil, Nat.zero_add, Nat.reduceAdd, Nat.add_zero, freshP, List.map_cons, List.map_nil, Bool.and_true, true_and, and_true, List.length_map, lg0, ka, kf, lg1, kg, kj, lg2, kk, lg3, kq, lg4, ky, lg5, kC, lg6, kG, lg7, kK, lg8, kO, lg9, kS, kW, kX, wb, wc, wh, wj, wq, wr, wx, wy, wC, wD, jo, ↓jp, ↓jr, ↓ju, ↓jy, ↓jE, ↓jL, ↓jN, ↓jR, ↓qat, ↓qav, ↓qaw, ↓qaA, ↓qaG, List.length_map, Int.toNat_natCast, cx0_fx, hq, qaG, qaw, qaA]
    have hrn : round arcs N f t fl = none := by
      unfold round
      rw [hm, hs, if_pos]
      exact Decidable.not_not.1 fun hne => hin (by
        have := (hS.mem t.toNat (by omega)).1 hne
        rwa [Int.toNat_of_nonneg ht.1] at this)
    have hrr : r = fl := hR.det (.stop hrn)
    subst hrr
    intro hlm
    have hA : ((0 ≤ (arcs.length : Int) ∧ (arcs.length : Int) ≤ arcs.length) ∧ ((8 : Nat) : Int) * (arcs.length : Int) ≤ 281474976710656 ∧ (arcs.length : Int) ≤ 9223372036854775807) := ⟨⟨by omega, by omega⟩, by omega, by omega⟩
    have hB : ((0 ≤ (N : Int) ∧ (N : Int) ≤ N) ∧ ((1 : Nat) : Int) * (N : Int) ≤ 281474976710656 ∧ (N : Int) ≤ 9223372036854775807) := ⟨⟨by omega, by omega⟩, by omega, by omega⟩
    refine ⟨⟨hA, hB, ?_⟩, hB, hA, ?_⟩
    all_goals
      intro hlm2
      refine loopP_intro (pat5 N m arcs (restA arcs r (m + 1)) f t s w r) (fun i => i ≤ r.length) (fun i => r.length - i) 0 (Nat.zero_le _) ?_ (body36e N m arcs f t s w r hm hL hl ?_)
      · unfold pat5 eH k12
        simp -implicitDefEqProofs only [zP, List.getElem?_cons_zero, ↓reduceIte, Nat.reduceEqDiff, List.nil_append, zZ, leE, leH, leB, leV, leVs, keepP, liveP, wfE, wfB, wfV, wfL, List.take_zero, Bool.and_true, Bool.and_self, true_and, and_true, and_self, lg0, lg1, lg2, lg3, lg4, lg5, lg6, lg7, lg8, lg9, kW, wb, wh, wq, wx, wC, leVs, leV, eq_true begC_wf, eq_true ents_wf, hl, Int.natCast_zero, List.map_replicate, Nat.sub_zero]
        exact ⟨rfl, rfl⟩
      intro b y z
      unfold eH k12
      simp only [↓reduceIte]
      simp -implicitDefEqProofs only [qF, qI, qK, qL, qO, qP, qV, zA, zJ, zL, zP, List.length_nil, List.length_cons, List.set_cons_zero, zQ, List.getD_eq_getElem?_getD, List.getElem?_cons_zero, ↓reduceIte, Nat.reduceEqDiff, Option.getD_some, List.nil_append, List.cons_append, Nat.zero_add, Nat.reduceAdd, Nat.add_zero, freshP, true_and, lg0, ka, kf, lg1, kg, lg2, kk, lg3, kq, lg4, ky, lg5, kC, lg6, kG, lg7, kK, lg8, kO, lg9, kS, kW, kX, wb, wc, wh, wj, wq, wr, wx, wy, wC, wD, wH, wI, jo, ↓jp, ↓jr, ↓ju, ↓jy, ↓qau, ↓qav, cx0_fx]
      refine loopP_intro (pat6 N m arcs (restA arcs r (m + 1)) f t s w r) (fun _ => True) (left s.2.length) [] trivial ?_ (fun seen _ => body36f N m arcs (restA arcs r (m + 1)) f t s w r hS ?_ seen)
      · unfold pat6 eH k12
        simp -implicitDefEqProofs only [zP, List.getElem?_cons_zero, ↓reduceIte, Nat.reduceEqDiff, List.nil_append, List.cons_append, zZ, leE, leH, leB, leV, leVs, keepP, liveP, wfE, wfB, wfV, wfL, Bool.and_self, and_self, lg0, lg1, lg2, lg3, lg4, lg5, lg6, lg7, lg8, lg9, kW, wb, wh, wq, wx, wC, wH, leVs, leV, eq_true begC_wf, eq_true ents_wf, cutS_nil]
      intro b2 sn x2 y2
      unfold eH k12 res36
      simp only [↓reduceIte]
      simp -implicitDefEqProofs only [qF, qI, qN, qO, qP, qR, zJ, zL, zP, List.length_nil, List.length_cons, List.getElem?_cons_zero, ↓reduceIte, Nat.reduceEqDiff, List.nil_append, List.cons_append, List.append_nil, Nat.zero_add, Nat.reduceAdd, resP, tupV, List.reverse_cons, List.reverse_nil, leH, leB, keepP, liveP, wfB, wfV, wfL, Bool.and_self, and_self, Nat.reduceLeDiff, lg0, lg1, lg2, lg3, lg4, lg5, lg6, lg7, lg8, lg9, kW, wb, wh, wq, wx, wC, jo, retP_isA, cutOf, hm, hs, hl]
end Go.Fx.F
namespace Go.Fx.F
open Go Go.Fx Go.Proofs
set_option maxRecDepth 20000
theorem ok36 (N m : Nat) (arcs : List Arc) (f t : Int) (r : List Int) (hm : arcs.length = m + 1) (hV : Val N arcs) (hf : 0 ≤ f ∧ f < N) (ht : 0 ≤ t ∧ t < N) (hft : f ≠ t) (hr : Run arcs N f t (List.replicate arcs.length 0) r) : Ok 36 [net N arcs, .i f, .i t] (res36 N arcs f r) := by
  have hL := hV.hl
  have hN := hV.hn
  refine ok_of lw36 (by simp) ?_
  unfold c36
  simp -implicitDefEqProofs only [qc, qf, qw, rdK, qx, qz, qA, qC, qF, qI, qO, qP, qR, qT, qU, qV, qX, zb, zq, zD, zJ, zL, zM, zP, ofConst, cells?, List.length_nil, List.length_cons, List.set_cons_zero, zQ, List.getD_eq_getElem?_getD, List.getElem?_cons_zero, ↓reduceIte, Nat.reduceEqDiff, Option.getD_some, zR, List.nil_append, List.cons_append, Nat.zero_add, Nat.reduceAdd, Nat.add_zero, reduceCtorEq, freshP, List.map_cons, List.map_nil, List.drop_zero, List.take_nil, Bool.and_true, true_and, and_true, List.length_map, Bool.false_eq_true, Nat.le_refl, lg0, ka, ke, kf, lg1, kg, ki, kj, lg2, kk, kp, lg3, kq, jo, ↓jp, ↓jr, ↓ju, ↓jy, ↓jz, ↓jE, ↓jN, List.length_map, Int.toNat_natCast, cx0_fx, args0, net]
  intro hlm
  have hz : List.replicate arcs.length [V.v (.int .i64 0)] = (List.replicate arcs.length (0 : Int)).map encI := by rw [List.map_replicate]; rfl
  have hpz : possP arcs (List.replicate arcs.length 0) := fun i h1 h2 => by
    have := (hV.ha arcs[i] (List.getElem_mem h2)).2
    simp; omega
  have e1 := ok32 N arcs (List.replicate arcs.length 0) hV (by simp) hpz
  rw [hz]
  have hlz : (List.replicate arcs.length (0 : Int)).length = arcs.length := by simp
  clear hz
  generalize List.replicate arcs.length (0 : Int) = zs at *
  have hRl : (restA arcs zs (m + 1)).length = 2 * (m + 1) := restA_len _ _ _
  have hF : ∀ i, i < (restA arcs zs (m + 1)).length → 0 ≤ (gA (restA arcs zs (m + 1)) i).from_ ∧ (gA (restA arcs zs (m + 1)) i).from_ < N := by
    intro i hi
    rw [hRl] at hi
    have hq : i / 2 < arcs.length := by omega
    have := hV.ha arcs[i / 2] (List.getElem_mem hq)
    by_cases hp : i % 2 = 0
    · rw [show i = 2 * (i / 2) by omega, restA_even arcs zs _ _ (by omega), getD_nil (a := ⟨0,0,0,0⟩) hq]
      exact this.1.1
    · rw [show i = 2 * (i / 2) + 1 by omega, restA_odd arcs zs _ _ (by omega), getD_nil (a := ⟨0,0,0,0⟩) hq]
      exact this.1.2.1
  rw [hm] at e1
  have htk : List.take arcs.length (List.map encI zs) = List.map encI zs := List.take_of_length_le (by simp [hlz])
  have hb : ((0 ≤ (arcs.length : Int) ∧ (arcs.length : Int) ≤ arcs.length) ∧ ((8 : Nat) : Int) * (arcs.length : Int) ≤ 281474976710656 ∧ (arcs.length : Int) ≤ 9223372036854775807) := ⟨⟨by omega, by omega⟩, by omega, by omega⟩
  refine ⟨⟨hb, ?_, ?_⟩, hb, ?_⟩
  all_goals
    refine call_isA [net N arcs, li zs] _ (.agg [.i N, .sl 10 0 (2 * (m + 1))]) _ [.dead, .dead, .dead, .dead, .dead, .arr 4 (restTo arcs zs (m + 1))] e1 ?_ rfl rfl ?_
    · simp [net, li, lendsOk, lendOk, lends, lend, wkL, wk, wkB, blk, htk, hlz]
    simp -implicitDefEqProofs only [qy, qz, qC, qF, qI, qK, qL, qO, qP, qR, qU, qV, qW, qX, zb, zu, zJ, zK, zL, zM, zP, ofConst, cells?, List.length_nil, List.length_cons, List.set_cons_zero, splice, zQ, List.getD_eq_getElem?_getD, List.getElem?_cons_zero, ↓reduceIte, Nat.reduceEqDiff, Option.getD_some, zR, List.nil_append, List.cons_append, List.append_nil, Nat.zero_add, Nat.reduceAdd, Nat.add_zero, freshP, List.map_cons, List.map_nil, List.take_zero, List.drop_nil, List.all_cons, List.all_nil, isC, Bool.and_true, Bool.and_self, true_and, and_true, and_self, List.not_mem_nil, not_false_eq_true, Bool.false_eq_true, Nat.le_refl, lg0, ka, kc, kf, lg1, kg, kh, lg2, kk, lg3, kq, lg4, ky, lg5, kC, lg6, kG, lg7, kK, lg8, kO, lg9, kS, kW, kX, jo, ↓jp, ↓jr, ↓ju, ↓jy, ↓jA, ↓jB, ↓jE, ↓jL, Int.toNat_natCast, cx0_fx]
    refine ⟨⟨⟨by omega, by omega⟩, by omega, by omega⟩, fun hlm2 => ?_⟩
    refine loopP_intro (pat1 N m arcs (restA arcs zs (m + 1)) f t) (fun g => g.1 ≤ 2 * (m + 1) ∧ Beg (restA arcs zs (m + 1)) N g.1 g.2.1 g.2.2) (fun g => 2 * (m + 1) - g.1) (0, List.replicate N V.nil, []) ⟨Nat.zero_le _, Beg.zero⟩ ?_ (body36a N m arcs (restA arcs zs (m + 1)) f t (by omega) hRl hF ?_)
    · unfold pat1 k12
      simp -implicitDefEqProofs only [zP, List.getElem?_cons_zero, ↓reduceIte, Nat.reduceEqDiff, zZ, leE, leH, leB, leV, leVs, keepP, liveP, wfE, wfB, wfV, wfL, Bool.and_true, Bool.and_self, true_and, and_true, and_self, lg0, lg1, lg2, lg3, lg4, lg5, lg6, lg7, lg8, lg9, kW, leVs, leV, Int.natCast_zero, List.map_replicate, restA_enc]
      refine wfL_all fun x hx => ?_
      rw [List.mem_flatten] at hx
      obtain ⟨l, h1, h2⟩ := hx
      rw [List.mem_replicate] at h1
      rw [h1.2, List.mem_singleton] at h2
      rw [h2]; trivial
    intro cs bs b y hB
    unfold pat1 k12
    simp only [↓reduceIte]
    simp -implicitDefEqProofs only [qK, qL, cx0_fx]
    refine loopP_give (fun k => decide (12 ≤ k)) (pat2 N m arcs f t) (fun fl => (fl.length = arcs.length ∧ possP arcs fl) ∧ Run arcs N f t fl r) (fun fl => ((arcs.length : Int) * 1073741824 - valTo arcs f fl arcs.length).toNat) zs (by simp) ⟨⟨hlz, hpz⟩, hr⟩ ?_ (body36b N m arcs f t r hm hV hf ht hft)
    unfold pat2 k12 St.give
    have hg := @Beg.given _ _ _ _ (show Beg (restA arcs zs (m + 1)) N (restA arcs zs (m + 1)).length cs bs by rw [hRl]; exact hB)
    simp -implicitDefEqProofs only [zP, List.getElem?_cons_zero, ↓reduceIte, Nat.reduceEqDiff, Nat.zero_add, Nat.reduceAdd, zZ, leE, leH, leB, leV, leVs, keepP, liveP, wfE, wfB, wfV, wfL, Bool.and_self, and_self, Bool.false_eq_true, Nat.reduceLeDiff, lg0, lg1, lg2, lg3, lg4, lg5, lg6, lg7, lg8, lg9, kW, gvE, gvV, gvH, gvB, gvL, hg, decide_false, eq_true begC_wf]
end Go.Fx.F
namespace Go.Fx.F
open Go Go.Fx Go.Proofs
set_option maxRecDepth 20000
theorem bfs_none {N : Nat} {f : Int} : ∀ h, bfsTo [] N f h = ((List.replicate N (-2)).set f.toNat (-1), [f])
  | 0 => rfl
  | h + 1 => by
    unfold bfsTo
    rw [bfs_none h]
    split <;> rfl
def zH (N : Nat) (f t : Int) (q : List Blk) : List Blk := .var [.i N, .bro 4 []] :: .var [.i f] :: .var [.i t] :: .dead :: .var [.i N, .nil] :: .arv 1 (List.replicate N [V.nil]) :: q
theorem nils_wf {h : List Blk} {N : Nat} : wfL h (List.replicate N [V.nil]).flatten := by
  refine wfL_all fun x hx => ?_
  rw [List.mem_flatten] at hx
  obtain ⟨l, h1, h2⟩ := hx
  rw [List.mem_replicate] at h1
  rw [h1.2, List.mem_singleton] at h2
  rw [h2]; trivial
theorem ok36z (N : Nat) (f t : Int) (hV : Val N []) (hf : 0 ≤ f ∧ f < N) (ht : 0 ≤ t ∧ t < N) (hft : f ≠ t) : Ok 36 [net N [], .i f, .i t]
    (IsA (.tup [.sl 9 0 0, .sl 10 0 N]) [.dead, .dead, .dead, .dead, .dead, .dead, .dead, .dead, .dead, .arr 1 [], .arr 1 ((cutOf [] N f []).map encB)]) := by
  have hN := hV.hn
  have hS : Srch [] N f (srch [] N f) := Srch.bfs hf (fun i h => by simp at h) N
  have hs : srch [] N f = ((List.replicate N (-2)).set f.toNat (-1), [f]) := bfs_none N
  have e1 := ok32 N [] [] hV rfl (fun i h1 h2 => by simp at h1)
  have hes : ents ((List.replicate N (-2 : Int)).set f.toNat (-1)) [f] = [(.int .i64 f, V.i (-1), 0)] := by
    have h0 : f.toNat < (List.replicate N (-2 : Int)).length := by simp; omega
    have h1 : ((List.replicate N (-2 : Int)).set f.toNat (-1)).getD f.toNat 0 = -1 := by rw [getD_set h0]; simp
    show [ent1 _ (f, 0)] = _
    simp only [ent1]
    rw [h1]
  refine ok_of lw36 (by simp) ?_
  unfold c36
  simp -implicitDefEqProofs only [qc, qf, qw, rdK, qx, qz, qA, qC, qF, qI, qO, qP, qR, qT, qU, qV, qX, zb, zq, zD, zJ, zL, zM, zP, ofConst, cells?, List.length_nil, List.length_cons, List.set_cons_zero, zQ, List.getD_eq_getElem?_getD, List.getElem?_cons_zero, ↓reduceIte, Nat.reduceEqDiff, Option.getD_some, zR, List.nil_append, List.cons_append, Nat.zero_add, Nat.reduceAdd, Nat.add_zero, reduceCtorEq, freshP, List.map_cons, List.map_nil, List.drop_zero, List.take_nil, Bool.and_true, Bool.and_self, true_and, and_true, and_self, Bool.false_eq_true, Nat.le_refl, lg0, ka, ke, kf, lg1, kg, ki, kj, lg2, kk, kp, lg3, kq, jo, ↓jp, ↓jr, ↓ju, ↓jy, ↓jz, ↓jE, ↓jN, cx0_fx, args0, net, List.map_nil, Int.natCast_zero, Int.toNat_zero]
  intro hlm
  refine ⟨⟨⟨by omega, by omega⟩, ?_, ?_⟩, ⟨by omega, by omega⟩, ?_⟩
  all_goals
    refine call_isA [net N [], li []] _ (.agg [.i N, .nil]) _ [] e1 ?_ rfl rfl ?_
    · simp [net, li, lendsOk, lendOk, lends, lend, wkL, wk, wkB, blk]
    simp -implicitDefEqProofs only [qy, qz, qC, qF, qI, qK, qL, qO, qP, qR, qU, qV, qW, qX, zb, zu, zJ, zK, zL, zM, zP, ofConst, cells?, List.length_nil, List.length_cons, List.set_cons_zero, splice, zQ, List.getD_eq_getElem?_getD, List.getElem?_cons_zero, ↓reduceIte, Nat.reduceEqDiff, Option.getD_some, zR, List.nil_append, List.cons_append, List.append_nil, Nat.zero_add, Nat.reduceAdd, Nat.add_zero, freshP, List.map_cons, List.map_nil, List.take_zero, List.drop_nil, List.all_cons, List.all_nil, isC, Bool.and_true, Bool.and_self, true_and, and_true, and_self, List.not_mem_nil, not_false_eq_true, Bool.false_eq_true, Nat.le_refl, lg0, ka, kc, kf, lg1, kg, kh, lg2, kk, lg3, kq, lg4, ky, jo, ↓jp, ↓jr, ↓ju, ↓jy, ↓jA, ↓jB, ↓jE, ↓jP, Int.toNat_natCast, cx0_fx]
    refine ⟨⟨by omega, by omega⟩, ?_⟩
    have hdf : decide ((0 : Int) < 0) = false := rfl
    refine loopP_intro (fun _ : Unit => ⟨[(40, .i 0), (39, .i 0), (9, .sl 5 0 N), (8, .ptr 4 0 0), (5, .ptr 2 0 0), (4, .ptr 1 0 0), (3, .ptr 0 0 0)], zH N f t [], 0⟩) (fun _ => True) (fun _ => 0) () trivial ?_ ?_
    · unfold zH
      simp -implicitDefEqProofs only [zP, List.getElem?_cons_zero, ↓reduceIte, Nat.reduceEqDiff, zZ, leE, leH, leB, leV, leVs, keepP, liveP, wfE, wfB, wfV, wfL, Bool.and_self, and_self, lg0, lg1, lg2, lg3, lg4, leVs, leV, eq_true nils_wf]
    rintro ⟨⟩ -
    unfold c36l0 zH
    simp -implicitDefEqProofs only [qF, qI, qJ, qK, qL, qM, qO, qP, qZ, zJ, zL, zP, List.length_nil, List.length_cons, ↓reduceIte, Nat.reduceEqDiff, zR, zT, ↓zV, List.append_nil, Nat.zero_add, Nat.reduceAdd, true_and, Nat.reduceLT, jo, ↓qaR, cx0_fx, hdf]
    refine loopP_intro (fun _ : Unit => ⟨[(9, .sl 5 0 N), (8, .ptr 4 0 0), (5, .ptr 2 0 0), (4, .ptr 1 0 0), (3, .ptr 0 0 0)], zH N f t [], 0⟩) (fun _ => True) (fun _ => 0) () trivial ?_ ?_
    · unfold zH
      simp -implicitDefEqProofs only [zP, List.getElem?_cons_zero, ↓reduceIte, Nat.reduceEqDiff, zZ, leE, leH, leB, leV, leVs, keepP, liveP, wfE, wfB, wfV, wfL, Bool.and_self, and_self, lg0, lg1, lg2, lg3, lg4, leVs, leV, eq_true nils_wf]
    rintro ⟨⟩ -
    unfold c36l1 zH
    simp -implicitDefEqProofs only [qF, qI, qK, qL, qO, qP, qR, qU, qV, qW, zp, zv, zw, zJ, zK, zL, zM, zP, ofConst, cells?, List.length_nil, List.length_cons, List.set_cons_zero, splice, zQ, List.getD_eq_getElem?_getD, List.getElem?_cons_zero, ↓reduceIte, Nat.reduceEqDiff, Option.getD_some, List.nil_append, List.cons_append, Nat.zero_add, Nat.reduceAdd, Nat.add_zero, freshP, litsP, List.map_cons, List.map_nil, List.take_zero, List.drop_nil, List.all_cons, List.all_nil, isD, isC, Bool.and_true, Bool.and_self, true_and, and_true, and_self, List.not_mem_nil, not_false_eq_true, Nat.reduceLT, Nat.le_refl, lg0, ka, kc, kf, lg1, kg, kj, lg2, kk, lg3, kq, lg4, ky, lg5, kC, lg6, kG, lg7, kK, jo, ↓jp, ↓jr, ↓ju, ↓jy, ↓jA, ↓jB, ↓qat, ↓qau, ↓qav, ↓qaD, ↓qaF, ↓qaG, cx0_bn, cx0_fx, qaG, qaF, ↓qaD]
    refine loopP_intro (fun n : Nat => ⟨[(13, .sl 8 (1 - n) n), (12, .ptr 7 0 0), (9, .sl 5 0 N), (8, .ptr 4 0 0), (5, .ptr 2 0 0), (4, .ptr 1 0 0), (3, .ptr 0 0 0)], zH N f t [.map [(.int .i64 f, .i (-1), 0)] 1, .var [.mp 6], .arr 1 [[.i f]]], 0⟩) (fun n => n ≤ 1) (fun n => n) 1 (Nat.le_refl _) ?_ ?_
    · unfold zH
      simp -implicitDefEqProofs only [zP, List.getElem?_cons_zero, ↓reduceIte, Nat.reduceEqDiff, zZ, leE, leH, leB, leV, leVs, keepP, liveP, wfE, wfB, wfV, wfL, List.map_cons, List.map_nil, Bool.and_self, and_self, lg0, lg1, lg2, lg3, lg4, lg5, lg6, lg7, leVs, leV, eq_true nils_wf, Nat.sub_self]
    intro n hn
    unfold c36l2 zH
    simp -implicitDefEqProofs only [qa, qc, qf, qw, rdK, qx, qy, qz, qA, qC, qE, qF, qI, qJ, qK, qL, qM, qO, qP, qR, qU, qV, qW, qX, qY, qZ, zb, zd, zh, zj, zq, zx, zE, zG, zJ, zK, zL, zM, zP, ofConst, cells?, List.length_nil, List.length_cons, List.set_cons_zero, splice, zQ, List.getD_eq_getElem?_getD, List.getElem?_cons_zero, ↓reduceIte, Nat.reduceEqDiff, Option.getD_some, zR, arrSz, zT, List.nil_append, List.cons_append, List.append_nil, Nat.zero_add, Nat.reduceAdd, Nat.add_zero, freshP, Option.map_some, Option.map_none, slcOk, Option.getD_none, List.map_cons, List.map_nil, List.take_zero, List.drop_nil, List.all_cons, List.all_nil, isC, Bool.and_true, Bool.and_self, true_and, and_true, and_self, List.not_mem_nil, List.length_replicate, not_false_eq_true, Nat.le_refl, lg0, ka, kc, kf, lg1, kg, kj, lg2, kk, lg3, kq, lg4, ky, lg5, kC, lg6, kG, lg7, kK, lg8, kO, lg9, kS, jo, ↓jp, ↓jr, ↓ju, ↓jv, ↓jx, ↓jy, ↓jA, ↓jB, ↓jE, ↓jG, ↓jL, ↓jN, ↓jU, ↓qac, ↓qad, ↓qae, ↓qat, ↓qav, ↓qaw, ↓qaG, ↓qaT, Int.toNat_natCast, cx0_bn, cx0_fx]
    intro hmx
    simp only [br, decide_eq_true_eq, decide_eq_false_iff_not]
    refine ⟨fun h => ?_, fun h => ?_⟩
    · have : n = 1 := by omega
      subst this
      have h10 : Int.toNat 1 = 1 := rfl
      have h00 : Int.toNat 0 = 0 := rfl
      simp -implicitDefEqProofs only [Nat.zero_add, Nat.add_zero, Nat.reduceLT, Nat.sub_self, h00, h10]
      refine ⟨by omega, by simp, ?_⟩
      simp -implicitDefEqProofs only [List.getElem?_cons_zero, ↓jp, ↓jP, List.getElem_replicate]
      refine ⟨⟨⟨by omega, by omega⟩, by omega⟩, hf, by omega, ?_⟩
      refine loopP_intro (fun _ : Unit => ⟨[(76, .i 0), (75, .i 0), (13, .sl 8 1 0), (12, .ptr 7 0 0), (9, .sl 5 0 N), (8, .ptr 4 0 0), (5, .ptr 2 0 0), (4, .ptr 1 0 0), (3, .ptr 0 0 0)], zH N f t [.map [(.int .i64 f, .i (-1), 0)] 1, .var [.mp 6], .arr 1 [[.i f]]], 0⟩) (fun _ => True) (fun _ => 0) () trivial ?_ ?_
      · unfold zH
        simp -implicitDefEqProofs only [zP, List.getElem?_cons_zero, ↓reduceIte, Nat.reduceEqDiff, zZ, leE, leH, leB, leV, leVs, keepP, liveP, wfE, wfB, wfV, wfL, List.map_cons, List.map_nil, Bool.and_self, and_self, lg0, lg1, lg2, lg3, lg4, lg5, lg6, lg7, leVs, leV, eq_true nils_wf]
      rintro ⟨⟩ -
      unfold c36l3 zH
      simp -implicitDefEqProofs only [qF, qI, qJ, qM, qO, qP, qZ, zJ, zL, zP, List.length_nil, List.length_cons, List.getElem?_cons_zero, ↓reduceIte, Nat.reduceEqDiff, zR, zT, ↓zV, List.append_nil, Nat.zero_add, Nat.reduceAdd, zZ, leE, leH, leB, leV, leVs, keepP, liveP, wfE, wfB, wfV, wfL, List.map_cons, List.map_nil, Bool.and_true, Bool.and_self, true_and, and_true, and_self, Nat.reduceLT, lg0, lg1, lg2, lg3, lg4, lg5, lg6, lg7, jo, ↓qaR, hdf]
      exact ⟨0, ⟨by omega, by omega⟩, rfl, nils_wf⟩
    · have : n = 0 := by omega
      subst this
      have hmf : mfind (.int .i64) (.int .i64 t) [(.int .i64 f, V.i (-1), 0)] 0 = some none := by
        rw [← hes]; exact find_not (by simp; exact fun h => hft h.symm)
      simp -implicitDefEqProofs only [ofConst, List.getElem?_cons_zero, zS, Bool.not_false, reduceCtorEq, lg0, ↓jp, ↓jR, ↓qaA, hmf, qaA]
      refine ⟨fun _ _ => ?_, fun h => h.elim⟩
      have hA : ((0 ≤ ((0 : Nat) : Int) ∧ ((0 : Nat) : Int) ≤ ((0 : Nat) : Int)) ∧ ((8 : Nat) : Int) * ((0 : Nat) : Int) ≤ 281474976710656 ∧ ((0 : Nat) : Int) ≤ 9223372036854775807) := ⟨⟨by omega, by omega⟩, by omega, by omega⟩
      have hB : ((0 ≤ (N : Int) ∧ (N : Int) ≤ N) ∧ ((1 : Nat) : Int) * (N : Int) ≤ 281474976710656 ∧ (N : Int) ≤ 9223372036854775807) := ⟨⟨by omega, by omega⟩, by omega, by omega⟩
      refine ⟨⟨hA, hB, ?_⟩, hB, hA, ?_⟩
      all_goals
        intro _
        refine loopP_intro (fun _ : Unit => ⟨[(126, .i 0), (125, .i 0), (23, .sl 10 0 N), (22, .sl 9 0 0), (12, .ptr 7 0 0)], zH N f t [.map (ents ((List.replicate N (-2)).set f.toNat (-1)) [f]) 1, .var [.mp 6], .dead, .arr 1 [], .arr 1 ((cutS N [f] []).map encB)], 0⟩) (fun _ => True) (fun _ => 0) () trivial ?_ ?_
        · unfold zH
          simp -implicitDefEqProofs only [zP, List.getElem?_cons_zero, ↓reduceIte, Nat.reduceEqDiff, zZ, leE, leH, leB, leV, leVs, keepP, liveP, wfE, wfB, wfV, wfL, List.map_cons, List.map_nil, Bool.and_true, Bool.and_self, true_and, and_true, and_self, V.v.injEq, Value.int.injEq, Value.bool.injEq, lg0, lg1, lg2, lg3, lg4, lg5, lg6, lg7, lg8, lg9, leVs, leV, eq_true nils_wf, hes, cutS_nil, List.map_replicate]
          exact ⟨rfl, rfl⟩
        rintro ⟨⟩ -
        unfold c36l4 zH
        simp -implicitDefEqProofs only [qF, qI, qJ, qK, qL, qM, qO, qP, qV, qZ, zA, zJ, zL, zP, List.length_nil, List.length_cons, List.set_cons_zero, zQ, List.getD_eq_getElem?_getD, List.getElem?_cons_zero, ↓reduceIte, Nat.reduceEqDiff, Option.getD_some, zR, zT, ↓zV, List.nil_append, List.cons_append, List.append_nil, Nat.zero_add, Nat.reduceAdd, Nat.add_zero, freshP, true_and, Nat.reduceLT, lg0, ka, kf, lg1, kg, lg2, kk, lg3, kq, lg4, ky, lg5, kC, lg6, kG, lg7, kK, lg8, kO, lg9, kS, kW, kX, jo, ↓jp, ↓jr, ↓ju, ↓jy, ↓qau, ↓qav, ↓qaR, cx0_fx, hdf]
        refine loopP_intro (fun seen : List Nat => ⟨[(142, .ptr 11 0 0), (23, .sl 10 0 N), (22, .sl 9 0 0)], zH N f t [.map (ents ((List.replicate N (-2)).set f.toNat (-1)) [f]) 1, .var [.mp 6], .dead, .arr 1 [], .arr 1 ((cutS N [f] seen).map encB), .it (.mp 6) 1 seen 1], 0⟩) (fun _ => True) (left 1) [] trivial ?_ ?_
        · unfold zH
          simp -implicitDefEqProofs only [zP, List.getElem?_cons_zero, ↓reduceIte, Nat.reduceEqDiff, zZ, leE, leH, leB, leV, leVs, keepP, liveP, wfE, wfB, wfV, wfL, Bool.and_self, and_self, lg0, lg1, lg2, lg3, lg4, lg5, lg6, lg7, lg8, lg9, kW, leVs, leV, eq_true nils_wf, eq_true ents_wf]
        intro seen _
        unfold c36l5 zH
        simp -implicitDefEqProofs only [qE, qF, qI, qJ, qK, qM, qN, qO, qP, qR, qW, qY, zB, zC, zE, zJ, zK, zL, zM, zP, ofConst, cells?, List.length_nil, List.length_cons, List.set_cons_zero, splice, zQ, List.getD_eq_getElem?_getD, List.getElem?_cons_zero, ↓reduceIte, Nat.reduceEqDiff, Option.getD_some, arrSz, zT, ↓zU, ↓zV, List.nil_append, List.append_nil, Nat.zero_add, Nat.reduceAdd, zZ, leE, leH, leB, leV, leVs, keepP, liveP, wfE, wfB, wfV, wfL, List.take_zero, List.all_cons, List.all_nil, isD, isC, Bool.and_true, Bool.and_self, true_and, and_true, and_self, List.not_mem_nil, List.length_map, not_false_eq_true, Nat.le_refl, lg0, ka, lg1, kg, lg2, kk, lg3, kq, lg4, ky, lg5, kC, lg6, kG, lg7, kK, lg8, kO, lg9, kS, kW, kX, jo, ↓jp, ↓jA, ↓jC, ↓jG, ↓jR, ↓qau, ↓qav, ↓qaH, ↓qaI, List.length_map, List.getElem_map, cx0_bn, encB_drop]
        refine ⟨⟨ents_born, Nat.le_refl _⟩, fun hall => ?_, fun e he hne => ?_⟩
        · have hcut : cutS N [f] seen = cutOf [] N f [] := by
            have := cutS_all hS (seen := seen) fun j hj => by
              obtain ⟨e, h1, h2⟩ := ents_at (b := (srch [] N f).1) hj
              rw [hs] at h1
              have := List.all_eq_true.1 hall e h1
              rw [h2] at this
              simpa using this
            rw [hs] at this
            rw [this]
            unfold cutOf
            show _ = cutK N (srch [] N f).1 N
            rw [hs]
          rw [hcut]
          simp -implicitDefEqProofs only [zP, List.length_nil, List.length_cons, List.getElem?_cons_zero, ↓reduceIte, Nat.reduceEqDiff, List.nil_append, List.cons_append, Nat.zero_add, Nat.reduceAdd, resP, tupV, List.reverse_cons, List.reverse_nil, leH, leB, keepP, liveP, wfB, wfV, wfL, Bool.and_self, and_self, Nat.reduceLeDiff, lg0, lg1, lg2, lg3, lg4, lg5, lg6, lg7, lg8, lg9, retP_isA]
        · obtain ⟨v, h1, h2⟩ := ents_mem he
          have hv : v = f := by
            have := List.mem_of_getElem? h1
            simpa using this
          have hj := (List.getElem?_eq_some_iff.1 h1).1
          have hfind := ents_find he
          rw [List.getLast?_concat]
          simp -implicitDefEqProofs only [List.getElem?_cons_zero, ↓jp, ↓jR, ↓qaE, hfind, ↓qaE]
          rw [h2]
          simp -implicitDefEqProofs only [zR, Bool.and_true, Bool.and_self, and_true, and_self, eq_true nils_wf, eq_true ents_wf]
          refine ⟨by rw [hv]; exact hf, by rw [hv]; simp [cutS]; omega, seen ++ [e.2.2], left_less hj hne, ?_, rfl⟩
          rw [show [V.v (Value.bool true)] = encB true from rfl, ← List.map_set, cutS_add (by simp) h1 (by rw [hv]; exact hf.1)]
end Go.Fx.F
namespace Go.Fx
open Go.RowKit

def Tr.toEnv : Tr → Env
  | .lf => []
  | .nd v l r => (0, v) :: (l.toEnv.map (fun p => (2 * p.1 + 1, p.2)) ++ r.toEnv.map (fun p => (2 * p.1 + 2, p.2)))

theorem get_app_r : ∀ {a b : Env} {i : Nat}, (∀ p ∈ a, p.1 ≠ i) → get (a ++ b) i = get b i
  | [], _, _, _ => rfl
  | (j, x) :: r, b, i, h => by
    have hj : j ≠ i := h (j, x) (by simp)
    show (if i = j then x else get (r ++ b) i) = _
    rw [if_neg (Ne.symm hj)]
    exact get_app_r fun p hp => h p (by simp [hp])
theorem get_none : ∀ {a : Env} {i : Nat}, (∀ p ∈ a, p.1 ≠ i) → get a i = .any
  | [], _, _ => rfl
  | (j, x) :: r, i, h => by
    have hj : j ≠ i := h (j, x) (by simp)
    show (if i = j then x else get r i) = _
    rw [if_neg (Ne.symm hj)]
    exact get_none fun p hp => h p (by simp [hp])
theorem get_app_l : ∀ {a b : Env} {i : Nat}, (∀ p ∈ b, p.1 ≠ i) → get (a ++ b) i = get a i
  | [], b, i, h => get_none h
  | (j, x) :: r, b, i, h => by
    show (if i = j then x else get (r ++ b) i) = (if i = j then x else get r i)
    rw [get_app_l h]
theorem get_mapf {f : Nat → Nat} (hf : ∀ i j, f i = f j → i = j) : ∀ (a : Env) (i : Nat), get (a.map fun p => (f p.1, p.2)) (f i) = get a i
  | [], _ => rfl
  | (j, x) :: r, i => by
    show (if f i = f j then x else get (r.map fun p => (f p.1, p.2)) (f i)) = (if i = j then x else get r i)
    rw [get_mapf hf r i]
    by_cases h : i = j
    · subst h; simp
    · rw [if_neg h, if_neg fun e => h (hf _ _ e)]
theorem toEnv_get : ∀ (E : Tr) (i : Nat), get E.toEnv i = E.get i
  | .lf, _ => rfl
  | .nd v l r, 0 => rfl
  | .nd v l r, j + 1 => by
    show (if j + 1 = 0 then v else get (l.toEnv.map (fun p => (2 * p.1 + 1, p.2)) ++ r.toEnv.map (fun p => (2 * p.1 + 2, p.2))) (j + 1)) = _
    rw [if_neg (by omega)]
    simp only [Tr.get]
    split
    · rename_i hj
      rw [get_app_l (by rintro p hp; obtain ⟨q, _, rfl⟩ := List.mem_map.1 hp; simp; omega), show j + 1 = 2 * (j / 2) + 1 by omega, get_mapf (f := fun i => 2 * i + 1) (by intros; simp at *; omega)]
      exact toEnv_get l _
    · rename_i hj
      rw [get_app_r (by rintro p hp; obtain ⟨q, _, rfl⟩ := List.mem_map.1 hp; simp; omega), show j + 1 = 2 * (j / 2) + 2 by omega, get_mapf (f := fun i => 2 * i + 2) (by intros; simp at *; omega)]
      exact toEnv_get r _

mutual
theorem wfVB_ok {h : List Blk} : ∀ x : V, wfVB h x = true → wfV h x
  | .sl k _ _, hx => live_of (by simpa [wfVB] using hx)
  | .ptr k _ _, hx => live_of (by simpa [wfVB] using hx)
  | .mp k, hx => live_of (by simpa [wfVB] using hx)
  | .itr _, hx => by simp [wfVB] at hx
  | .agg cs, hx => wfLB_ok cs (by simpa [wfVB] using hx)
  | .tup cs, hx => wfLB_ok cs (by simpa [wfVB] using hx)
  | .clo _ cs, hx => wfLB_ok cs (by simpa [wfVB] using hx)
  | .any, _ | .v _, _ | .ro _ _, _ | .bro _ _, _ | .full _ _, _ | .rp _ _ _ _, _ => by simp [wfV]
theorem wfLB_ok {h : List Blk} : ∀ xs : List V, wfLB h xs = true → wfL h xs
  | [], _ => trivial
  | x :: r, hx => by
    simp only [wfLB, Bool.and_eq_true] at hx
    exact ⟨wfVB_ok x hx.1, wfLB_ok r hx.2⟩
end
theorem wfBB_ok {h : List Blk} : ∀ l : List Blk, wfBB h l = true → wfB h l
  | [], _ => trivial
  | .var cs :: r, hx => by simp only [wfBB, Bool.and_eq_true] at hx; exact ⟨wfLB_ok _ hx.1, wfBB_ok r hx.2⟩
  | .dead :: r, hx => wfBB_ok r (by simpa [wfBB] using hx)
  | .arr _ _ :: r, hx => wfBB_ok r (by simpa [wfBB] using hx)
  | .arv _ els :: r, hx => by simp only [wfBB, Bool.and_eq_true] at hx; exact ⟨wfLB_ok _ hx.1, wfBB_ok r hx.2⟩
  | .map es _ :: r, hx => by simp only [wfBB, Bool.and_eq_true] at hx; exact ⟨wfLB_ok _ hx.1, wfBB_ok r hx.2⟩
  | .it m _ _ _ :: r, hx => by simp only [wfBB, Bool.and_eq_true] at hx; exact ⟨wfVB_ok _ hx.1, wfBB_ok r hx.2⟩
theorem Tr.wf_ok {h : List Blk} : ∀ (E : Tr), E.wf h = true → ∀ i, wfV h (E.get i)
  | .lf, _, _ => trivial
  | .nd v l r, hx, i => by
    simp only [Tr.wf, Bool.and_eq_true] at hx
    cases i with
    | zero => exact wfVB_ok v hx.1
    | succ j =>
      simp only [Tr.get]
      split
      · exact Tr.wf_ok l hx.2.1 _
      · exact Tr.wf_ok r hx.2.2 _
theorem leTB_ok : ∀ (E E' : Tr), leTB E E' = true → ∀ i, E'.get i = .any ∨ E'.get i = E.get i
  | _, .lf, _, i => .inl rfl
  | .nd v l r, .nd v' l' r', h, i => by
    simp only [leTB, Bool.and_eq_true] at h
    cases i with
    | zero =>
      show v' = .any ∨ v' = v
      have h1 := h.1.1
      split at h1
      · exact .inl rfl
      · exact .inr (eqV_ok h1).symm
    | succ j =>
      simp only [Tr.get]
      split
      · exact leTB_ok l l' h.1.2 _
      · exact leTB_ok r r' h.2 _
  | .lf, .nd v' l' r', h, i => by
    simp only [leTB, Bool.and_eq_true] at h
    cases i with
    | zero =>
      show v' = .any ∨ v' = .any
      have h1 := h.1.1
      split at h1
      · exact .inl rfl
      · cases h1
    | succ j =>
      simp only [Tr.get]
      split
      · exact leTB_ok .lf l' h.1.2 _
      · exact leTB_ok .lf r' h.2 _
theorem leVsB_ok : ∀ {xs ys : List V}, leVsB xs ys = true → leVs xs ys
  | [], [], _ => trivial
  | x :: xs, y :: ys, h => by
    simp only [leVsB, Bool.and_eq_true] at h
    refine ⟨?_, leVsB_ok h.2⟩
    have h1 := h.1
    unfold leV
    split at h1
    · trivial
    · have := eqV_ok h1
      subst this
      split <;> trivial
  | [], _ :: _, h => by simp [leVsB] at h
  | _ :: _, [], h => by simp [leVsB] at h
theorem leBB_ok {b c : Blk} (h : leBB b c = true) : leB b c := by
  unfold leBB at h
  unfold leB
  split at h
  · trivial
  · split at h
    · exact leVsB_ok h
    · cases h
  · split
    · trivial
    · rename_i hne; exact (hne _ rfl).elim
    · exact eqB_ok h
theorem leHB_ok : ∀ {h p : List Blk}, leHB h p = true → leH h p
  | _, [], _ => by unfold leH; trivial
  | b :: h, c :: p, hx => by
    simp only [leHB, Bool.and_eq_true] at hx
    exact ⟨leBB_ok hx.1, leHB_ok hx.2⟩
  | [], _ :: _, hx => by simp [leHB] at hx

section
variable {P : Program} {ρ0 : Nat → Loc} {X : Nat → Prop} {w0 : World} {fx : List Nat} {N : Nat}

def GoodT (ρ0 : Nat → Loc) (X : Nat → Prop) (w0 : World) (fx : List Nat) (N : Nat) (p : Pt) (a : Act) (w : World) : Prop :=
  ∃ e b, (∀ i, get e i = p.1.get i) ∧ Good ρ0 X w0 fx N ⟨e, p.2, b⟩ a w

theorem GoodT.le {p q : Pt} {a : Act} {w : World} (hE : ∀ i, q.1.get i = .any ∨ q.1.get i = p.1.get i) (l2 : leH p.2 q.2) (l3 : keepP fx q.2) (l4 : ∀ i, wfV q.2 (q.1.get i)) (l5 : wfB q.2 q.2) (h : GoodT ρ0 X w0 fx N p a w) : GoodT ρ0 X w0 fx N q a w := by
  obtain ⟨e, b, he, ρ, ⟨⟨hf, h1⟩, hk⟩, ⟨hr, hre⟩, h5⟩ := h
  refine ⟨q.1.toEnv, 0, toEnv_get _, dropLoc ρ q.2, ⟨⟨hf.trans drop_fr, fun k hk' => by rw [live_loc (keepP_get l3 k hk')]; exact h1 k hk'⟩, l3⟩, ⟨dropRep hr l2 l5, fun i => ?_⟩, h5⟩
  rw [toEnv_get]
  rcases hE i with hg | hg
  · rw [hg]; trivial
  · exact drop_rep _ _ (l4 i) (by rw [hg, ← he]; exact hre i)

theorem joinD_ok {outs ps : List Pt} (h : joinD fx outs = some ps) {q : Pt} (hq : q ∈ outs) {a : Act} {w : World} (hg : GoodT ρ0 X w0 fx N q a w) : ∃ p ∈ ps, GoodT ρ0 X w0 fx N p a w := by
  unfold joinD at h
  split at h
  · simp at hq
  · simp only [Option.some.injEq] at h
    subst h
    exact ⟨q, hq, hg⟩
  · simp only at h
    split at h
    · rename_i hc
      simp only [Option.some.injEq] at h
      subst h
      simp only [Bool.and_eq_true, List.all_eq_true] at hc
      obtain ⟨h1, h2, h3, h4⟩ := hc
      obtain ⟨h5, h6⟩ := h1 q hq
      exact ⟨_, List.mem_singleton_self _, hg.le (leTB_ok _ _ h5) (leHB_ok h6) (keep_of h2) (Tr.wf_ok _ h3) (wfBB_ok _ h4)⟩
    · cases h

theorem goL_ok {α β : Type} {f : α → Option (List β)} : ∀ {xs : List α} {ys : List β}, goL f xs = some ys → ∀ x ∈ xs, ∃ zs, f x = some zs ∧ ∀ z ∈ zs, z ∈ ys
  | [], _, _, x, hx => by simp at hx
  | [y], ys, h, x, hx => by
    simp only [List.mem_singleton] at hx
    subst hx
    exact ⟨ys, h, fun _ h => h⟩
  | y :: y2 :: r, ys, h, x, hx => by
    simp only [goL] at h
    split at h
    · rename_i a b h1 h2
      simp only [Option.some.injEq] at h
      subst h
      rcases List.mem_cons.1 hx with rfl | hx
      · exact ⟨a, h1, fun z hz => List.mem_append_left _ hz⟩
      · obtain ⟨zs, h3, h4⟩ := goL_ok h2 x hx
        exact ⟨zs, h3, fun z hz => List.mem_append_right _ (h4 z hz)⟩
    · cases h
theorem bindL_ok {α β : Type} {l : Option (List α)} {f : α → Option (List β)} {ys : List β} (h : bindL l f = some ys) : ∃ xs, l = some xs ∧ ∀ x ∈ xs, ∃ zs, f x = some zs ∧ ∀ z ∈ zs, z ∈ ys := by
  unfold bindL at h
  split at h
  · cases h
  · exact ⟨_, rfl, goL_ok h⟩

section
variable {C : Ctr} {call : CallD} {mvf : FuncId → Bool} (hcall : ∀ f zas h0 mv r h', call f zas h0 mv = some (r, h') → C f zas h0 mv (fun r1 h1 => r1 = r ∧ h1 = h'))
include hcall

theorem putT_get {E : Tr} {e : Env} (he : ∀ i, get e i = E.get i) (d : Option Nat) (x : V) (h : List Blk) (b : Nat) : ∀ i, get ((⟨e, h, b⟩ : St).put d x).e i = (putT E d x).get i := by
  intro i
  cases d with
  | none => exact he i
  | some d =>
    simp only [putT, forceV_eq]
    rw [Tr.get_put _ _ _ _ _ (Nat.lt_succ_self d)]
    show (if i = d then x else get e i) = _
    rw [he]

theorem runD_ok {bn : List Nat} {o : LOper} {b : Nat} {p : Pt} {outs : List Pt} (h : runD call mvf fx bn o b p = some outs) {e : Env} (he : ∀ i, get e i = p.1.get i) {K : St → Prop}
    (hK : ∀ q ∈ outs, ∀ e', (∀ i, get e' i = q.1.get i) → K ⟨e', q.2, b⟩) : aOp ⟨C, fx, bn⟩ o.op ⟨e, p.2, b⟩ fun x s' => K (s'.put o.dst x) := by
  unfold runD at h
  split at h
  · cases h
  · rename_i rs hrs
    simp only [Option.some.injEq] at h
    subst h
    refine opD_ok hcall he hrs fun r hr e' he' => ?_
    have := hK (putT r.E o.dst r.x, r.h) (by rw [List.mem_map]; exact ⟨r, hr, rfl⟩) ((⟨e', r.h, b⟩ : St).put o.dst r.x).e (putT_get hcall he' _ _ _ _)
    cases hd : o.dst with
    | none => rw [hd] at this; exact this
    | some d => rw [hd] at this; exact this

theorem operD_ok {bn : List Nat} {o : LOper} {b : Nat} {p : Pt} {outs : List Pt} (h : operD call mvf fx bn o b p = some outs) {e : Env} (he : ∀ i, get e i = p.1.get i) {K : St → Prop}
    (hK : ∀ q ∈ outs, ∀ e', (∀ i, get e' i = q.1.get i) → K ⟨e', q.2, b⟩) : aOper ⟨C, fx, bn⟩ o ⟨e, p.2, b⟩ K := by
  unfold operD at h
  unfold aOper
  split at h
  · rename_i hg
    rw [hg]
    exact runD_ok hcall h he hK
  · rename_i g want hg
    rw [hg]
    have hge := he g
    show guardP (get e g) want _ _ _
    split at h
    · rename_i t ht
      rw [hge, ht]
      have hput : ∀ v : Bool, v = t → ∀ i, get ((g, V.b v) :: e) i = p.1.get i := by
        intro v hv i
        subst hv
        show (if i = g then V.b v else get e i) = _
        by_cases hi : i = g
        · rw [if_pos hi, hi, ht]
        · rw [if_neg hi, he]
      have hskip : ∀ v : Bool, v = t → ∀ {outs : List Pt}, some [(putT p.1 o.dst (.v (.tuple #[])), p.2)] = some outs → (∀ q ∈ outs, ∀ e', (∀ i, get e' i = q.1.get i) → K ⟨e', q.2, b⟩) →
          K (((⟨e, p.2, b⟩ : St).put (some g) (.b v)).put o.dst (.v (.tuple #[]))) := by
        intro v hv outs ho hK
        simp only [Option.some.injEq] at ho
        subst ho
        have := hK _ (List.mem_singleton_self _) ((⟨(g, V.b v) :: e, p.2, b⟩ : St).put o.dst (.v (.tuple #[]))).e (putT_get hcall (hput v hv) _ _ _ _)
        cases hd : o.dst with
        | none => rw [hd] at this; exact this
        | some d => rw [hd] at this; exact this
      split at h
      · rename_i htw
        subst htw
        have := runD_ok hcall h (hput t rfl) hK
        cases t with
        | true => exact ⟨fun _ => this, fun h => by cases h⟩
        | false => exact ⟨fun h => (by cases h), fun _ => this⟩
      · rename_i htw
        have hn : (!want) = t := by cases t <;> cases want <;> simp_all
        have := hskip (!want) hn h hK
        cases t with
        | true => cases want with
          | true => exact absurd rfl htw
          | false => exact ⟨fun _ => this, fun h => by cases h⟩
        | false => cases want with
          | true => exact ⟨fun h => (by cases h), fun _ => this⟩
          | false => exact absurd rfl htw
    · rename_i u ht
      rw [hge, ht]
      simp only [Option.some.injEq] at h
      subst h
      have := hK _ (List.mem_singleton_self _) ((⟨e, p.2, b⟩ : St).put o.dst (.v (.tuple #[]))).e (putT_get hcall he _ _ _ _)
      show K ((⟨e, p.2, b⟩ : St).put o.dst (.v (.tuple #[])))
      cases hd : o.dst with
      | none => rw [hd] at this; exact this
      | some d => rw [hd] at this; exact this
    · cases h

theorem opsD_ok {b : Nat} {K : St → Prop} : ∀ {ls : List LOper} {p : Pt} {outs : List Pt}, opsD call mvf fx b ls p = some outs → ∀ {e : Env}, (∀ i, get e i = p.1.get i) →
    (∀ q ∈ outs, ∀ e', (∀ i, get e' i = q.1.get i) → K ⟨e', q.2, b⟩) → aOps ⟨C, fx, []⟩ ls ⟨e, p.2, b⟩ K
  | [], p, outs, h, e, he, hK => by
    simp only [opsD, Option.some.injEq] at h
    subst h
    exact hK _ (List.mem_singleton_self _) e he
  | o :: r, p, outs, h, e, he, hK => by
    simp only [opsD] at h
    obtain ⟨xs, h1, h2⟩ := bindL_ok h
    refine operD_ok hcall h1 he fun q hq e' he' => ?_
    obtain ⟨zs, h3, h4⟩ := h2 q hq
    exact opsD_ok h3 he' fun z hz => hK z (h4 z hz)

theorem planD_ok {b : Nat} {K : St → Prop} : ∀ {l : LPlan} {bn : List Nat} {p : Pt} {outs : List Pt}, planD call mvf fx b l bn p = some outs → ∀ {e : Env}, (∀ i, get e i = p.1.get i) →
    (∀ q ∈ outs, ∀ e', (∀ i, get e' i = q.1.get i) → K ⟨e', q.2, b⟩) → awP ⟨C, fx, []⟩ l bn K ⟨e, p.2, b⟩
  | .done, bn, p, outs, h, e, he, hK => by
    simp only [planD, Option.some.injEq] at h
    subst h
    exact hK _ (List.mem_singleton_self _) e he
  | .take i D o q, bn, p, outs, h, e, he, hK => by
    simp only [planD] at h
    obtain ⟨xs, h1, h2⟩ := bindL_ok h
    refine operD_ok hcall h1 he fun q' hq e' he' => ?_
    obtain ⟨zs, h3, h4⟩ := h2 q' hq
    have hrd : rdB o.op e bn = rdT o.op p.1 bn := by
      unfold rdB rdT
      cases o.op with
      | load n a => simp only [ev_ok he]; cases evT p.1 a <;> rfl
      | _ => rfl
    show awP _ q (rdB o.op e bn) K _
    rw [hrd]
    exact planD_ok h3 he' fun z hz => hK z (h4 z hz)
  | .alt i o r q q', bn, p, outs, h, e, he, hK => by
    simp only [planD] at h
    split at h
    · rename_i x y h1 h2
      simp only [Option.some.injEq] at h
      subst h
      obtain ⟨xs, h3, h4⟩ := bindL_ok h1
      refine ⟨operD_ok hcall h3 he fun q' hq e' he' => ?_, planD_ok h2 he fun z hz => hK z (List.mem_append_right _ hz)⟩
      obtain ⟨zs, h5, h6⟩ := h4 q' hq
      exact planD_ok h5 he' fun z hz => hK z (List.mem_append_left _ (h6 z hz))
    · cases h
  | .none, bn, p, outs, h, e, he, hK => trivial
end

/-- How a piece of text is left. -/
def Out.ex : Out → Exit
  | .normal _ => .normal
  | .exit j _ => .exit j
  | .ret _ => .ret
def Out.pt : Out → Pt
  | .normal p => p
  | .exit _ p => p
  | .ret p => p

theorem GoodT.reserve {p : Pt} {a : Act} {w : World} (n : Nat) (h : GoodT ρ0 X w0 fx N p a w) : ∃ e, (∀ i, get e i = p.1.get i) ∧ Good ρ0 X w0 fx N ⟨e, roomD n p.2, p.2.length⟩ a w := by
  obtain ⟨e, b, he, hg⟩ := h
  refine ⟨e, he, ?_⟩
  have := hg.reserve n p.2.length
  cases n with
  | zero => simpa [roomD] using this
  | succ n => exact this

theorem others_mem {o : Out} : ∀ {l : List Out}, o ∈ l → (∀ p, o ≠ .normal p) → o ∈ others l
  | [], h, _ => by simp at h
  | x :: r, h, hn => by
    rcases List.mem_cons.1 h with rfl | h'
    · cases o with
      | normal p => exact (hn p rfl).elim
      | _ => simp [others]
    · clear h
      have ih := others_mem h' hn
      cases x with
      | normal p => exact ih
      | _ => simp only [others]; exact List.mem_cons_of_mem _ ih
theorem norms_mem {p : Pt} : ∀ {l : List Out}, Out.normal p ∈ l → p ∈ norms l
  | [], h => by simp at h
  | x :: r, h => by
    rcases List.mem_cons.1 h with rfl | h'
    · simp [norms]
    · clear h
      have ih := norms_mem h'
      cases x with
      | normal p => simp only [norms]; exact List.mem_cons_of_mem _ ih
      | _ => exact ih

theorem Tr.get_ren (g : Nat → Option Nat) : ∀ (t : Tr) (i : Nat), (t.ren g).get i = renK g (t.get i)
  | .lf, _ => by simp [Tr.ren, Tr.get, renK]
  | .nd v l r, i => by
    cases i with
    | zero => rfl
    | succ j =>
      simp only [Tr.ren, Tr.get]
      split
      · exact Tr.get_ren g l _
      · exact Tr.get_ren g r _

mutual
theorem renK_rep {w : World} {ρ1 ρ2 : Nat → Loc} {g : Nat → Option Nat} (hS : ∀ b, Sta ρ1 X w b → Sta ρ2 X w b) (hL : ∀ b, Len ρ1 w b → Len ρ2 w b) (hg : ∀ k j, g k = some j → (ρ1 k).real = true → ρ2 j = ρ1 k) :
    ∀ (x : V) (val : Value), RepV ρ1 X w x val → RepV ρ2 X w (renK g x) val
  | .any, _, _ => trivial
  | .v _, _, hx => hx
  | .ro sz els, val, hx => RepD_mono (fun b hb => ⟨hS b hb, rfl⟩) (.ro sz els) val hx
  | .bro sz els, val, hx => by
    obtain ⟨a, len, cap, h1, h2, h3, h4, h5⟩ := hx
    refine ⟨a, len, cap, h1, h2, h3, h4, h5.imp id ?_⟩
    rintro ⟨b, off, h6, h7, h8⟩
    exact ⟨b, off, h6, hL b h7, RepEls_mono (fun b hb => ⟨hS b hb, rfl⟩) sz b rfl off els h8⟩
  | .full sz els, val, hx => by
    obtain ⟨a, len, h1, h2, h4, h5⟩ := hx
    refine ⟨a, len, h1, h2, h4, h5.imp id ?_⟩
    rintro ⟨b, off, h6, h7, h8⟩
    exact ⟨b, off, h6, hL b h7, RepEls_mono (fun b hb => ⟨hS b hb, rfl⟩) sz b rfl off els h8⟩
  | .rp sz els i f, val, hx => by
    obtain ⟨b, off, h6, h7, h8⟩ := hx
    exact ⟨b, off, h6, hL b h7, RepEls_mono (fun b hb => ⟨hS b hb, rfl⟩) sz b rfl off els h8⟩
  | .itr _, _, _ => trivial
  | .sl k i n, val, hx => by
    simp only [renK]
    split
    · rename_i j hj
      obtain ⟨cap, h1, h2, h3⟩ := hx
      refine ⟨cap, h1, h2, h3.imp id ?_⟩
      rintro ⟨h4, h5⟩
      rw [hg k j hj h4]
      exact ⟨h4, h5⟩
    · trivial
  | .ptr k i f, val, hx => by
    simp only [renK]
    split
    · rename_i j hj
      obtain ⟨h4, h5⟩ := hx
      simp only [RepV]
      rw [hg k j hj h4]
      exact ⟨h4, h5⟩
    · trivial
  | .mp k, val, hx => by
    simp only [renK]
    split
    · rename_i j hj
      obtain ⟨h4, h5⟩ := hx
      simp only [RepV]
      rw [hg k j hj h4]
      exact ⟨h4, h5⟩
    · trivial
  | .agg cs, val, hx => by
    obtain ⟨arr, h1, h2⟩ := hx
    exact ⟨arr, h1, rensK_rep hS hL hg cs _ h2⟩
  | .tup cs, val, hx => by
    obtain ⟨arr, h1, h2⟩ := hx
    exact ⟨arr, h1, rensK_rep hS hL hg cs _ h2⟩
  | .clo f cs, val, hx => by
    obtain ⟨arr, h1, h2⟩ := hx
    exact ⟨arr, h1, rensK_rep hS hL hg cs _ h2⟩
theorem rensK_rep {w : World} {ρ1 ρ2 : Nat → Loc} {g : Nat → Option Nat} (hS : ∀ b, Sta ρ1 X w b → Sta ρ2 X w b) (hL : ∀ b, Len ρ1 w b → Len ρ2 w b) (hg : ∀ k j, g k = some j → (ρ1 k).real = true → ρ2 j = ρ1 k) :
    ∀ (xs : List V) (vs : List Value), RepL ρ1 X w xs vs → RepL ρ2 X w (rensK g xs) vs
  | [], [], _ => trivial
  | x :: r, u :: us, hx => ⟨renK_rep hS hL hg x u hx.1, rensK_rep hS hL hg r us hx.2⟩
  | [], _ :: _, hx => hx.elim
  | _ :: _, [], hx => hx.elim
end
theorem rensK_map (g : Nat → Option Nat) : ∀ xs : List V, rensK g xs = xs.map (renK g)
  | [] => rfl
  | x :: r => by simp [rensK, rensK_map g r]

theorem renBK_rep {w : World} {ρ1 ρ2 : Nat → Loc} {g : Nat → Option Nat} (hS : ∀ b, Sta ρ1 X w b → Sta ρ2 X w b) (hL : ∀ b, Len ρ1 w b → Len ρ2 w b) (hg : ∀ k j, g k = some j → (ρ1 k).real = true → ρ2 j = ρ1 k)
    {k j : Nat} (hkj : ρ2 j = ρ1 k) {B : Blk} (hB : RepB ρ1 X w k B) : RepB ρ2 X w j (renBK g B) := by
  cases B with
  | dead => simp only [renBK, RepB] at hB ⊢; rw [hkj]; exact hB
  | arr sz els =>
    simp only [renBK, RepB] at hB ⊢
    rw [hkj]
    refine ⟨hB.1, hB.2.imp id ?_⟩
    rintro ⟨h1, c, T, h2, h3, h4, h5⟩
    exact ⟨h1, c, T, h2, h3, h4, RepEls_mono (fun b hb => ⟨hS b hb, rfl⟩) sz _ rfl _ _ h5⟩
  | var cs =>
    simp only [renBK, RepB] at hB ⊢
    rw [hkj]
    obtain ⟨h1, c, T, h2, h3⟩ := hB
    exact ⟨h1, c, T, h2, rensK_rep hS hL hg _ _ h3⟩
  | arv sz els =>
    simp only [renBK, RepB] at hB ⊢
    rw [hkj]
    obtain ⟨h0, h1, c, T, h2, h3, h4, h5⟩ := hB
    refine ⟨h0, h1, c, T, h2, h3, by simpa using h4, fun i e he => ?_⟩
    simp only [List.getElem?_map, Option.map_eq_some_iff] at he
    obtain ⟨e0, he0, rfl⟩ := he
    refine ⟨by rw [rensK_map, List.length_map]; exact (h5 i e0 he0).1, fun f x hx => ?_⟩
    simp only [rensK_map, List.getElem?_map, Option.map_eq_some_iff] at hx
    obtain ⟨x0, hx0, rfl⟩ := hx
    obtain ⟨u, h6, h7⟩ := (h5 i e0 he0).2 f x0 hx0
    exact ⟨u, h6, renK_rep hS hL hg _ _ h7⟩
  | map es cl =>
    simp only [renBK, RepB] at hB ⊢
    rw [hkj]
    obtain ⟨h1, arr, h2, h3, h4⟩ := hB
    refine ⟨h1, arr, h2, by rw [h3]; simp, ?_⟩
    rw [show (List.map (fun e : Value × V × Nat => (e.1, renK g e.2.1, e.2.2)) es).map (·.2.1) = rensK g (es.map (·.2.1)) by rw [rensK_map]; simp]
    exact rensK_rep hS hL hg _ _ h4
  | it m s sn l =>
    simp only [renBK, RepB] at hB ⊢
    rw [hkj]
    obtain ⟨h1, x, h2, h3⟩ := hB
    exact ⟨h1, x, h2, renK_rep hS hL hg _ _ h3⟩

/-- .. the others are forgotten. -/
theorem gc_rep {ρ : Nat → Loc} {w : World} {h : List Blk} (hr : Rep ρ X w h) {ι : List Nat} (hn : ι.Nodup) (hlt : ∀ k ∈ ι, k < h.length) :
    Rep (calleeLoc ρ ι) X w (ι.map fun k => renBK (pos ι) (blk h k)) := by
  refine ⟨?_, ?_, ?_, fun b ho => hr.disj b (callee_own ho), ?_, hr.xlt⟩
  · intro i j hij hi hj
    obtain ⟨a, ha, ea⟩ := callee_real hi
    obtain ⟨c, hc, ec⟩ := callee_real hj
    rw [ea] at hi ⊢
    rw [ec] at hj ⊢
    refine hr.inj a c (fun e => hij ?_) hi hj
    subst e
    have h1 := pos_of_get hn ha
    have h2 := pos_of_get hn hc
    rw [h1] at h2
    simpa using h2
  · intro k hk
    have : ι[k]? = none := by simpa using hk
    simp [calleeLoc, this]
  · intro j B hB
    simp only [List.getElem?_map, Option.map_eq_some_iff] at hB
    obtain ⟨k, hk, rfl⟩ := hB
    have hkl := hlt k (List.mem_of_getElem? hk)
    have hb : h[k]? = some (blk h k) := by simp [blk, List.getD_eq_getElem?_getD, List.getElem?_eq_getElem hkl]
    exact renBK_rep (fun b hb => ⟨hb.1, fun ho => hb.2.1 (callee_own ho), hb.2.2⟩) (fun b hb => callee_len hb) (fun k' j' hp _ => callee_at (pos_some hp)) (callee_at hk) (hr.blk k _ hb)
  · intro j hj
    unfold calleeLoc at hj ⊢
    split at hj
    · exact hr.lt _ hj
    · cases hj

theorem gc_fr {ρ : Nat → Loc} {w : World} {ι : List Nat} : Fr ρ w (calleeLoc ρ ι) w := ⟨rfl, rfl, rfl, Nat.le_refl _, fun _ _ ho => ⟨rfl, fun h => ho (callee_own h)⟩⟩
theorem gc_val {ρ : Nat → Loc} {w : World} {ι : List Nat} {x : V} {val : Value} (h : RepV ρ X w x val) : RepV (calleeLoc ρ ι) X w (renK (pos ι) x) val :=
  renK_rep (fun b hb => ⟨hb.1, fun ho => hb.2.1 (callee_own ho), hb.2.2⟩) (fun b hb => callee_len hb) (fun k' j' hp _ => callee_at (pos_some hp)) x val h

theorem keepN_get {n : Nat} {h : List Blk} {names : List Nat} {k : Nat} (hk : k < n) : (keepN n h names)[k]? = some k := by
  unfold keepN
  rw [List.getElem?_append_left (by simpa using hk)]
  simp [hk]

theorem numB_ok {L : List Nat} {h : List Blk} {n : Nat} (hb : numB L h n = true) : L.Nodup ∧ (∀ k ∈ L, k < h.length) ∧ n ≤ h.length := by
  unfold numB at hb
  simp only [Bool.and_eq_true, List.all_eq_true, Nat.blt_eq, Nat.ble_eq] at hb
  exact ⟨nodup_of hb.1.1, hb.1.2, hb.2⟩

theorem gcD_ok {n0 : Nat} (hfn : ∀ k ∈ fx, k < n0) {p q : Pt} (h : gcD fx n0 p = some q) {a : Act} {w : World} (hg : GoodT ρ0 X w0 fx N p a w) : GoodT ρ0 X w0 fx N q a w := by
  unfold gcD at h
  split at h
  · simp only [Option.some.injEq] at h
    subst h
    exact hg
  generalize hL : keepN n0 p.2 p.1.namesT = L at h
  unfold gcK at h
  simp only at h
  split at h
  · rename_i hc
    simp only [Bool.and_eq_true] at hc
    simp only [Option.some.injEq] at h
    subst h
    obtain ⟨hn, hlt, _⟩ := numB_ok hc.1
    obtain ⟨e, b, he, ρ, ⟨⟨hf, h1⟩, hk⟩, ⟨hr, hre⟩, h5⟩ := hg
    refine ⟨(p.1.ren (pos L)).toEnv, 0, toEnv_get _, calleeLoc ρ L, ⟨⟨hf.trans gc_fr, fun k hk' => ?_⟩, keep_of hc.2⟩, ⟨gc_rep hr hn hlt, fun i => ?_⟩, h5⟩
    · rw [callee_at (by rw [← hL]; exact keepN_get (hfn k hk'))]
      exact h1 k hk'
    · rw [toEnv_get, Tr.get_ren, ← he]
      exact gc_val (hre i)
  · cases h

/-- THE RUN IS SOUND. -/
theorem cw_sound (hP : P.follows .mixedOrders = true) {n0 : Nat} (hfn : ∀ k ∈ fx, k < n0) {call : CallD} {mvf : FuncId → Bool} (hcall : ∀ f zas h0 mv r h', call f zas h0 mv = some (r, h') → Callable P f ∧ Fn P f zas h0 mv (fun r1 h1 => r1 = r ∧ h1 = h')) :
    ∀ (c : Code) (l0 l : LCode), rlC P N c l0 = some l → ∀ (Q : Exit → Act → World → Prop) (p : Pt) (outs : List Out), cw call mvf fx n0 l p = some outs →
      (∀ o ∈ outs, ∀ a w, GoodT ρ0 X w0 fx N o.pt a w → Q o.ex a w) → ∀ a w, GoodT ρ0 X w0 fx N p a w → c.wp P Q a w := by
  have hcx : Cx.ok ⟨fun f zas h0 mv R => Callable P f ∧ Fn P f zas h0 mv R, fx, []⟩ P := fun f zas h0 mv R h => h
  have hcl : ∀ f zas h0 mv r h', call f zas h0 mv = some (r, h') → (fun f zas h0 mv R => Callable P f ∧ Fn P f zas h0 mv R) f zas h0 mv (fun r1 h1 => r1 = r ∧ h1 = h') := hcall
  intro c
  induction c with
  | skip =>
    intro l0 l hm Q p outs hd hQ a w hg
    simp only [rlC, Option.some.injEq] at hm
    subst hm
    simp only [cw, Option.some.injEq] at hd
    subst hd
    exact wp_skip (hQ (.normal p) (by simp) a w hg)
  | label i =>
    intro l0 l hm Q p outs hd hQ a w hg
    simp only [rlC, Option.some.injEq] at hm
    subst hm
    simp only [cw, Option.some.injEq] at hd
    subst hd
    exact wp_label (hQ (.normal p) (by simp) a w hg)
  | scope c ih =>
    intro l0 l hm Q p outs hd hQ a w hg
    simp only [rlC] at hm
    refine wp_scope_straight (ih l0 l hm (Exit.noGoto Q) p outs hd (fun o ho a w h => ?_) a w hg)
    have := hQ o ho a w h
    cases o <;> exact this
  | ret =>
    intro l0 l hm Q p outs hd hQ a w hg
    simp only [rlC, Option.some.injEq] at hm
    subst hm
    simp only [cw, Option.some.injEq] at hd
    subst hd
    exact wp_ret (hQ (.ret p) (by simp) a w hg)
  | exit i =>
    intro l0 l hm Q p outs hd hQ a w hg
    simp only [rlC, Option.some.injEq] at hm
    subst hm
    simp only [cw, Option.some.injEq] at hd
    subst hd
    exact wp_exit (hQ (.exit i p) (by simp) a w hg)
  | region id ops draw =>
    intro l0 l hm Q p outs hd hQ a w hg
    have hN : ∀ {ps : List Pt}, outs = ps.map .normal → ∀ (s : St) a w, (∃ q ∈ ps, (∀ i, get s.e i = q.1.get i) ∧ s.h = q.2) → Good ρ0 X w0 fx N s a w → Q .normal a w := by
      rintro ps rfl s a w ⟨q, hq, h1, h2⟩ hg
      exact hQ (.normal q) (by rw [List.mem_map]; exact ⟨q, hq, rfl⟩) a w ⟨s.e, s.b, h1, by show Good ρ0 X w0 fx N ⟨s.e, q.2, s.b⟩ a w; rw [← h2]; exact hg⟩
    simp only [rlC] at hm
    split at hm
    · split at hm
      · rename_i r hr
        simp only [Option.some.injEq] at hm
        subst hm
        simp only [cw, Option.map_eq_some_iff] at hd
        obtain ⟨ps, h1, h2⟩ := hd
        obtain ⟨e, he, hgr⟩ := hg.reserve _
        exact wp_region_list (aOps_sound hcx rfl (hN h2.symm) _ _ _ _ a w hr hgr (opsD_ok hcl h1 he fun q hq e' he' => ⟨q, hq, he', rfl⟩))
      · cases hm
    · split at hm
      · rename_i r hr
        split at hm
        · rename_i hc
          simp only [Bool.and_eq_true] at hc
          simp only [Option.some.injEq] at hm
          subst hm
          simp only [cw, Option.map_eq_some_iff] at hd
          obtain ⟨ps, h1, h2⟩ := hd
          obtain ⟨e, he, hgr⟩ := hg.reserve _
          exact qui_sound (cx := ⟨fun f zas h0 mv R => Callable P f ∧ Fn P f zas h0 mv R, fx, []⟩) hP (hN h2.symm) hr hc.1 hc.2 hgr (opsD_ok hcl h1 he fun q hq e' he' => ⟨q, hq, he', rfl⟩)
        · cases hm
      · cases hm
    · split at hm
      · rename_i r hr
        split at hm
        · rename_i hc
          simp only [Bool.and_eq_true] at hc
          simp only [Option.some.injEq] at hm
          subst hm
          simp only [cw, Option.map_eq_some_iff] at hd
          obtain ⟨ps, h1, h2⟩ := hd
          obtain ⟨e, he, hgr⟩ := hg.reserve _
          exact tail_sound hP hcx rfl (hN h2.symm) hr hc.1 hc.2 hgr (opsD_ok hcl h1 he fun q hq e' he' => ⟨q, hq, he', rfl⟩)
        · cases hm
      · cases hm
    · split at hm
      · rename_i r hr
        simp only [Option.some.injEq] at hm
        subst hm
        simp only [cw] at hd
        split at hd
        · cases hd
        · rename_i ps h1
          simp only [Option.map_eq_some_iff] at hd
          obtain ⟨js, h2, h3⟩ := hd
          obtain ⟨e, he, hgr⟩ := hg.reserve _
          refine tree_sound hP hcx rfl (K := fun s => ∃ q ∈ ps, (∀ i, get s.e i = q.1.get i) ∧ s.h = q.2) ?_ hr hgr (planD_ok hcl h1 he fun q hq e' he' => ⟨q, hq, he', rfl⟩)
          rintro s a w ⟨q, hq, h4, h5⟩ hg
          obtain ⟨j, hj, hgj⟩ := joinD_ok h2 hq (⟨s.e, s.b, h4, by rw [← h5]; exact hg⟩ : GoodT ρ0 X w0 fx N q a w)
          subst h3
          exact hQ (.normal j) (by rw [List.mem_map]; exact ⟨j, hj, rfl⟩) a w hgj
      · cases hm
    · simp only [Option.some.injEq] at hm
      subst hm
      simp [cw] at hd
    · cases hm
  | seq x y iha ihb =>
    intro l0 l hm Q p outs hd hQ a w hg
    have key : ∀ {x' y' lx ly : LCode} {p : Pt}, rlC P N x lx = some x' → rlC P N y ly = some y' → andD (cw call mvf fx n0 x' p) (cw call mvf fx n0 y') = some outs → GoodT ρ0 X w0 fx N p a w → (Code.seq x y).wp P Q a w := by
      intro x' y' lx ly p h1 h2 hd hg
      unfold andD at hd
      obtain ⟨os, h3, h4⟩ := bindL_ok hd
      refine wp_seq (iha _ _ h1 _ p os h3 (fun o ho a w h => ?_) a w hg)
      obtain ⟨zs, h5, h6⟩ := h4 o ho
      cases o with
      | normal q => exact ihb _ _ h2 Q q zs h5 (fun o ho => hQ o (h6 o ho)) a w h
      | exit j q =>
        simp only [Option.some.injEq] at h5
        subst h5
        exact hQ _ (h6 _ (by simp)) a w h
      | ret q =>
        simp only [Option.some.injEq] at h5
        subst h5
        exact hQ _ (h6 _ (by simp)) a w h
    simp only [rlC] at hm
    split at hm
    · split at hm
      · rename_i x' y' h1 h2
        simp only [Option.some.injEq] at hm
        subst hm
        exact key h1 h2 hd hg
      · cases hm
    · split at hm
      · rename_i x' y' h1 h2
        simp only [Option.some.injEq] at hm
        subst hm
        simp only [cw] at hd
        split at hd
        · rename_i q hf
          obtain ⟨e, b, he, hgd⟩ := hg
          obtain ⟨s', ⟨g1, g2⟩, hgd'⟩ := frzP_good (K := fun s => (∀ i, get s.e i = q.1.get i) ∧ s.h = q.2) _ _ (frzD_ok (b := b) _ p.1 p.2 e he hf fun e' he' => ⟨he', rfl⟩) hgd
          exact key h1 h2 hd ⟨s'.e, s'.b, g1, by rw [← g2]; exact hgd'⟩
        · cases hd
      · cases hm
    · simp only [Option.some.injEq] at hm
      subst hm
      simp [cw] at hd
    · cases hm
  | cond c x y iha ihb =>
    intro l0 l hm Q p outs hd hQ a w hg
    simp only [rlC] at hm
    split at hm
    · split at hm
      · rename_i x' y' h1 h2
        simp only [Option.some.injEq] at hm
        subst hm
        simp only [cw] at hd
        have hev : ∀ t, evT p.1 c = .v (.bool t) → a.eval c = .bool t := by
          intro t ht
          obtain ⟨e, b, he, ρ, _, ⟨_, hre⟩, _⟩ := hg
          have := ev_rep hre c
          rw [ev_ok he, ht] at this
          exact this
        split at hd
        · rename_i ht
          refine wp_cond (hev _ ht) ?_
          exact iha _ _ h1 Q p outs hd hQ a w hg
        · rename_i ht
          refine wp_cond (hev _ ht) ?_
          exact ihb _ _ h2 Q p outs hd hQ a w hg
        · cases hd
      · cases hm
    · cases hm
  | block i x iha =>
    intro l0 l hm Q p outs hd hQ a w hg
    simp only [rlC] at hm
    split at hm
    · split at hm
      · rename_i x' h1
        simp only [Option.some.injEq] at hm
        subst hm
        simp only [cw, blockD] at hd
        split at hd
        · cases hd
        · rename_i os h2
          split at hd
          · cases hd
          · rename_i ps h3
            simp only [Option.some.injEq] at hd
            subst hd
            have hnorm : ∀ q a w, Out.normal q ∈ os.map (leave i) → GoodT ρ0 X w0 fx N q a w → Q .normal a w := by
              intro q a w hq hgq
              obtain ⟨j, hj, hgj⟩ := joinD_ok h3 (norms_mem hq) hgq
              exact hQ (.normal j) (by simp only [List.mem_append, List.mem_map]; exact .inl ⟨j, hj, rfl⟩) a w hgj
            refine wp_block (iha _ _ h1 _ p os h2 (fun o ho a w h => ?_) a w hg)
            cases o with
            | normal q => exact hnorm q a w (by rw [List.mem_map]; exact ⟨_, ho, rfl⟩) h
            | exit j q =>
              show if j = i then _ else _
              split
              · rename_i hj
                exact hnorm q a w (by rw [List.mem_map]; exact ⟨_, ho, by simp [leave, hj]⟩) h
              · rename_i hj
                exact hQ (.exit j q) (List.mem_append_right _ (others_mem (by rw [List.mem_map]; exact ⟨_, ho, by simp [leave, hj]⟩) (by simp))) a w h
            | ret q => exact hQ (.ret q) (List.mem_append_right _ (others_mem (by rw [List.mem_map]; exact ⟨_, ho, rfl⟩) (by simp))) a w h
      · cases hm
    · cases hm
  | loop x iha =>
    intro l0 l hm Q p outs hd hQ a w hg
    simp only [rlC] at hm
    split at hm
    · split at hm
      · rename_i x' h1
        simp only [Option.some.injEq] at hm
        subst hm
        simp only [cw] at hd
        refine wp_loop_ghost (fun n a w => ∃ q zs, loopD fx n0 (cw call mvf fx n0 x') n q = some zs ∧ (∀ z ∈ zs, z ∈ outs) ∧ GoodT ρ0 X w0 fx N q a w) 3000 ⟨p, outs, hd, fun _ h => h, hg⟩ ?_
        rintro n a' w' ⟨q, zs, h2, h3, hgq⟩
        cases n with
        | zero => simp [loopD] at h2
        | succ n =>
          simp only [loopD, andD] at h2
          split at h2
          rotate_left
          · cases h2
          rename_i qg hqg
          have hgq' := gcD_ok hfn hqg hgq
          obtain ⟨os, h4, h5⟩ := bindL_ok h2
          refine iha _ _ h1 _ qg os h4 (fun o ho a w h => ?_) a' w' hgq'
          obtain ⟨ys, h6, h7⟩ := h5 o ho
          cases o with
          | normal q' => exact ⟨n, Nat.lt_succ_self n, q', ys, h6, fun z hz => h3 z (h7 z hz), h⟩
          | exit j q' =>
            simp only [Option.some.injEq] at h6
            subst h6
            exact hQ _ (h3 _ (h7 _ (by simp))) a w h
          | ret q' =>
            simp only [Option.some.injEq] at h6
            subst h6
            exact hQ _ (h3 _ (h7 _ (by simp))) a w h
      · cases hm
    · cases hm
  | _ => intro l0 l hm; simp [rlC] at hm

theorem resD_ok {p : Pt} {e : Env} (he : ∀ i, get e i = p.1.get i) {K : List V → Prop} : ∀ (ls : List LRes) (acc xs : List V), resD p ls = some xs → K (acc.reverse ++ xs) → resP p.2 e ls acc K
  | [], acc, xs, h, hK => by
    simp only [resD, Option.some.injEq] at h
    subst h
    simpa [resP] using hK
  | .tmp t :: r, acc, xs, h, hK => by
    simp only [resD] at h
    split at h
    · rename_i ys hy
      simp only [Option.some.injEq] at h
      subst h
      simp only [resP, he]
      exact resD_ok he r _ ys hy (by simpa using hK)
    · cases h
  | .cell a n :: r, acc, xs, h, hK => by
    simp only [resD] at h
    split at h
    · rename_i x ys hx hy
      simp only [Option.some.injEq] at h
      subst h
      simp only [resP, he]
      exact load_ok (K := fun x => resP p.2 e r (x :: acc) K) hx (resD_ok he r _ ys hy (by simpa using hK))
    · cases h

theorem argsT_get : ∀ (i : Nat) (xs : List V) (E : Tr) (j : Nat), (argsT i xs E).get j = if i ≤ j ∧ j < i + xs.length then (xs[j - i]?).getD .any else E.get j
  | i, [], E, j => by
    simp only [argsT, List.length_nil, Nat.add_zero]
    rw [if_neg (by omega)]
  | i, x :: r, E, j => by
    simp only [argsT]
    rw [argsT_get (i + 1) r]
    simp only [putT, forceV_eq, List.length_cons]
    rw [Tr.get_put _ _ _ _ _ (Nat.lt_succ_self i)]
    by_cases h : j = i
    · subst h
      rw [if_neg (by omega), if_pos rfl, if_pos (by omega)]
      simp
    · by_cases h2 : i + 1 ≤ j ∧ j < i + 1 + r.length
      · rw [if_pos h2, if_pos (by omega), show j - i = (j - (i + 1)) + 1 by omega]
        simp
      · rw [if_neg h2, if_neg h, if_neg (by omega)]

theorem args_get (xs : List V) (j : Nat) : get (args0 0 xs) j = (argsT 0 xs .lf).get j := by
  rw [args0_get, argsT_get]
  simp only [Nat.zero_le, if_true, Nat.sub_zero, Nat.zero_add, true_and]
  split
  · rfl
  · rename_i h
    have : xs[j]? = none := by simpa using h
    rw [this]
    rfl

/-- FROM A RUN TO A CONTRACT. -/
theorem body_ok (hP : P.follows .mixedOrders = true) {call : CallD} {mvf : FuncId → Bool} (hcall : ∀ f zas h0 mv r h', call f zas h0 mv = some (r, h') → Callable P f ∧ Fn P f zas h0 mv (fun r1 h1 => r1 = r ∧ h1 = h'))
    {f : FuncId} {en : Ent} (hl : rlF P f en.code = some (en.code, en.rs, en.nt)) {args : List V} {h0 : List Blk} {mv : List Nat} {r : V} {h' : List Blk}
    (hd : bodyD call mvf en args h0 mv ((List.range h0.length).filter fun k => !(hasN mv k)) = some (r, h')) : Fn P f args h0 mv (fun r1 h1 => r1 = r ∧ h1 = h') := by
  generalize hfxd : ((List.range h0.length).filter fun k => !(hasN mv k)) = fx at hd
  unfold bodyD at hd
  split at hd
  · rename_i hc
    simp only [Bool.and_eq_true, decide_eq_true_eq] at hc
    split at hd
    · rename_i outs hcw
      unfold rlF at hl
      split at hl
      · rename_i fn hf
        split at hl
        · rename_i c rs' hb hres ht
          simp only [Bool.and_eq_true, Bool.not_eq_true', decide_eq_true_eq] at ht
          cases hm : rlC P fn.ntmps c en.code with
          | none => simp [hm] at hl
          | some l1 =>
            simp only [hm, Option.map_some, Option.some.injEq, Prod.mk.injEq] at hl
            obtain ⟨rfl, hrs, hnt⟩ := hl
            have hfx : keepP fx h0 := keep_of hc.2
            have hmv : ∀ k, k < h0.length → k ∉ mv → k ∈ fx := by
              intro k hk hkm
              rw [← hfxd, List.mem_filter]
              refine ⟨by simpa using hk, ?_⟩
              cases hh : hasN mv k with
              | true => exact absurd (hasN_iff.1 hh) hkm
              | false => rfl
            intro ρ X w vals hr ha
            have hvl := RepL_len ha
            refine calls_of_wp hf hb ?_
            have hg : GoodT ρ X w fx fn.ntmps (argsT 0 args .lf, h0) { tmps := vals.toArray ++ Array.replicate (fn.ntmps - vals.toArray.size) undef, defers := [] } w :=
              ⟨args0 0 args, 0, args_get args, ρ, ⟨⟨Fr.refl _ _, fun _ _ => rfl⟩, hfx⟩, ⟨hr, args0_rep ha _⟩, by simp; omega, rfl⟩
            have hend : ∀ p a w', finD fx h0.length en.rs p = some (r, h') → GoodT ρ X w fx fn.ntmps p a w' → a.defers = [] ∧ ∃ v, (results fn a.tmps).run P w' = .ok v w' ∧ ∃ val r1 h1 ρ', Ending.returned v = .returned val ∧ ((r1 = r ∧ h1 = h') ∧ h0.length ≤ h1.length) ∧ Fr ρ w ρ' w' ∧ Rep ρ' X w' h1 ∧ RepV ρ' X w' r1 val ∧
                ∀ k, k < h0.length → k ∉ mv → ρ' k = ρ k := by
              rintro p a w' hfin ⟨e, b, he, ρ', ⟨⟨hf1, hfx1⟩, hk1⟩, ⟨hr1, he1⟩, hN1, hd1⟩
              unfold finD at hfin
              split at hfin
              · cases hfin
              · rename_i xs hxs
                generalize hL : keepN h0.length p.2 (namesL xs) = L at hfin
                simp only at hfin
                split at hfin
                · rename_i hcc
                  simp only [Bool.and_eq_true] at hcc
                  simp only [Option.some.injEq, Prod.mk.injEq] at hfin
                  obtain ⟨rfl, rfl⟩ := hfin
                  obtain ⟨hn, hlt, hle⟩ := numB_ok hcc.1
                  obtain ⟨ys, vs, h5, h6, h7⟩ := resP_run hr1 he1 (K := fun ys => ys = xs) fn.results.toList rs' [] [] hres trivial (by rw [hrs]; exact resD_ok he _ [] xs hxs rfl)
                  simp only [List.reverse_nil, List.nil_append] at h5
                  subst h5
                  refine ⟨hd1, tupU vs, results_run ht.1 h7, _, _, _, calleeLoc ρ' L, rfl, ⟨⟨rfl, rfl⟩, ?_⟩, hf1.trans gc_fr, gc_rep hr1 hn hlt, gc_val (tup_rep h6), fun k hk hkm => ?_⟩
                  · rw [List.length_map, ← hL]
                    simp [keepN]
                  · rw [callee_at (by rw [← hL]; exact keepN_get hk)]
                    exact hfx1 k (hmv k hk hkm)
                · cases hfin
            have hone : ∀ o ∈ outs, (∃ p, o = .normal p ∨ o = .ret p) ∧ finD fx h0.length en.rs o.pt = some (r, h') := by
              intro o ho
              unfold endD at hd
              split at hd
              · simp only [List.mem_singleton] at ho; subst ho; exact ⟨⟨_, .inl rfl⟩, hd⟩
              · simp only [List.mem_singleton] at ho; subst ho; exact ⟨⟨_, .inr rfl⟩, hd⟩
              · cases hd
            refine cw_sound (P := P) (ρ0 := ρ) (X := X) (w0 := w) (fx := fx) (N := fn.ntmps) hP (n0 := h0.length) (fun k hk => by rw [← hfxd, List.mem_filter] at hk; simpa using hk.1) hcall c _ _ hm _ _ outs hcw (fun o ho a w' hgd => ?_) _ _ hg
            obtain ⟨⟨p, hp⟩, hfin⟩ := hone o ho
            rcases hp with rfl | rfl
            · exact hend p a w' hfin hgd
            · exact hend p a w' hfin hgd
        · cases hl
      · cases hl
    · cases hd
  · cases hd

theorem findM_ok {f : FuncId} {zas : List V} {h0 : List Blk} {r : V} {h : List Blk} : ∀ {M : List Memo}, findM f zas h0 M = some (r, h) → ∃ m ∈ M, m.f = f ∧ m.zas = zas ∧ m.h0 = h0 ∧ m.r = r ∧ m.h = h
  | [], hf => by simp [findM] at hf
  | m :: l, hf => by
    simp only [findM] at hf
    split at hf
    · rename_i hc
      simp only [Bool.and_eq_true, Nat.beq_eq] at hc
      simp only [Option.some.injEq, Prod.mk.injEq] at hf
      exact ⟨m, by simp, hc.1, eqL_ok hc.2.1, eqBs_ok hc.2.2, hf.1, hf.2⟩
    · obtain ⟨m', h1, h2⟩ := findM_ok hf
      exact ⟨m', by simp [h1], h2⟩

/-- The table is the program's. -/
def okL (P : Program) : Nat → List (Option Ent) → Prop
  | _, [] => True
  | i, none :: r => okL P (i + 1) r
  | i, some en :: r => rlF P i en.code = some (en.code, en.rs, en.nt) ∧ okL P (i + 1) r
theorem okL_get : ∀ {T : List (Option Ent)} {i : Nat}, okL P i T → ∀ (f : Nat) (en : Ent), T[f]? = some (some en) → rlF P (i + f) en.code = some (en.code, en.rs, en.nt)
  | none :: r, i, h, 0, en, he => by simp at he
  | some e :: r, i, h, 0, en, he => by
    simp only [List.getElem?_cons_zero, Option.some.injEq] at he
    subst he
    exact h.1
  | none :: r, i, h, f + 1, en, he => by
    have := okL_get (i := i + 1) h f en (by simpa using he)
    rwa [show i + (f + 1) = i + 1 + f by omega]
  | some e :: r, i, h, f + 1, en, he => by
    have := okL_get (i := i + 1) h.2 f en (by simpa using he)
    rwa [show i + (f + 1) = i + 1 + f by omega]
  | [], _, _, _, _, he => by simp at he

/-- A memo is true. -/
def Memo.ok (P : Program) (m : Memo) : Prop := Callable P m.f ∧ Fn P m.f m.zas m.h0 [] (fun r h => r = m.r ∧ h = m.h)

theorem fnD_ok (hP : P.follows .mixedOrders = true) {T : List (Option Ent)} (hT : okL P 0 T) {M : List Memo} (hM : ∀ m ∈ M, m.ok P) : ∀ (d : Nat) (f : FuncId) (zas : List V) (h0 : List Blk) (mv : List Nat) (r : V) (h' : List Blk),
    fnD T M d f zas h0 mv = some (r, h') → Callable P f ∧ Fn P f zas h0 mv (fun r1 h1 => r1 = r ∧ h1 = h')
  | 0, _, _, _, _, _, _, h => by simp [fnD] at h
  | d + 1, f, zas, h0, mv, r, h', h => by
    simp only [fnD] at h
    split at h
    · rename_i x hx
      simp only [Option.some.injEq] at h
      subst h
      split at hx
      · rename_i hmv
        have hmv' : mv = [] := by simpa using hmv
        subst hmv'
        obtain ⟨m, h1, rfl, rfl, rfl, rfl, rfl⟩ := findM_ok hx
        exact hM m h1
      · cases hx
    · split at h
      · rename_i en hen
        have hl := okL_get hT f en hen
        rw [Nat.zero_add] at hl
        exact ⟨rlF_callable hl, body_ok hP (fun f zas h0 mv r h' h => fnD_ok hP hT hM d f zas h0 mv r h' h) hl h⟩
      · cases h
end
end Go.Fx
