import Derived.Test.YtcchjpjkhaomeaaFxTree
import Derived.OrdersIn
import Derived.TacticsIn
import Derived.Sort.LoopGhostIn
import Derived.Test.YtcchjpjkhaomeaaFxFrz
import Derived.OpenShut
import Derived.ChangeOld
import Derived.Below
import Derived.ProofKit
import Derived.JoinedCond
set_option linter.unusedVariables false
set_option linter.unusedSimpArgs false
set_option linter.unusedSectionVars false
open Option.some renaming injEq → yA
open Bool renaming and_eq_true → yB, not_eq_true' → yQ, or_eq_true → vE, false_eq_true → vG, eq_iff_iff → vH
open Nat renaming beq → yC, le_refl → yF, blt → yN, beq_eq → yR, lt_or_ge → yT, lt_of_lt_of_le → yU
open List renaming getElem?_eq_some_iff → yD, mem_cons_of_mem → yE, mem_cons_self → yG, all_eq_true → yH, getElem?_set_ne → yI, replicate → yJ, getElem?_cons_zero → yK, getElem?_append_left → yM, mem_cons → yP, getElem?_set_self → yS, nodup_cons → yV, length_eq_one_iff → yY, range → yZ, mem_of_getElem? → vA, map_cons → vB, getElem?_eq_none → vC, contains_iff_mem → vF, getElem?_append_right → vJ, getElem?_eq_getElem → vK, mem_append_left → vM, mem_append_right → vN
open BitVec renaming ofInt → yL
open Array renaming replicate → yO, getD_eq_getD_getElem? → yX, getElem?_eq_some_iff → vD, getElem?_eq_none → vL
open List.cons renaming injEq → yW
open Option renaming bind_eq_some_iff → vI
open Int renaming ofNat_eq_natCast → vO
namespace Go.Fx
open Go.RowKit
def rlY (P : Program) (op : Op) (l0 : LOp) : Option LOp :=
 match l0 with
 | .yld _ _ => match op with
  | .call c => match c.callee with
   | .value f => some (.yld f c.args.toList)
   | _ => none
  | _ => none
 | l0 => match rl P op l0 with
  | some (.yld _ _) => none
  | r => r
def rlOsY (P : Program) (ops : Array Oper) (N : Nat) : List Oper → List LOper → Option (List LOper)
 | [], [] => some []
 | o :: os, l :: ls => match rlY P o.op l.op, gOk ops N o.guard, dOk N o.dst, rlOsY P ops N os ls with
  | some op, some g, true, some r => some (⟨o.dst, op, g⟩ :: r)
  | _, _, _, _ => none
 | _, _ => none
def notDefer (o : Oper) : Bool := match o.op with
 | .defer _ => false
 | _ => true
def codeRd : Code → Bool
 | .region _ ops _ => ops.toList.all notDefer
 | .seq a b => codeRd a && codeRd b
 | .cond _ a b => codeRd a && codeRd b
 | .block _ a => codeRd a
 | .loop a => codeRd a
 | .rangeFunc _ _ a b => codeRd a && codeRd b
 | .skip | .label _ | .ret | .exit _ => true
 | _ => false
def inRd : LCode → Bool
 | .skip | .reg _ _ | .tree _ _ | .exit _ | .ret | .bad => true
 | .tail _ _ _ | .qui _ _ | .yreg _ _ _ | .ytree _ _ _ _ => false
 | .seq a b => inRd a && inRd b
 | .cond _ a b => inRd a && inRd b
 | .block _ a => inRd a
 | .loop a => inRd a
 | .frz _ a => inRd a
 | .rfn _ _ a b => inRd a && inRd b
def rlPT (P : Program) (N : Nat) (ops : Array Oper) (rs : Nat → Bool) (m : Nat) : LPlan → Array Bool → Nat → Option (List Nat) → Option LPlan
 | .done, listed, fuel, none => if fuel = 0 ∧ m < ops.size ∧ Region.seqB .any ops (ops.size - m) m listed = true then some .done else none
 | .take i D l p, listed, fuel + 1, none => match ops[i]? with
  | some o => match rl P o.op l.op, gOk ops N o.guard, dOk N o.dst, rlPT P N ops rs m p (listed.setIfInBounds i true) fuel none with
   | some op, some g, true, some p' => if takeOk ops rs listed i D op && D.contains m then some (.take i D ⟨o.dst, op, g⟩ p') else none
   | _, _, _, _ => none
  | none => none
 | .alt i l r p q, listed, fuel + 1, rem => match rem.getD (Region.ready .any ops listed), ops[i]? with
  | j :: js, some o => match rl P o.op l.op, gOk ops N o.guard, dOk N o.dst, rlPT P N ops rs m p (listed.setIfInBounds i true) fuel none, rlPT P N ops rs m q listed (fuel + 1) (some js) with
   | some op, some g, true, some p', some q' => if j = i ∧ r = rs i then some (.alt i ⟨o.dst, op, g⟩ r p' q') else none
   | _, _, _, _, _ => none
  | _, _ => none
 | .none, _, _, some [] => some .none
 | _, _, _, _ => none
def rlTY (P : Program) (N : Nat) (ops : Array Oper) (p : LPlan) (m : Nat) : Option LPlan :=
 if Region.noSelect ops then rlPT P N ops (fun j => !(rsOf p).contains j) m p (yO ops.size false) m none else none
def rlC (P : Program) (N : Nat) : Code → LCode → Option LCode
 | .skip, _ => some .skip
 | .label _, _ => some .skip
 | .scope c, l => rlC P N c l
 | .ret, _ => some .ret
 | .exit i, _ => some (.exit i)
 | .region _ ops draw, l => match l with
  | .reg n ls => match draw, rlOs P ops N ops.toList ls with
   | false, some r => some (.reg n r)
   | _, _ => none
  | .qui n ls => match draw, rlOs P ops N ops.toList ls with
   | true, some r => if (r.all fun l => quietOp l.op) && Region.lexB .any ops then some (.qui n r) else none
   | _, _ => none
  | .tail m n ls => match draw, rlOs P ops N ops.toList ls with
   | true, some r => if ((r.take m).all fun l => quietOp l.op) && Region.lexTailB .any ops m then some (.tail m n r) else none
   | _, _ => none
  | .tree n p => match draw, rlT P N ops p with
   | true, some r => some (.tree n r)
   | _, _ => none
  | .yreg m n ls => match rlOsY P ops N ops.toList ls with
   | some r => if !draw || ((r.take m).all fun l => quietOp l.op) && Region.lexTailB .any ops m then some (.yreg (if draw then m else 0) n r) else none
   | _ => none
  | .ytree n p m ls => match draw, rlTY P N ops p m, rlOsY P ops N (ops.toList.drop m) ls with
   | true, some p', some r => if m < ops.size then some (.ytree n p' m r) else none
   | _, _, _ => none
  | .bad => some .bad
  | _ => none
 | .seq a b, l => match l with
  | .seq x y => match rlC P N a x, rlC P N b y with
   | some x', some y' => some (.seq x' y')
   | _, _ => none
  | .frz xs (.seq x y) => match rlC P N a x, rlC P N b y with
   | some x', some y' => some (.frz xs (.seq x' y'))
   | _, _ => none
  | .bad => some .bad
  | _ => none
 | .cond c a b, l => match l with
  | .cond _ x y => match rlC P N a x, rlC P N b y with
   | some x', some y' => some (.cond c x' y')
   | _, _ => none
  | _ => none
 | .block i a, l => match l with
  | .block _ x => match rlC P N a x with
   | some x' => some (.block i x')
   | none => none
  | _ => none
 | .loop a, l => match l with
  | .loop x => match rlC P N a x with
   | some x' => some (.loop x')
   | none => none
  | _ => none
 | .rangeFunc g ps asg body, l => match l with
  | .rfn _ _ x y => match rlC P N asg x, rlC P N body y with
   | some x', some y' => if (ps.toList.all fun p => decide (p < N)) && (codeRd asg && codeRd body) && (inRd x' && inRd y') then some (.rfn g ps.toList x' y') else none
   | _, _ => none
  | _ => none
 | _, _ => none
section
variable {P : Program} {ρ0 : Nat → Loc} {X : Nat → Prop} {w0 : World} {fx : List Nat} {N : Nat}
theorem le_get : ∀ {p : Env} {e : Env}, leE e p → ∀ i, get p i = .any ∨ get p i = get e i
 | [], _, _, _ => .inl rfl
 | (j, x) :: r, e, h, i => by
  simp only [get]
  split
  ·rename_i hi
   subst hi
   exact .inr h.1.symm
  ·exact le_get h.2 i
theorem leH_get : ∀ {h p : List Blk}, leH h p → ∀ (k : Nat) (B : Blk), p[k]? = some B → ∃ A, h[k]? = some A ∧ leB A B
 | _, [], _, k, B, hB => by simp at hB
 | a :: h, c :: p, hl, 0, B, hB => by
  simp only [yK, yA] at hB
  subst hB
  exact ⟨a, rfl, hl.1⟩
 | a :: h, c :: p, hl, k + 1, B, hB => by
  obtain ⟨A, h1, h2⟩ := leH_get (h := h) (p := p) hl.2 k B (by simpa using hB)
  exact ⟨A, by simpa using h1, h2⟩
 | [], _ :: _, hl, _, _, _ => hl.elim
theorem leVs_rep {ρ : Nat → Loc} {w : World} : ∀ {xs ys : List V} {vs : List Value}, leVs xs ys → RepL ρ X w xs vs → RepL ρ X w ys vs
 | [], [], _, _, h => h
 | x :: xs, y :: ys, u :: us, hl, h => by
  refine ⟨?_, leVs_rep hl.2 h.2⟩
  have h1 := hl.1
  unfold leV at h1
  split at h1
  ·trivial
  ·subst h1; exact h.1
 | _ :: _, _ :: _, [], _, h => h.elim
 | [], _ :: _, _, hl, _ => hl.elim
 | _ :: _, [], _, hl, _ => hl.elim
def dropLoc (ρ : Nat → Loc) (p : List Blk) (k : Nat) : Loc :=
 match p[k]? with
 | some .dead => { ρ k with real := false }
 | some _ => ρ k
 | none => { ρ k with real := false }
theorem dropLoc_own {ρ : Nat → Loc} {p : List Blk} {b : Nat} (h : Own (dropLoc ρ p) b) : Own ρ b := by
 obtain ⟨k, h1, h2⟩ := h
 unfold dropLoc at h1 h2
 split at h1
 ·cases h1
 ·exact ⟨k, h1, by simp_all⟩
 ·cases h1
theorem live_loc {ρ : Nat → Loc} {p : List Blk} {k : Nat} (h : liveP p k) : dropLoc ρ p k = ρ k := by
 unfold liveP at h
 unfold dropLoc
 cases hb : p[k]? with
 | none => rw [hb] at h; exact h.elim
 | some B => rw [hb] at h; cases B <;> first | rfl | exact h.elim
theorem drop_sta {ρ : Nat → Loc} {w : World} {p : List Blk} : ∀ b, Sta ρ X w b → Sta (dropLoc ρ p) X w b ∧ w.heap[b]? = w.heap[b]? :=
 fun _ h => ⟨⟨h.1, fun ho => h.2.1 (dropLoc_own ho), h.2.2⟩, rfl⟩
theorem drop_len {ρ : Nat → Loc} {w : World} {p : List Blk} {b : Nat} (h : Len ρ w b) : Len (dropLoc ρ p) w b := ⟨h.1, fun ho => h.2 (dropLoc_own ho)⟩
mutual
theorem drop_rep {ρ : Nat → Loc} {w : World} {p : List Blk} : ∀ (x : V) (val : Value), wfV p x → RepV ρ X w x val → RepV (dropLoc ρ p) X w x val
 | .any, _, _, _ => trivial
 | .v _, _, _, hx => hx
 | .ro sz els, val, _, hx => RepD_mono drop_sta (.ro sz els) val hx
 | .bro sz els, val, _, hx => by
  obtain ⟨a, len, cap, h1, h2, h3, h4, h5⟩ := hx
  refine ⟨a, len, cap, h1, h2, h3, h4, h5.imp id ?_⟩
  rintro ⟨b, off, h6, h7, h8⟩
  exact ⟨b, off, h6, drop_len h7, RepEls_mono drop_sta sz b rfl off els h8⟩
 | .full sz els, val, _, hx => by
  obtain ⟨a, len, h1, h2, h4, h5⟩ := hx
  refine ⟨a, len, h1, h2, h4, h5.imp id ?_⟩
  rintro ⟨b, off, h6, h7, h8⟩
  exact ⟨b, off, h6, drop_len h7, RepEls_mono drop_sta sz b rfl off els h8⟩
 | .rp sz els i f, val, _, hx => by
  obtain ⟨b, off, h6, h7, h8⟩ := hx
  exact ⟨b, off, h6, drop_len h7, RepEls_mono drop_sta sz b rfl off els h8⟩
 | .sl k i n, val, hw, hx => by
  obtain ⟨cap, h1, h2, h3⟩ := hx
  refine ⟨cap, h1, h2, ?_⟩
  rw [live_loc hw]
  exact h3
 | .ptr k i f, val, hw, hx => by
  simp only [RepV]
  rw [live_loc hw]
  exact hx
 | .agg cs, val, hw, hx => by
  obtain ⟨arr, h1, h2⟩ := hx
  exact ⟨arr, h1, drops_rep cs _ hw h2⟩
 | .tup cs, val, hw, hx => by
  obtain ⟨arr, h1, h2⟩ := hx
  exact ⟨arr, h1, drops_rep cs _ hw h2⟩
 | .clo f cs, val, hw, hx => by
  obtain ⟨arr, h1, h2⟩ := hx
  exact ⟨arr, h1, drops_rep cs _ hw h2⟩
 | .mp k, val, hw, hx => by
  simp only [RepV]
  rw [live_loc hw]
  exact hx
 | .itr k, val, hw, hx => by
  simp only [RepV]
  rw [live_loc hw]
  exact hx
theorem drops_rep {ρ : Nat → Loc} {w : World} {p : List Blk} : ∀ (xs : List V) (vs : List Value), wfL p xs → RepL ρ X w xs vs → RepL (dropLoc ρ p) X w xs vs
 | [], [], _, _ => trivial
 | x :: r, u :: us, hw, hx => ⟨drop_rep x u hw.1 hx.1, drops_rep r us hw.2 hx.2⟩
 | [], _ :: _, _, hx => hx.elim
 | _ :: _, [], _, hx => hx.elim
end
theorem wfE_get {h : List Blk} : ∀ {e : Env}, wfE h e → ∀ i, wfV h (get e i)
 | [], _, _ => trivial
 | (j, x) :: r, hw, i => by
  simp only [get]
  split
  ·exact hw.1
  ·exact wfE_get hw.2 i
theorem wfB_get {h : List Blk} : ∀ {l : List Blk}, wfB h l → ∀ (k : Nat) (cs : List V), l[k]? = some (Blk.var cs) → wfL h cs
 | b :: r, hw, 0, cs, hk => by
  simp only [yK, yA] at hk
  subst hk
  exact hw.1
 | b :: r, hw, k + 1, cs, hk => by
  have : wfB h r := by cases b <;> first | exact hw | exact hw.2
  exact wfB_get this k cs (by simpa using hk)
 | [], _, _, _, hk => by simp at hk
theorem wfL_mem {h : List Blk} : ∀ {xs : List V}, wfL h xs → ∀ {x : V}, x ∈ xs → wfV h x
 | y :: r, hw, x, hx => by
  rcases yP.1 hx with rfl | hx
  ·exact hw.1
  ·exact wfL_mem hw.2 hx
 | [], _, _, hx => by simp at hx
theorem wfB_tail {h : List Blk} {b : Blk} {r : List Blk} (hw : wfB h (b :: r)) : wfB h r := by cases b <;> first | exact hw | exact hw.2
theorem wfB_arv {h : List Blk} : ∀ {l : List Blk}, wfB h l → ∀ (k : Nat) (sz : Nat) (els : List (List V)), l[k]? = some (Blk.arv sz els) → wfL h els.flatten
 | b :: r, hw, 0, sz, els, hk => by
  simp only [yK, yA] at hk
  subst hk
  exact hw.1
 | b :: r, hw, k + 1, sz, els, hk => wfB_arv (wfB_tail hw) k sz els (by simpa using hk)
 | [], _, _, _, _, hk => by simp at hk
theorem wfB_map {h : List Blk} : ∀ {l : List Blk}, wfB h l → ∀ (k : Nat) (es : List (Value × V × Nat)) (c : Nat), l[k]? = some (Blk.map es c) → wfL h (es.map (·.2.1))
 | b :: r, hw, 0, sz, els, hk => by
  simp only [yK, yA] at hk
  subst hk
  exact hw.1
 | b :: r, hw, k + 1, sz, els, hk => wfB_map (wfB_tail hw) k sz els (by simpa using hk)
 | [], _, _, _, _, hk => by simp at hk
theorem wfB_it {h : List Blk} : ∀ {l : List Blk}, wfB h l → ∀ (k : Nat) (m : V) (s : Nat) (sn : List Nat) (c : Nat), l[k]? = some (Blk.it m s sn c) → wfV h m
 | b :: r, hw, 0, m, s, sn, c, hk => by
  simp only [yK, yA] at hk
  subst hk
  exact hw.1
 | b :: r, hw, k + 1, m, s, sn, c, hk => wfB_it (wfB_tail hw) k m s sn c (by simpa using hk)
 | [], _, _, _, _, _, _, hk => by simp at hk
theorem wfB_rcd {h : List Blk} : ∀ {l : List Blk}, wfB h l → ∀ (k : Nat) (t : RS) (e : Env), l[k]? = some (Blk.rcd t e) → wfE h e
 | b :: r, hw, 0, t, e, hk => by
  simp only [yK, yA] at hk
  subst hk
  exact hw.1
 | b :: r, hw, k + 1, t, e, hk => wfB_rcd (wfB_tail hw) k t e (by simpa using hk)
 | [], _, _, _, _, hk => by simp at hk
theorem drop_fr {ρ : Nat → Loc} {w : World} {p : List Blk} : Fr ρ w (dropLoc ρ p) w := ⟨rfl, rfl, rfl, yF _, fun _ _ ho => ⟨rfl, fun h => ho (dropLoc_own h)⟩⟩
theorem dropRep {ρ : Nat → Loc} {w : World} {h p : List Blk} (hr : Rep ρ X w h) (hl : leH h p) (hw : wfB p p) : Rep (dropLoc ρ p) X w p := by
 have hreal : ∀ k, (dropLoc ρ p k).real = true → liveP p k := by
  intro k hk
  unfold dropLoc at hk
  unfold liveP
  cases hb : p[k]? with
  | none => rw [hb] at hk; cases hk
  | some B => rw [hb] at hk; cases B <;> first | trivial | cases hk
 refine ⟨?_, ?_, ?_, ?_, ?_, hr.xlt⟩
 ·intro i j hij hi hj
  have h1 := hreal i hi
  have h2 := hreal j hj
  rw [live_loc h1] at hi ⊢
  rw [live_loc h2] at hj ⊢
  exact hr.inj i j hij hi hj
 ·intro k hk
  have : p[k]? = none := by simpa using hk
  simp [dropLoc, this]
 ·intro k B hB
  obtain ⟨A, hA, hAB⟩ := leH_get hl k B hB
  have hrA := hr.blk k A hA
  cases B with
  | dead => simp [RepB, dropLoc, hB]
  | arr sz els =>
   have hAB' : A = .arr sz els := hAB
   subst hAB'
   have hlive : liveP p k := by simp [liveP, hB]
   simp only [RepB] at hrA ⊢
   rw [live_loc hlive]
   refine ⟨hrA.1, hrA.2.imp id ?_⟩
   rintro ⟨h1, c, T, h2, h3, h4, h5⟩
   exact ⟨h1, c, T, h2, h3, h4, RepEls_mono drop_sta sz _ rfl _ _ h5⟩
  | var ys =>
   cases A with
   | var xs =>
    have hlive : liveP p k := by simp [liveP, hB]
    simp only [RepB] at hrA ⊢
    rw [live_loc hlive]
    obtain ⟨h1, c, T, h2, h3⟩ := hrA
    exact ⟨h1, c, T, h2, drops_rep _ _ (wfB_get hw k ys hB) (leVs_rep hAB h3.1), h3.2⟩
   | _ => exact hAB.elim
  | arv sz els =>
   have hAB' : A = .arv sz els := hAB
   subst hAB'
   have hlive : liveP p k := by simp [liveP, hB]
   simp only [RepB] at hrA ⊢
   rw [live_loc hlive]
   obtain ⟨h0, h1, c, T, h2, h3, h4, h5⟩ := hrA
   refine ⟨h0, h1, c, T, h2, h3, h4, fun i e he => ⟨(h5 i e he).1, fun f x hx => ?_⟩⟩
   obtain ⟨u, h6, h7⟩ := (h5 i e he).2 f x hx
   exact ⟨u, h6, drop_rep _ _ (wfL_mem (wfB_arv hw k sz els hB) (List.mem_flatten.2 ⟨e, vA he, vA hx⟩)) h7⟩
  | map es cl =>
   have hAB' : A = .map es cl := hAB
   subst hAB'
   have hlive : liveP p k := by simp [liveP, hB]
   simp only [RepB] at hrA ⊢
   rw [live_loc hlive]
   obtain ⟨h1, arr, h2, h3, h4⟩ := hrA
   exact ⟨h1, arr, h2, h3, drops_rep _ _ (wfB_map hw k es cl hB) h4⟩
  | it m s sn l =>
   have hAB' : A = .it m s sn l := hAB
   subst hAB'
   have hlive : liveP p k := by simp [liveP, hB]
   simp only [RepB] at hrA ⊢
   rw [live_loc hlive]
   obtain ⟨h1, x, h2, h3⟩ := hrA
   exact ⟨h1, x, h2, drop_rep _ _ (wfB_it hw k m s sn l hB) h3⟩
  | rcd t p' =>
   cases A with
   | rcd t' e =>
    obtain ⟨rfl, hle⟩ : t' = t ∧ (e = p' ∨ leE e p') := hAB
    have hlive : liveP p k := by simp [liveP, hB]
    simp only [RepB] at hrA ⊢
    rw [live_loc hlive]
    refine ⟨hrA.1, fun i => ?_⟩
    have hwf := wfE_get (wfB_rcd hw k t' p' hB) i
    rcases hle with rfl | hle
    ·exact drop_rep _ _ hwf (hrA.2 i)
    rcases le_get hle i with hg | hg
    ·rw [hg]; trivial
    ·exact drop_rep _ _ hwf (by rw [hg]; exact hrA.2 i)
   | _ => exact hAB.elim
 ·rintro b ho hx
  exact hr.disj b (dropLoc_own ho) hx
 ·intro k hk
  have hl' := hreal k hk
  rw [live_loc hl'] at hk ⊢
  exact hr.lt k hk
theorem Good.le {s p : St} {a : Act} {w : World} (h : Good ρ0 X w0 fx N s a w) (hl : leS fx s p) : Good ρ0 X w0 fx N p a w := by
 obtain ⟨ρ, ⟨⟨hf, h1⟩, hk⟩, ⟨hr, he⟩, h5, h5m⟩ := h
 obtain ⟨l1, l2, l3, l4, l5⟩ := hl
 refine ⟨dropLoc ρ p.h, ⟨⟨hf.trans drop_fr, fun k hk' => by rw [live_loc (keepP_get l3 k hk')]; exact h1 k hk'⟩, l3⟩, ⟨dropRep hr l2 l5, fun i => ?_⟩, h5, h5m.fr drop_fr⟩
 have hwf := wfE_get l4 i
 rcases le_get l1 i with hg | hg
 ·rw [hg]; trivial
 ·exact drop_rep _ _ hwf (by rw [hg]; exact he i)
theorem leVs_refl : ∀ xs : List V, leVs xs xs
 | [] => trivial
 | x :: xs => ⟨by unfold leV; split <;> trivial, leVs_refl xs⟩
theorem leB_refl (b : Blk) : leB b b := by
 cases b with
 | dead => trivial
 | var xs => exact leVs_refl xs
 | rcd t e => exact ⟨rfl, .inl rfl⟩
 | _ => rfl
theorem leH_refl : ∀ h : List Blk, leH h h
 | [] => trivial
 | b :: h => ⟨leB_refl b, leH_refl h⟩
theorem leH_dead : ∀ (h : List Blk) (n : Nat) (B : Blk), leH (h.set n B) (h.set n .dead)
 | [], _, _ => trivial
 | b :: h, 0, B => ⟨trivial, leH_refl h⟩
 | b :: h, n + 1, B => ⟨leB_refl b, leH_dead h n B⟩
theorem Good.leH {s : St} {p : List Blk} {a : Act} {w : World} (h : Good ρ0 X w0 fx N s a w) (l2 : leH s.h p) (l3 : keepP fx p) (l4 : wfE p s.e) (l5 : wfB p p) : Good ρ0 X w0 fx N { s with h := p } a w := by
 obtain ⟨ρ, ⟨⟨hf, h1⟩, hk⟩, ⟨hr, he⟩, h5, h5m⟩ := h
 exact ⟨dropLoc ρ p, ⟨⟨hf.trans drop_fr, fun k hk' => by rw [live_loc (keepP_get l3 k hk')]; exact h1 k hk'⟩, l3⟩, ⟨dropRep hr l2 l5, fun i => drop_rep _ _ (wfE_get l4 i) (he i)⟩, h5, h5m.fr drop_fr⟩
theorem Good.give {s : St} {M : Nat → Bool} {a : Act} {w : World} (h : Good ρ0 X w0 fx N s a w) (hM : ∀ k ∈ fx, M k = false) : Good ρ0 X w0 fx N (s.give M) a w := by
 obtain ⟨ρ, ⟨⟨g1, g2⟩, g3⟩, ⟨g4, g5⟩, g6⟩ := h
 exact ⟨gvLoc ρ M, ⟨⟨g1.trans gv_fr, fun j hj => by rw [gv_ne (by rw [hM j hj]; simp)]; exact g2 j hj⟩, keepP_mk fun j hj => live_give (keepP_get g3 j hj) (hM j hj)⟩,
  ⟨giveRep g4, fun i => by show RepV _ _ _ (get (gvE M s.h s.e) i) _; rw [get_gvE]; exact gv_rep g4 _ _ (g5 i)⟩, g6.1, g6.2.fr gv_fr⟩
theorem nil_cell {ρ : Nat → Loc} {w : World} {x y : V} {val : Value} (hc : nilCell x y) (h : RepV ρ X w x val) : RepV ρ X w y val := by
 rcases hc with rfl | ⟨rfl, k, rfl⟩
 ·exact h
 ·have : val = .slice none 0 0 := h
  subst this
  exact ⟨0, yF _, Nat.zero_le _, .inl ⟨rfl, none, rfl⟩⟩
theorem nil_row {ρ : Nat → Loc} {w : World} : ∀ {xs ys : List V} {vs : List Value}, nilRow xs ys → RepL ρ X w xs vs → RepL ρ X w ys vs
 | [], ys, [], hr, h => by
  have : ys = [] := List.eq_nil_of_length_eq_zero hr.1
  subst this; trivial
 | x :: xs, [], v :: vs, hr, h => by have := hr.1; simp at this
 | x :: xs, y :: ys, v :: vs, hr, h =>
  ⟨nil_cell (hr.2 0 x y rfl rfl) h.1, nil_row (xs := xs) (ys := ys) ⟨by simpa using hr.1, fun i a b h1 h2 => hr.2 (i + 1) a b (by simpa using h1) (by simpa using h2)⟩ h.2⟩
 | [], _, _ :: _, _, h => h.elim
 | _ :: _, _, [], _, h => h.elim
theorem RepB_ext {ρ ρ' : Nat → Loc} {w : World} (hf : Fr ρ w ρ' w) (hag : ∀ k, (ρ k).real = true → ρ' k = ρ k) {k : Nat} (hk : ρ' k = ρ k) {B : Blk} (h : RepB ρ X w k B) : RepB ρ' X w k B := by
 cases B with
 | dead => simp only [RepB] at h ⊢; rw [hk]; exact h
 | arr s es =>
  simp only [RepB] at h ⊢
  rw [hk]
  refine ⟨h.1, h.2.imp id ?_⟩
  rintro ⟨h1, c, T, h2, h3, h4, h5⟩
  exact ⟨h1, c, T, h2, h3, h4, RepEls_mono hf.sta s _ rfl _ _ h5⟩
 | var cs =>
  simp only [RepB] at h ⊢
  rw [hk]
  obtain ⟨h1, c, T, h2, h3⟩ := h
  exact ⟨h1, c, T, h2, RepL_mono hf hag _ _ h3.1, h3.2⟩
 | arv s es =>
  simp only [RepB] at h ⊢
  rw [hk]
  obtain ⟨h0, h1, c, T, h2, h3, h4, h5⟩ := h
  exact ⟨h0, h1, c, T, h2, h3, h4, fun i e he => ⟨(h5 i e he).1, fun f x hx => by obtain ⟨u, h6, h7⟩ := (h5 i e he).2 f x hx; exact ⟨u, h6, RepV_mono hf hag _ _ h7⟩⟩⟩
 | map es cl =>
  simp only [RepB] at h ⊢
  rw [hk]
  obtain ⟨h1, arr, h2, h3, h4⟩ := h
  exact ⟨h1, arr, h2, h3, RepL_mono hf hag _ _ h4⟩
 | it m s sn l =>
  simp only [RepB] at h ⊢
  rw [hk]
  obtain ⟨h1, x, h2, h3⟩ := h
  exact ⟨h1, x, h2, RepV_mono hf hag _ _ h3⟩
 | rcd t e =>
  simp only [RepB] at h ⊢
  rw [hk]
  exact ⟨h.1, fun i => RepV_mono hf hag _ _ (h.2 i)⟩
theorem Good.setB {s : St} {a : Act} {w : World} {j : Nat} {B C : Blk} (h : Good ρ0 X w0 fx N s a w) (hb : s.h[j]? = some B) (hl : liveP [C] 0) (hC : ∀ ρ, RepB ρ X w j B → RepB ρ X w j C) : Good ρ0 X w0 fx N { s with h := s.h.set j C } a w := by
 obtain ⟨ρ, ⟨⟨g1, g2⟩, g3⟩, ⟨g4, g5⟩, g6⟩ := h
 have hjl := (yD.1 hb).1
 refine ⟨ρ, ⟨⟨g1, g2⟩, keepP_mk fun k hk => ?_⟩, ⟨⟨g4.inj, fun k hk => g4.out k (by simpa using hk), fun k D hD => ?_, g4.disj, g4.lt, g4.xlt⟩, g5⟩, g6⟩
 ·have := keepP_get g3 k hk
  unfold liveP at this ⊢
  by_cases hkj : j = k
  ·subst hkj
   rw [yS hjl]
   cases C <;> first | exact hl.elim | trivial
  ·rw [yI hkj]; exact this
 ·by_cases hkj : j = k
  ·subst hkj
   rw [yS hjl] at hD
   simp only [yA] at hD
   subst hD
   exact hC ρ (g4.blk j B hb)
  ·rw [yI hkj] at hD
   exact g4.blk k D hD
def virtLoc (ρ : Nat → Loc) (n m sz k : Nat) : Loc := if n ≤ k ∧ k < n + m then { ρ k with real := false, sz := sz } else ρ k
theorem Good.virt {s : St} {a : Act} {w : World} (m sz : Nat) (hz : 0 < sz) (h : Good ρ0 X w0 fx N s a w) : Good ρ0 X w0 fx N { s with h := s.h ++ yJ m (.arr sz []) } a w := by
 obtain ⟨ρ, ⟨⟨g1, g2⟩, g3⟩, ⟨g4, g5⟩, g6⟩ := h
 have hreal : ∀ k, (virtLoc ρ s.h.length m sz k).real = true → (ρ k).real = true ∧ virtLoc ρ s.h.length m sz k = ρ k := by
  intro k hk
  unfold virtLoc at hk ⊢
  split at hk
  ·cases hk
  ·rename_i hn; rw [if_neg hn]; exact ⟨hk, rfl⟩
 have hag : ∀ k, (ρ k).real = true → virtLoc ρ s.h.length m sz k = ρ k := by
  intro k hk
  unfold virtLoc
  rw [if_neg]
  rintro ⟨h1, _⟩
  rw [g4.out k h1] at hk
  cases hk
 have hown : ∀ b, Own (virtLoc ρ s.h.length m sz) b → Own ρ b := by
  rintro b ⟨k, h1, h2⟩
  have := hreal k h1
  rw [this.2] at h2
  exact ⟨k, this.1, h2⟩
 have hf : Fr ρ w (virtLoc ρ s.h.length m sz) w := ⟨rfl, rfl, rfl, yF _, fun _ _ ho => ⟨rfl, fun h => ho (hown _ h)⟩⟩
 have hlt : ∀ k, k < s.h.length → virtLoc ρ s.h.length m sz k = ρ k := fun k hk => by unfold virtLoc; rw [if_neg (by omega)]
 refine ⟨virtLoc ρ s.h.length m sz, ⟨⟨g1.trans hf, fun k hk => ?_⟩, keepP_mk fun k hk => ?_⟩, ⟨⟨?_, fun k hk => ?_, fun k D hD => ?_, fun b ho => g4.disj b (hown b ho), fun k hk => ?_, g4.xlt⟩, fun i => RepV_mono hf hag _ _ (g5 i)⟩, g6.1, g6.2.fr hf⟩
 ·have hl := keepP_get g3 k hk
  have : k < s.h.length := by
   unfold liveP at hl
   cases hb : s.h[k]? with
   | none => rw [hb] at hl; exact hl.elim
   | some B => exact (yD.1 hb).1
  rw [hlt k this]; exact g2 k hk
 ·have hl := keepP_get g3 k hk
  unfold liveP at hl ⊢
  cases hb : s.h[k]? with
  | none => rw [hb] at hl; exact hl.elim
  | some B =>
   show (match (s.h ++ yJ m (Blk.arr sz []))[k]? with | some Blk.dead => False | some _ => True | none => False)
   rw [yM (yD.1 hb).1]
   rw [hb] at hl ⊢
   exact hl
 ·intro i j hij hi hj
  have h1 := hreal i hi
  have h2 := hreal j hj
  rw [h1.2, h2.2]
  exact g4.inj i j hij h1.1 h2.1
 ·simp only [List.length_append, List.length_replicate] at hk
  have := g4.out k (by omega)
  unfold virtLoc
  split
  ·rfl
  ·exact this
 ·by_cases hkl : k < s.h.length
  ·rw [yM hkl] at hD
   exact RepB_ext hf hag (hlt k hkl) (g4.blk k D hD)
  ·rw [vJ (by omega), List.getElem?_replicate] at hD
   split at hD
   ·rename_i hm
    simp only [yA] at hD
    subst hD
    simp only [RepB, virtLoc]
    rw [if_pos (by omega)]
    exact ⟨⟨rfl, hz⟩, .inl ⟨rfl, trivial⟩⟩
   ·cases hD
 ·have h1 := hreal k hk
  rw [h1.2]; exact g4.lt k h1.1
theorem Good.virtAt {s : St} {a : Act} {w : World} (k sz : Nat) (hz : 0 < sz) (hk : s.h[k]? = some .dead) (h : Good ρ0 X w0 fx N s a w) : Good ρ0 X w0 fx N { s with h := s.h.set k (.arr sz []) } a w := by
 obtain ⟨ρ, ⟨⟨g1, g2⟩, g3⟩, ⟨g4, g5⟩, g6⟩ := h
 have hkl := (yD.1 hk).1
 have hkd : (ρ k).real = false := by simpa [RepB] using g4.blk k _ hk
 have hne : ∀ j, j ≠ k → upd ρ k { ρ k with sz := sz } j = ρ j := fun j hj => upd_other _ _ hj
 have hreal : ∀ j, (upd ρ k { ρ k with sz := sz } j).real = (ρ j).real := by
  intro j
  by_cases hj : j = k
  ·subst hj; rw [upd_same]
  ·rw [hne j hj]
 have hag : ∀ j, (ρ j).real = true → upd ρ k { ρ k with sz := sz } j = ρ j := by
  intro j hj
  refine hne j fun e => ?_
  rw [e, hkd] at hj; cases hj
 have hown : ∀ b, Own (upd ρ k { ρ k with sz := sz }) b → Own ρ b := by
  rintro b ⟨j, h1, h2⟩
  rw [hreal] at h1
  rw [hag j h1] at h2
  exact ⟨j, h1, h2⟩
 have hf : Fr ρ w (upd ρ k { ρ k with sz := sz }) w := ⟨rfl, rfl, rfl, yF _, fun _ _ ho => ⟨rfl, fun h => ho (hown _ h)⟩⟩
 have hnf : ∀ j ∈ fx, j ≠ k := by
  intro j hj e
  have := keepP_get g3 j hj
  rw [e] at this
  unfold liveP at this
  rw [hk] at this
  exact this
 refine ⟨_, ⟨⟨g1.trans hf, fun j hj => (hne j (hnf j hj)).trans (g2 j hj)⟩, keepP_mk fun j hj => ?_⟩, ⟨⟨?_, fun j hj => ?_, fun j D hD => ?_, fun b ho => g4.disj b (hown b ho), fun j hj => ?_, g4.xlt⟩, fun i => RepV_mono hf hag _ _ (g5 i)⟩, g6.1, g6.2.fr hf⟩
 ·have := keepP_get g3 j hj
  unfold liveP at this ⊢
  rw [yI (fun e => hnf j hj e.symm)]; exact this
 ·intro a b hab ha hb
  rw [hreal] at ha hb
  rw [hag a ha, hag b hb]
  exact g4.inj a b hab ha hb
 ·rw [hreal]
  exact g4.out j (by simpa using hj)
 ·by_cases hkj : k = j
  ·subst hkj
   rw [yS hkl] at hD
   simp only [yA] at hD
   subst hD
   simp only [RepB, upd_same]
   exact ⟨⟨trivial, hz⟩, .inl ⟨hkd, trivial⟩⟩
  ·rw [yI hkj] at hD
   exact RepB_ext hf hag (hne j fun e => hkj e.symm) (g4.blk j D hD)
 ·rw [hreal] at hj
  rw [hag j hj]; exact g4.lt j hj
theorem Good.mv {s : St} {a : Act} {w : World} (i j : Nat) (B : Blk) (hij : i ≠ j) (hi : s.h[i]? = some .dead) (hj : s.h[j]? = some B) (hjf : j ∉ fx) (h : Good ρ0 X w0 fx N s a w) :
  Good ρ0 X w0 fx N { s with e := mvE i j s.e, h := ((s.h.map (mvB i j)).set i (mvB i j B)).set j .dead } a w := by
 obtain ⟨ρ, ⟨⟨g1, g2⟩, g3⟩, ⟨g4, g5⟩, g6⟩ := h
 have hid : (ρ i).real = false := by simpa [RepB] using g4.blk i _ hi
 have hnf : ∀ k ∈ fx, k ≠ i ∧ k ≠ j := by
  intro k hk
  refine ⟨fun e => ?_, fun e => hjf (e ▸ hk)⟩
  have := keepP_get g3 k hk
  rw [e] at this
  unfold liveP at this
  rw [hi] at this
  exact this
 refine ⟨mvLoc ρ i j, ⟨⟨g1.trans (mv_fr hid), fun k hk => ?_⟩, keepP_mk fun k hk => ?_⟩, ⟨mvRep g4 hij hi hj, fun t => ?_⟩, g6.1, g6.2.fr (mv_fr hid)⟩
 ·have := hnf k hk
  unfold mvLoc
  rw [if_neg this.1, if_neg this.2]; exact g2 k hk
 ·have h1 := hnf k hk
  have := keepP_get g3 k hk
  unfold liveP at this ⊢
  rw [yI (fun e => h1.2 e.symm), yI (fun e => h1.1 e.symm), List.getElem?_map]
  cases hb : s.h[k]? with
  | none => rw [hb] at this; exact this.elim
  | some C => rw [hb] at this; cases C <;> first | exact this.elim | trivial
 ·show RepV _ _ _ (get (mvE i j s.e) t) _
  rw [get_mvE]; exact mv_rep hid _ _ (g5 t)
theorem Good.ghost {s s' : St} {a : Act} {w : World} (hg : Ghost fx s s') (h : Good ρ0 X w0 fx N s a w) : Good ρ0 X w0 fx N s' a w := by
 induction hg with
 | refl s => exact h
 | le hl _ ih => exact ih (h.le hl)
 | give M hM _ ih => exact ih (h.give hM)
 | virtAt k sz hz hk _ ih => exact ih (h.virtAt k sz hz hk)
 | mv i j B hij hi hj hf _ ih => exact ih (h.mv i j B hij hi hj hf)
 | virt n sz hz _ ih => exact ih (h.virt n sz hz)
 | nilE i k hn _ ih =>
  refine ih ?_
  obtain ⟨ρ, g1, ⟨g4, g5⟩, g6⟩ := h
  refine ⟨ρ, g1, ⟨g4, fun j => ?_⟩, g6⟩
  show RepV ρ X w (if j = i then .sl k 0 0 else get _ j) _
  by_cases hj : j = i
  ·subst hj
   rw [if_pos rfl]
   exact nil_cell (.inr ⟨rfl, k, rfl⟩) (hn ▸ g5 j)
  ·rw [if_neg hj]; exact g5 j
 | nilB j xs ys hb hr _ ih =>
  refine ih (h.setB hb trivial fun ρ hB => ?_)
  simp only [RepB] at hB ⊢
  obtain ⟨h1, c, T, h2, h3⟩ := hB
  exact ⟨h1, c, T, h2, nil_row hr h3.1, h3.2⟩
 | nilW j sz xs ys hb hr _ ih =>
  refine ih (h.setB hb trivial fun ρ hB => ?_)
  simp only [RepB] at hB ⊢
  obtain ⟨h0, h1, c, T, h2, h3, h4, h5⟩ := hB
  refine ⟨h0, h1, c, T, h2, h3, by rw [hr.1]; exact h4, fun i e he => ?_⟩
  have hil : i < xs.length := by rw [← hr.1]; exact (yD.1 he).1
  have hx : xs[i]? = some xs[i] := vK hil
  have hrow := hr.2 i _ _ hx he
  obtain ⟨h6, h7⟩ := h5 i _ hx
  refine ⟨hrow.1.trans h6, fun f y hy => ?_⟩
  have hfl : f < xs[i].length := by rw [← hrow.1]; exact (yD.1 hy).1
  have hxf : xs[i][f]? = some xs[i][f] := vK hfl
  obtain ⟨u, h8, h9⟩ := h7 f _ hxf
  exact ⟨u, h8, nil_cell (hrow.2 f _ _ hxf hy) h9⟩
theorem Good.leG {s p : St} {a : Act} {w : World} (h : Good ρ0 X w0 fx N s a w) (hl : leG fx s p) : Good ρ0 X w0 fx N p a w := by
 obtain ⟨s', h1, h2⟩ := hl
 exact (h.ghost h1).le h2
theorem frzP_good {a : Act} {w : World} {K : St → Prop} : ∀ (xs : List Nat) (s : St), frzP fx xs s K → Good ρ0 X w0 fx N s a w → ∃ s', K s' ∧ Good ρ0 X w0 fx N s' a w
 | [], s, h, hg => ⟨s, h, hg⟩
 | x :: r, s, h, hg => by
  simp only [frzP] at h
  split at h
  ·rename_i k i n hx
   unfold frz1 at h
   split at h
   ·rename_i sz els hb
    obtain ⟨hk, h⟩ := h
    have hb' : s.h[k]? = some (.arr sz els) := by
     unfold blk at hb
     rw [List.getD_eq_getElem?_getD] at hb
     cases hk : s.h[k]? with
     | none => simp [hk] at hb
     | some B => rw [hk] at hb; simpa using hb
    refine frzP_good r _ h ?_
    obtain ⟨ρ, ⟨⟨g1, g2⟩, g3⟩, ⟨g4, g5⟩, g6⟩ := hg
    have hne : ∀ j ∈ fx, j ≠ k := fun j hj e => hk (e ▸ hj)
    exact ⟨lessLoc ρ k, ⟨⟨g1.trans less_fr, fun j hj => by rw [less_ne (hne j hj)]; exact g2 j hj⟩, keepP_mk fun j hj => live_frz (keepP_get g3 j hj) (hne j hj)⟩,
     ⟨frzRep g4 hb', fun i => by rw [get_frzE]; exact frz_rep g4 hb' _ _ (g5 i)⟩, g6.1, g6.2.fr less_fr⟩
   ·exact frzP_good r s h hg
  ·exact frzP_good r s h hg
theorem brV_inv {c : V} {A B : Prop} (h : brV c A B) : ∃ t, c = .v (.bool t) ∧ (t = true → A) ∧ (t = false → B) := by
 unfold brV at h
 split at h
 ·exact ⟨_, rfl, h⟩
 ·exact h.elim
end
end Go.Fx
namespace Go.Fx
open Go.RowKit
def FR (r : Option Nat) : Fence := { Fence.wide with round := r }
section
variable {P : Program} {r : Option Nat}
theorem callsFR {n : Nat} {f : FuncId} {args : Array Value} {w : World} {R : Ending → World → Prop} (h : Calls P f args w R) : CallsIn (FR r) n P f args w R := (callsIn_wide (n := n)).2 h
theorem rowsFR {n : Nat} {row : String} {args : Array Value} {w : World} {R : Value → World → Prop} (h : Rows P row args w R) : RowsIn (FR r) n P row args w R :=
 fun c cs _ => let ⟨v, w', hr, hs⟩ := h c cs; ⟨v, w', hr, stepsIn_wide.2 hs⟩
theorem operIn {o : Oper} (hd : r = none ∨ notDefer o = true) {Q : Exit → Act → World → Prop} {a : Act} {w : World} {next : Act → World → Prop} (h : o.wp P a w next Q) : o.wpIn (FR r) 0 P a w next Q := by
 refine ⟨fun _ _ => trivial, ?_⟩
 have hs : o.semAt (FR r).round a.eval = execOp a.eval o := by
  rcases hd with rfl | hd
  ·rfl
  ·exact Oper.semAt_eq _ _ _ fun c hc => by simp [notDefer, hc] at hd
 rw [hs]
 unfold Oper.wp at h
 generalize (execOp a.eval o).run P w = res at h ⊢
 unfold Oper.upon at h
 split at h
 ·exact h
 ·exact h
 ·exact h
 ·refine ⟨fun h => (by cases h), callsFR (h.mono ?_)⟩
  rintro e w' he
  cases e <;> exact he
 ·exact ⟨fun h => (by cases h), rowsFR h⟩
 ·exact h
 ·exact h.elim
theorem opIn {ops : Array Oper} (hd : r = none ∨ ∀ (i : Nat) (o : Oper), ops[i]? = some o → notDefer o = true) {Q : Exit → Act → World → Prop} (hQ : ¬ LetsOut Q) {i : Nat} {K : Act → World → Prop} {a : Act} {w : World} (h : wpOp P ops Q i K a w) :
  wpOpIn (FR r) 0 P ops Q i K a w := by
 unfold wpOp at h
 unfold wpOpIn
 split at h
 ·rename_i ho; simp only [ho]; exact h
 ·rename_i o ho
  simp only [ho]
  split at h
  ·rename_i hw
   rw [if_pos hw]
   rcases h with h | h
   ·exact operIn (hd.imp id fun h => h i o ho) h
   ·exact absurd h.2 hQ
  ·rename_i hw
   rw [if_neg hw]
   exact ⟨fun _ _ => trivial, h⟩
theorem anyIn {ops : Array Oper} (hd : r = none ∨ ∀ (i : Nat) (o : Oper), ops[i]? = some o → notDefer o = true) {Q : Exit → Act → World → Prop} (hQ : ¬ LetsOut Q) {md : Region.Mode} :
  ∀ (fuel : Nat) (listed : Array Bool) (a : Act) (w : World), wpAny P md ops Q fuel listed a w → wpAnyIn (FR r) 0 P md ops Q fuel listed a w
 | 0, _, _, _, h => h
 | fuel + 1, _, _, _, h => ⟨h.1, fun i hi => wpOpIn_mono (fun a w => anyIn hd hQ fuel _ a w) (opIn hd hQ (h.2 i hi))⟩
theorem listIn {ops : Array Oper} {Q : Exit → Act → World → Prop} (hQ : ¬ LetsOut Q) : ∀ (os : List Oper), (r = none ∨ ∀ o ∈ os, notDefer o = true) → ∀ (a : Act) (w : World), wpList P ops Q os a w → wpListIn (FR r) 0 P ops Q os a w
 | [], _, _, _, h => h
 | o :: os, hd, a, w, h => by
  unfold wpList at h
  unfold wpListIn
  have hd' : r = none ∨ ∀ o ∈ os, notDefer o = true := hd.imp id fun h o ho => h o (yE _ ho)
  split at h
  ·rename_i hw
   rw [if_pos hw]
   rcases h with h | h
   ·exact Oper.wpIn_mono (fun a w => listIn hQ os hd' a w) (operIn (hd.imp id fun h => h o yG) h)
   ·exact absurd h.2 hQ
  ·rename_i hw
   rw [if_neg hw]
   exact ⟨fun _ _ => trivial, listIn hQ os hd' _ _ h⟩
theorem anyIn_of_seq {ops : Array Oper} {Q : Exit → Act → World → Prop} {md : Region.Mode} : ∀ (l : List Oper) (k : Nat) (listed : Array Bool) (a : Act) (w : World), (∀ j, l[j]? = ops[k + j]?) →
  Region.seqB md ops l.length k listed = true → wpListIn (FR r) 0 P ops Q l a w → wpAnyIn (FR r) 0 P md ops Q l.length listed a w
 | [], _, _, _, _, _, hB, h => ⟨by simpa [Region.seqB] using hB, h⟩
 | o :: l, k, listed, a, w, hl, hB, h => by
  have h0 : ops[k]? = some o := by simpa using (hl 0).symm
  simp only [List.length_cons, Region.seqB, yB, decide_eq_true_eq] at hB
  refine ⟨fun h1 => (by rw [hB.1] at h1; cases h1), fun i hi => ?_⟩
  rw [hB.1] at hi
  obtain rfl : i = k := by simpa using hi
  have hw : wpOpIn (FR r) 0 P ops Q i (wpListIn (FR r) 0 P ops Q l) a w := by unfold wpOpIn; simp only [h0]; exact h
  exact wpOpIn_mono (fun a' w' h' => anyIn_of_seq l (i + 1) _ a' w' (fun j => by have := hl (j + 1); simpa [Nat.add_assoc, Nat.add_comm 1 j] using this) hB.2 h') hw
theorem anyIn_of_head {ops : Array Oper} {Q : Exit → Act → World → Prop} (hQ : ¬ LetsOut Q) {md : Region.Mode} {w : World} {n g : Nat} {L : Array Bool → Act → Prop} (hL : ∀ listed a, L listed a → wpAnyIn (FR none) 0 P md ops Q g listed a w) :
  ∀ (f : Nat) (listed : Array Bool) (a : Act), wpAnyL P md ops w n L f listed a → wpAnyIn (FR none) 0 P md ops Q (f + g) listed a w
 | 0, listed, a, h => by rw [Nat.zero_add]; exact hL _ _ h
 | f + 1, listed, a, h => by
  rw [show f + 1 + g = (f + g) + 1 by omega]
  exact ⟨fun h0 => absurd h0 h.1, fun i hi => opIn (.inl rfl) hQ (wpOp_of_stOp (fun a' h' => anyIn_of_head hQ hL f _ a' h') (h.2 i hi).2)⟩
end
end Go.Fx
namespace Go.Fx
open Go.RowKit
section
variable {P : Program} {X : Nat → Prop} {ρ : Nat → Loc} {w w' : World}
theorem rep_dead {h : List Blk} (hr : Rep ρ X w h) : Rep ρ X w (h ++ [.dead]) := by
 refine ⟨hr.inj, fun k hk => hr.out k (by simp at hk; omega), fun k B hB => ?_, hr.disj, hr.lt, hr.xlt⟩
 rcases yT k h.length with hlt | hge
 ·rw [yM hlt] at hB
  exact hr.blk k B hB
 ·rw [vJ hge] at hB
  have : B = .dead := by
   cases hk : k - h.length with
   | zero => rw [hk] at hB; simpa using hB.symm
   | succ m => rw [hk] at hB; simp at hB
  subst this
  exact hr.out k hge
theorem set_last (h : List Blk) (A B : Blk) : (h ++ [A]).set h.length B = h ++ [B] := by
 rw [List.set_append_right _ _ (yF _)]; simp
theorem get_last (h : List Blk) (A : Blk) : (h ++ [A])[h.length]? = some A := by simp
theorem new_rec {h : List Blk} (hr : Rep ρ X w h) {lp : Loop} (hm : Made w w' (.loop { lp with state := .ready, pending := none })) {e : Env} (he : RepE ρ X w e lp.tmps) :
  ∃ ρ', Fr ρ w ρ' w' ∧ (∀ j, j ≠ h.length → ρ' j = ρ j) ∧ (∀ j, (ρ j).real = true → ρ' j = ρ j) ∧ Rep ρ' X w' (h ++ [.rcd .ready e]) ∧ ρ' h.length = ⟨true, w.heap.size, 0, 0, 0, lp⟩ := by
 have hkr : (ρ h.length).real = false := hr.out _ (yF _)
 have hf : Fr ρ w (upd ρ h.length ⟨true, w.heap.size, 0, 0, 0, lp⟩) w' := new_fr hm (k := h.length) rfl
 have hag := new_ag hkr ⟨true, w.heap.size, 0, 0, 0, lp⟩
 refine ⟨_, hf, fun j hj => upd_other _ _ hj, hag, ?_, upd_same _ _ _⟩
 have := new_rep (rep_dead hr) hm (get_last h .dead) (l := ⟨true, w.heap.size, 0, 0, 0, lp⟩) rfl (B := .rcd .ready e) (by
  simp only [RepB, upd_same]
  exact ⟨⟨⟨rfl, rfl, rfl⟩, hm.new⟩, RepE_mono hf hag he⟩)
 rwa [set_last] at this
theorem new_ghost {h : List Blk} (hr : Rep ρ X w h) {e : Env} {t : Array Value} (he : RepE ρ X w e t) :
  ∃ ρ', Fr ρ w ρ' w ∧ Fr ρ' w ρ w ∧ (∀ j, j ≠ h.length → ρ' j = ρ j) ∧ (∀ j, (ρ j).real = true → ρ' j = ρ j) ∧ Rep ρ' X w (h ++ [.rcd .ghost e]) ∧ (ρ' h.length).lp.tmps = t := by
 have hkr : (ρ h.length).real = false := hr.out _ (yF _)
 let L : Loc := { ρ h.length with real := false, lp := { (default : Loop) with tmps := t } }
 have hag : ∀ j, (ρ j).real = true → upd ρ h.length L j = ρ j := new_ag hkr L
 have hre : ∀ j, (upd ρ h.length L j).real = true → (ρ j).real = true ∧ upd ρ h.length L j = ρ j := by
  intro j hj
  by_cases hjn : j = h.length
  ·subst hjn; rw [upd_same] at hj; cases hj
  ·rw [upd_other _ _ hjn] at hj ⊢; exact ⟨hj, rfl⟩
 have hown : ∀ b, Own (upd ρ h.length L) b ↔ Own ρ b := by
  intro b
  constructor
  ·rintro ⟨j, h1, h2⟩
   have := hre j h1
   rw [this.2] at h2
   exact ⟨j, this.1, h2⟩
  ·rintro ⟨j, h1, h2⟩
   exact ⟨j, by rw [hag j h1]; exact h1, by rw [hag j h1]; exact h2⟩
 have hf : Fr ρ w (upd ρ h.length L) w := ⟨rfl, rfl, rfl, yF _, fun b _ ho => ⟨rfl, fun h => ho ((hown b).1 h)⟩⟩
 have hf' : Fr (upd ρ h.length L) w ρ w := ⟨rfl, rfl, rfl, yF _, fun b _ ho => ⟨rfl, fun h => ho ((hown b).2 h)⟩⟩
 refine ⟨upd ρ h.length L, hf, hf', fun j hj => upd_other _ _ hj, hag, ⟨?_, ?_, ?_, fun b ho => hr.disj b ((hown b).1 ho), ?_, hr.xlt⟩, by rw [upd_same]⟩
 ·intro i j hij hi hj
  have h1 := hre i hi
  have h2 := hre j hj
  rw [h1.2, h2.2]
  exact hr.inj i j hij h1.1 h2.1
 ·intro k hk
  have : k ≠ h.length := by simp at hk; omega
  rw [upd_other _ _ this]
  exact hr.out k (by simp at hk; omega)
 ·intro k B hB
  rcases yT k h.length with hlt | hge
  ·rw [yM hlt] at hB
   exact RepB_ext hf hag (upd_other _ _ (by omega)) (hr.blk k B hB)
  ·have hk : k = h.length := by
    have := (yD.1 hB).1
    simp at this; omega
   subst hk
   rw [get_last] at hB
   simp only [yA] at hB
   subst hB
   simp only [RepB, upd_same]
   exact ⟨rfl, RepE_mono hf hag he⟩
 ·intro k hk
  have := hre k hk
  rw [this.2]
  exact hr.lt k this.1
theorem putObj_fr {k : Nat} (hk : (ρ k).real = true) (o : Obj) : Fr ρ w ρ (w.putObj (ρ k).blk o) := turn_fr hk o rfl rfl rfl rfl
theorem rec_turn {h : List Blk} (hr : Rep ρ X w h) {k : Nat} {t t' : RS} {e : Env} (hb : h[k]? = some (.rcd t e)) (hk : (ρ k).real = true) {o : Obj} (ho : recOk (w.putObj (ρ k).blk o) (ρ k) t') :
  Rep ρ X (w.putObj (ρ k).blk o) (h.set k (.rcd t' e)) := by
 have hB := hr.blk k _ hb
 simp only [RepB] at hB
 refine turn_rep hr hk (o := o) (putObj_fr hk o) rfl ?_
 simp only [RepB]
 exact ⟨ho, RepE_mono (putObj_fr hk o) (fun _ _ => rfl) hB.2⟩
theorem putObj_same {k : Nat} (hk : (ρ k).real = true) {h : List Blk} (hr : Rep ρ X w h) (o : Obj) : (w.putObj (ρ k).blk o).heap[(ρ k).blk]? = some o := World.putObj_heap_same (hr.lt k hk)
theorem enter_ok {h : List Blk} (hr : Rep ρ X w h) {w0 : World} (h0 : w0.heap.size ≤ w.heap.size) {ds : List Deferred} (hM : Marks ρ w0 w ds) (r : Option Nat) (hrd : ∀ l0, r = some l0 → ∃ r0, w.heap[l0]? = some (.loop r0))
  (fn : FuncId) (tmps : Array Value) (ps : Array Tmp) (asg body : Code) {e : Env} (he : RepE ρ X w e tmps) :
  ∃ (l : Nat) (mark : List Deferred) (w1 : World) (lp : Loop) (ρ' : Nat → Loc), (Instr.enterLoop fn tmps ps asg body r).run P w = .ok (l, mark) w1 ∧
   (lp.fn = fn ∧ lp.tmps = tmps ∧ lp.params = ps ∧ lp.assign = asg ∧ lp.body = body) ∧ Fr ρ w ρ' w1 ∧ (∀ j, j ≠ h.length → ρ' j = ρ j) ∧ (∀ j, (ρ j).real = true → ρ' j = ρ j) ∧ Rep ρ' X w1 (h ++ [.rcd .ready e]) ∧
   ρ' h.length = ⟨true, l, 0, 0, 0, lp⟩ ∧ Marks ρ' w0 w1 (mark ++ ds) := by
 cases r with
 | none =>
  have hm1 : Made w (w.alloc (.deferred (some []))) (.deferred (some [])) := Made.alloc _ _
  have hf1 : Fr ρ w ρ (w.alloc (.deferred (some []))) := ⟨rfl, rfl, rfl, by rw [hm1.size]; omega, fun b hb ho => ⟨hm1.old hb, ho⟩⟩
  have hr1 : Rep ρ X (w.alloc (.deferred (some []))) h :=
   ⟨hr.inj, hr.out, fun k B hB => RepB_mono hf1 (fun _ _ => rfl) rfl (fun hk => hm1.old (hr.lt k hk)) (hr.blk k B hB), hr.disj, fun k hk => yU (hr.lt k hk) hf1.size, fun b hb => yU (hr.xlt b hb) hf1.size⟩
  let lp : Loop := { state := .ready, pending := none, fn, tmps, params := ps, assign := asg, body, defers := w.heap.size }
  obtain ⟨ρ', g1, g2, g3, g4, g5⟩ := new_rec hr1 (lp := lp) (Made.alloc _ _) (RepE_mono hf1 (fun _ _ => rfl) he)
  refine ⟨_, _, _, lp, ρ', run_enterLoop_outer fn tmps ps asg body, ⟨rfl, rfl, rfl, rfl, rfl⟩, hf1.trans g1, g2, g3, g4, by rw [g5, hm1.size], ?_⟩
  obtain ⟨Ds, ⟨h1, h2⟩, h3⟩ := hM.fr (hf1.trans g1)
  refine ⟨w.heap.size :: Ds, ⟨by rw [h1]; rfl, yV.2 ⟨fun hD => ?_, h2⟩⟩, fun D hD => ?_⟩
  ·obtain ⟨Ds', ⟨h1', _⟩, h3'⟩ := hM
   have : Ds = Ds' := by
    have hinj : ∀ (xs ys : List Nat), xs.map markOf = ys.map markOf → xs = ys := by
     intro xs
     induction xs with
     | nil => intro ys h; cases ys with | nil => rfl | cons _ _ => simp at h
     | cons x xs ih =>
      intro ys h
      cases ys with
      | nil => simp at h
      | cons y ys =>
       simp only [vB, yW, markOf, Deferred.mk.injEq, Target.collected.injEq, and_true] at h
       rw [h.1, ih ys h.2]
    exact hinj _ _ (h1.symm.trans h1')
   subst this
   have := (h3' _ hD).1.2
   omega
  ·rcases yP.1 hD with rfl | hD
   ·refine ⟨⟨h0, yU (by rw [hm1.size]; omega) g1.size⟩, ?_, ?_⟩
    ·rintro ⟨j, hj1, hj2⟩
     by_cases hjn : j = h.length
     ·subst hjn; rw [g5] at hj2; simp only [hm1.size] at hj2; omega
     ·rw [g2 j hjn] at hj1 hj2
      have := hr.lt j hj1
      omega
    ·rw [(Made.alloc (w.alloc (.deferred (some []))) _).old (by rw [hm1.size]; omega)]
     exact hm1.new
   ·exact h3 D hD
 | some l0 =>
  obtain ⟨r0, hr0⟩ := hrd l0 rfl
  let lp : Loop := { state := .ready, pending := none, fn, tmps, params := ps, assign := asg, body, defers := r0.defers }
  obtain ⟨ρ', g1, g2, g3, g4, g5⟩ := new_rec hr (lp := lp) (Made.alloc _ _) he
  exact ⟨_, _, _, lp, ρ', run_enterLoop_inner hr0 fn tmps ps asg body, ⟨rfl, rfl, rfl, rfl, rfl⟩, g1, g2, g3, g4, g5, hM.fr g1⟩
end
end Go.Fx
namespace Go.Fx
open Go.RowKit
section
variable {P : Program} {ρ0 : Nat → Loc} {X : Nat → Prop} {w0 : World} {N : Nat}
theorem rlOsY_cons {ops : Array Oper} {N : Nat} {o : Oper} {os : List Oper} {ls0 : List LOper} {l : LOper} {ls : List LOper} (h : rlOsY P ops N (o :: os) ls0 = some (l :: ls)) :
  ∃ l0 r0 op g, ls0 = l0 :: r0 ∧ rlY P o.op l0.op = some op ∧ gOk ops N o.guard = some g ∧ (∀ d, o.dst = some d → d < N) ∧ l = ⟨o.dst, op, g⟩ ∧ rlOsY P ops N os r0 = some ls := by
 cases ls0 with
 | nil => simp [rlOsY] at h
 | cons l0 r0 =>
  simp only [rlOsY] at h
  split at h
  ·rename_i op g r h1 h2 h3 h4
   simp only [yA, yW] at h
   obtain ⟨rfl, rfl⟩ := h
   refine ⟨l0, r0, op, g, rfl, h1, h2, fun d hd => ?_, rfl, h4⟩
   simpa [dOk, hd] using h3
  ·cases h
theorem rlOsY_nil {ops : Array Oper} {N : Nat} {os : List Oper} {ls0 : List LOper} (h : rlOsY P ops N os ls0 = some []) : os = [] := by
 cases os with
 | nil => rfl
 | cons o os =>
  cases ls0 with
  | nil => simp [rlOsY] at h
  | cons l0 r0 =>
   simp only [rlOsY] at h
   split at h <;> simp at h
theorem rlY_cases {op : Op} {l0 l : LOp} (h : rlY P op l0 = some l) : (∃ f c, l = .yld f c.args.toList ∧ op = .call c ∧ c.callee = .value f) ∨ (rl P op l0 = some l ∧ ∀ f xs, l ≠ .yld f xs) := by
 unfold rlY at h
 split at h
 ·split at h
  ·rename_i c
   split at h
   ·rename_i f hf
    simp only [yA] at h
    exact .inl ⟨f, c, h.symm, rfl, hf⟩
   ·cases h
  ·cases h
 ·split at h
  ·cases h
  ·rename_i hn
   exact .inr ⟨h, fun f xs e => hn f xs (by rw [h, e])⟩
theorem yield_in {cx : Cx} {o : Oper} {c : Call} {f : Operand} (hop : o.op = .call c) (hcal : c.callee = .value f) {a : Act} {s : St} {ρ : Nat → Loc} {w : World} {K : V → St → Prop} {Q : Exit → Act → World → Prop}
  (hf : Fr ρ0 w0 ρ w ∧ ∀ j ∈ cx.fx, ρ j = ρ0 j) (hk : keepP cx.fx s.h) (hr : Rep ρ X w s.h) (he : RepE ρ X w s.e a.tmps) (hy : ∀ k, YOk P ρ0 X w0 cx.fx k (cx.y k)) (h : yieldP cx f c.args.toList s K) :
  o.wpIn (FR none) 0 P a w (fun a' w' => ∃ val, a' = a.put o.dst val ∧ Sound cx.fx [] ρ X w a.tmps K val w') Q := by
 unfold yieldP at h
 split at h
 ·rename_i k hev
  have hv := ev_rep he f
  rw [hev] at hv
  obtain ⟨_, hv⟩ := hv
  obtain ⟨fn, tm, asg, body, hy1, hy2⟩ := hy k ρ w s a.tmps _ _ K hf hk hr he (map_ev_rep he c.args.toList) h
  refine ⟨fun _ _ => trivial, ?_⟩
  show o.uponIn (FR none) 0 P a _ Q ((execOp a.eval o).run P w)
  have ha : (c.args.map a.eval) = (c.args.toList.map a.eval).toArray := by apply Array.ext'; simp
  have hrun : (execOp a.eval o).run P w = .ok (.round (ρ k).blk fn tm asg body) w := by
   unfold execOp
   simp only [hop, resolve, hcal, ha, hv, Deferred.ofValue, Sem.run_bind, Sem.run_pure, Result.andThen_ok, invoke, Array.empty_append, Array.append_empty]
   exact hy1
  rw [hrun, Oper.uponIn_round]
  refine ⟨fun h => (by cases h), hy2.mono ?_⟩
  rintro e w' ⟨val, rfl, hs⟩
  exact ⟨val, rfl, hs⟩
 ·exact h.elim
theorem aOpsY_sound {cx : Cx} (hcx : cx.ok P) (hy : ∀ k, YOk P ρ0 X w0 cx.fx k (cx.y k)) {ops : Array Oper} {Q : Exit → Act → World → Prop} {K : St → Prop} (hQ : ∀ s a w, K s → Good ρ0 X w0 cx.fx N s a w → Q .normal a w) :
  ∀ (os : List Oper) (ls0 ls : List LOper) (s : St) (a : Act) (w : World), rlOsY P ops N os ls0 = some ls → Good ρ0 X w0 cx.fx N s a w → aOpsY cx ls s K → wpListIn (FR none) 0 P ops Q os a w
 | os, ls0, [], s, a, w, hm, hg, h => by
  have := rlOsY_nil hm
  subst this
  exact hQ s a w h hg
 | [], ls0, l :: ls, s, a, w, hm, hg, h => by
  cases ls0 <;> simp [rlOsY] at hm
 | o :: os, ls0, l :: ls, s, a, w, hm, hg, h => by
  obtain ⟨l0, r0, op, g, rfl, h1, h2, hd, rfl, h4⟩ := rlOsY_cons hm
  obtain ⟨ρ, hpre, ⟨hr, he⟩, hN, hdf⟩ := hg
  simp only [aOpsY] at h
  unfold wpListIn
  have key : ∀ (A : St → (V → St → Prop) → Prop) (K' : St → Prop), (∀ s' a' w', K' s' → Good ρ0 X w0 cx.fx N s' a' w' → wpListIn (FR none) 0 P ops Q os a' w') →
    (∀ e', RepE ρ X w e' a.tmps → A { s with e := e' } (fun x s' => K' (s'.put o.dst x)) →
     o.wpIn (FR none) 0 P a w (fun a' w' => ∃ val, a' = a.put o.dst val ∧ Sound cx.fx [] ρ X w a.tmps (fun x s' => K' (s'.put o.dst x)) val w') Q) → gP g o.dst A s K' →
    if Region.wanted o (yielded ops a.tmps) then o.wpIn (FR none) 0 P a w (wpListIn (FR none) 0 P ops Q os) Q
     else (∀ f, o.about P w a.eval = some f → (FR none).fn f) ∧ wpListIn (FR none) 0 P ops Q os (a.put o.dst undef) w := by
   intro A K' hK' hA h
   rcases guard_casesG hN h2 he h with ⟨hw, e', _, he', h'⟩ | ⟨hw, e', _, he', h'⟩
   ·rw [if_pos hw]
    refine Oper.wpIn_mono ?_ (hA e' he' h')
    rintro a' w' ⟨val, rfl, hs⟩
    obtain ⟨x, s', hK, hgood⟩ := Good.sound (s := s) hpre ⟨hN, hdf⟩ hd hs
    exact hK' _ _ _ hK hgood
   ·rw [if_neg (by rw [hw]; exact Bool.false_ne_true)]
    have hh : (St.put { s with e := e' } o.dst (.v (.tuple #[]))).h = s.h := by cases o.dst <;> rfl
    refine ⟨fun _ _ => trivial, hK' _ _ _ h' ⟨ρ, ⟨hpre.1, by rw [hh]; exact hpre.2⟩, ⟨by rw [hh]; exact hr, ?_⟩, by rw [size_put]; exact hN, by rw [defers_put]; exact hdf⟩⟩
    exact RepE_put (e := e') (x := .v (.tuple #[])) (val := undef) he' rfl (fun n hn => by rw [hN]; exact hd n hn) _ rfl
  have hrest : ∀ s' a' w', aOpsY cx ls s' K → Good ρ0 X w0 cx.fx N s' a' w' → wpListIn (FR none) 0 P ops Q os a' w' := fun s' a' w' hK hg' => aOpsY_sound hcx hy hQ os r0 ls s' a' w' h4 hg' hK
  by_cases hyl : ∃ f xs, op = .yld f xs
  ·obtain ⟨f, xs, rfl⟩ := hyl
   rcases rlY_cases h1 with ⟨f', c, hl, hop, hcal⟩ | h1
   ·simp only [LOp.yld.injEq] at hl
    obtain ⟨rfl, rfl⟩ := hl
    refine key (yieldP cx f c.args.toList) _ hrest (fun e' he' h' => ?_) h
    exact yield_in hop hcal (s := { s with e := e' }) hpre.1 hpre.2 hr he' hy h'
   ·exact absurd rfl (h1.2 f xs)
  ·have h1' : rl P o.op l0.op = some op := by
    rcases rlY_cases h1 with ⟨f', c, hl, _, _⟩ | h1
    ·exact absurd ⟨f', _, hl⟩ hyl
    ·exact h1.1
   refine key (aOp cx op) _ hrest (fun e' he' h' => ?_) ?_
   ·refine operIn (.inl rfl) (Oper.wp_mono ?_ (aOp_sound hcx h1' (s := { s with e := e' }) hr he' hpre.2 h'))
    rintro a' w' ⟨val, rfl, x, s', ρ', g1, ⟨g2, g3, _⟩, g4⟩
    exact ⟨val, rfl, x, s', ρ', g1, ⟨g2, g3, fun _ h => by simp at h⟩, g4⟩
   ·have : aOperY cx ⟨o.dst, op, g⟩ s (fun s' => aOpsY cx ls s' K) = aOper cx ⟨o.dst, op, g⟩ s (fun s' => aOpsY cx ls s' K) := by
     unfold aOperY
     split
     ·rename_i f xs hop
      exact absurd ⟨f, xs, hop⟩ hyl
     ·rfl
    rw [this] at h
    cases g <;> exact h
end
end Go.Fx
namespace Go.Fx
open Go.RowKit
section
variable {P : Program}
def ROk (r : Option Nat) (cx : Cx) (ρ0 : Nat → Loc) : Prop :=
 match r, cx.rk with
 | none, none => True
 | some l, some k => k ∈ cx.fx ∧ (ρ0 k).blk = l
 | _, _ => False
theorem rcdK_inv {h : List Blk} {k : Nat} {K : RS → Env → Prop} (hk : rcdK h k K) : ∃ t e, h[k]? = some (.rcd t e) ∧ K t e := by
 unfold rcdK at hk
 split at hk
 ·exact ⟨_, _, by assumption, hk⟩
 ·exact hk.elim
theorem setPs_get : ∀ (ps : List Nat) (xs : List V) (vs : List Value) (e : Env) (t : Array Value) {ρ : Nat → Loc} {X : Nat → Prop} {w : World}, (∀ p ∈ ps, p < t.size) → xs.length = ps.length → RepL ρ X w xs vs → RepE ρ X w e t →
  RepE ρ X w (setPs ps xs e) ((ps.zip vs).foldl (fun t (p, v) => t.setIfInBounds p v) t)
 | [], [], [], _, _, _, _, _, _, _, _, he => he
 | p :: ps, x :: xs, v :: vs, e, t, ρ, X, w, hp, hl, hx, he => by
  simp only [setPs, List.zip_cons_cons, List.foldl_cons]
  refine setPs_get ps xs vs _ _ (fun q hq => by simpa using hp q (yE _ hq)) (by simpa using hl) hx.2 ?_
  intro i
  rw [get_put]
  split
  ·rename_i hi
   subst hi
   have := hp i yG
   rw [yX, Array.getElem?_setIfInBounds_self_of_lt this]
   exact hx.1
  ·rename_i hi
   rw [yX, Array.getElem?_setIfInBounds_ne (Ne.symm hi), ← yX]
   exact he i
 | [], _ :: _, _, _, _, _, _, _, _, hl, _, _ => by simp at hl
 | _ :: _, [], _, _, _, _, _, _, _, hl, _, _ => by simp at hl
 | _ :: _, _ :: _, [], _, _, _, _, _, _, _, hx, _ => hx.elim
 | [], [], _ :: _, _, _, _, _, _, _, _, hx, _ => hx.elim
theorem foldl_size : ∀ (l : List (Nat × Value)) (t : Array Value), (l.foldl (fun t (p, v) => t.setIfInBounds p v) t).size = t.size
 | [], _ => rfl
 | (p, v) :: l, t => by rw [List.foldl_cons, foldl_size l]; simp
theorem LetsOut_then {Q : Exit → Act → World → Prop} {K : Act → World → Prop} (h : ¬ LetsOut Q) : ¬ LetsOut (Exit.then K Q) := fun ⟨a, w, hq⟩ => h ⟨a, w, hq⟩
end
end Go.Fx
namespace Go.Fx
open Go.RowKit
section
variable {P : Program} {ρ0 : Nat → Loc} {X : Nat → Prop} {w0 : World} {N : Nat} {r : Option Nat}
theorem noDef {ops : Array Oper} (h : ops.toList.all notDefer = true) : ∀ (i : Nat) (o : Oper), ops[i]? = some o → notDefer o = true :=
 fun i o ho => yH.1 h o (by rw [Array.mem_toList_iff]; exact Array.mem_of_getElem? ho)
theorem tree_in (hP : P.follows .mixedOrders = true) {cx : Cx} (hcx : cx.ok P) {ops : Array Oper} {id : Nat} {Q : Exit → Act → World → Prop} (hQo : ¬ LetsOut Q) {K : St → Prop} (hQ : ∀ s a w, K s → Good ρ0 X w0 cx.fx N s a w → Q .normal a w)
  (hd : r = none ∨ ops.toList.all notDefer = true) {p0 p : LPlan} {s : St} {a : Act} {w : World} (hm : rlT P N ops p0 = some p) (hg : Good ρ0 X w0 cx.fx N s a w) (h : awP cx p [] K s) : (Code.region id ops true).wpIn (FR r) 0 P Q a w := by
 unfold rlT at hm
 split at hm
 ·rename_i hs
  refine wpIn_mono (Q := NoPan Q) ?_ (fun e a w he => ?_)
  ·refine wpIn_region_any hP (anyIn (Q := NoPan Q) (hd.imp (fun h => h) noDef) (fun ⟨a, w, hq⟩ => hQo ⟨a, w, hq⟩) _ _ _ _ ?_)
   obtain ⟨ρ, hG⟩ := Good.drew hg
   exact wpAny_of_G _ _ _ _ _ ((awP_sound (Q := NoPan Q) hcx rfl hs (fun _ _ _ h => h) (fun s a w hK hg => hQ s a w hK hg) p0 p _ _ _ hm [] (fun _ => False) ρ s a _ (fun b hb => hb.elim) hG h).1 rfl)
  ·cases e <;> first | exact he | exact he.elim
 ·cases hm
theorem rlOsY_split {ops : Array Oper} : ∀ (m : Nat) (os : List Oper) (ls0 ls : List LOper), rlOsY P ops N os ls0 = some ls →
  rlOsY P ops N (os.take m) (ls0.take m) = some (ls.take m) ∧ rlOsY P ops N (os.drop m) (ls0.drop m) = some (ls.drop m)
 | 0, os, ls0, ls, h => by simp [rlOsY, h]
 | m + 1, [], ls0, ls, h => by
  cases ls0 with
  | nil => simp [rlOsY] at h; subst h; simp [rlOsY]
  | cons _ _ => simp [rlOsY] at h
 | m + 1, o :: os, ls0, ls, h => by
  cases ls with
  | nil => have := rlOsY_nil h; cases this
  | cons l ls =>
   obtain ⟨l0, r0, op, g, rfl, h1, h2, hd, rfl, h4⟩ := rlOsY_cons h
   obtain ⟨h5, h6⟩ := rlOsY_split m os r0 ls h4
   refine ⟨?_, by simpa using h6⟩
   have hd' : dOk N o.dst = true := by
    cases hdst : o.dst with
    | none => rfl
    | some d => simpa [dOk, hdst] using hd d hdst
   simp [rlOsY, h1, h2, hd', h5]
theorem rlOsY_quiet {ops : Array Oper} : ∀ (os : List Oper) (ls0 ls : List LOper), rlOsY P ops N os ls0 = some ls → (∀ l ∈ ls, quietOp l.op = true) → rlOs P ops N os ls0 = some ls
 | [], ls0, ls, h, _ => by
  cases ls0 with
  | nil => simpa [rlOsY, rlOs] using h
  | cons _ _ => simp [rlOsY] at h
 | o :: os, ls0, ls, h, hq => by
  cases ls with
  | nil => have := rlOsY_nil h; cases this
  | cons l ls =>
   obtain ⟨l0, r0, op, g, rfl, h1, h2, hd, rfl, h4⟩ := rlOsY_cons h
   have h5 := rlOsY_quiet os r0 ls h4 (fun l hl => hq l (yE _ hl))
   have hd' : dOk N o.dst = true := by
    cases hdst : o.dst with
    | none => rfl
    | some d => simpa [dOk, hdst] using hd d hdst
   have h1' : rl P o.op l0.op = some op := by
    rcases rlY_cases h1 with ⟨f, c, hl, _, _⟩ | h1
    ·have := hq _ yG
     rw [hl] at this
     simp [quietOp] at this
    ·exact h1.1
   simp [rlOs, h1', h2, hd', h5]
theorem aOpsY_quiet {cx : Cx} : ∀ (l1 l2 : List LOper) (s : St) (K : St → Prop), (∀ l ∈ l1, quietOp l.op = true) → aOpsY cx (l1 ++ l2) s K = aOps cx l1 s fun s' => aOpsY cx l2 s' K
 | [], _, _, _, _ => rfl
 | o :: r, l2, s, K, hq => by
  simp only [List.cons_append, aOps, aOpsY]
  have : aOperY cx o = aOper cx o := by
   funext s K
   unfold aOperY
   split
   ·rename_i f xs hop
    have := hq o yG
    rw [hop] at this
    simp [quietOp] at this
   ·rfl
  rw [this]
  congr 1
  funext s'
  exact aOpsY_quiet r l2 s' K (fun l hl => hq l (yE _ hl))
theorem yreg_in (hP : P.follows .mixedOrders = true) {cx : Cx} (hcx : cx.ok P) (hy : ∀ k, YOk P ρ0 X w0 cx.fx k (cx.y k)) {ops : Array Oper} {id : Nat} {Q : Exit → Act → World → Prop} (hQo : ¬ LetsOut Q) {K : St → Prop}
  (hQ : ∀ s a w, K s → Good ρ0 X w0 cx.fx N s a w → Q .normal a w) {m : Nat} {ls0 ls : List LOper} {s : St} {a : Act} {w : World} (hm : rlOsY P ops N ops.toList ls0 = some ls) (hq : (ls.take m).all (fun l => quietOp l.op) = true)
  (hB : Region.lexTailB .any ops m = true) (hg : Good ρ0 X w0 cx.fx N s a w) (h : aOpsY cx ls s K) : (Code.region id ops true).wpIn (FR none) 0 P Q a w := by
 obtain ⟨ρ, hpre, ⟨hr, he⟩, hN, hdf⟩ := Good.drew hg
 obtain ⟨h1, h2⟩ := rlOsY_split m _ _ _ hm
 have hqs : ∀ l ∈ ls.take m, quietOp l.op = true := fun l hl => yH.1 hq l hl
 have hops : ops = ops.toList.toArray := by simp
 refine wpIn_region_any hP ?_
 rw [← List.take_append_drop m ls, aOpsY_quiet _ _ _ _ hqs] at h
 have hst : wpStill P ops { w with drawn := w.drawn + 1 } (fun a' => wpListIn (FR none) 0 P ops Q (ops.toList.drop m) a' { w with drawn := w.drawn + 1 }) (ops.toList.take m) a := by
  refine wpStill_of (fx := cx.fx) (cx := cx) (ρ := ρ) (K := fun s' => aOpsY cx (ls.drop m) s' K) ?_ _ _ _ s a (rlOsY_quiet _ _ _ h1 hqs) hqs hr hpre.2 he hN rfl h
  intro s' a' hK he' hN' hdf' hr' hk'
  exact aOpsY_sound hcx hy hQ _ _ _ s' a' _ h2 ⟨ρ, ⟨hpre.1, hk'⟩, ⟨hr', he'⟩, hN', by rw [hdf']; exact hdf⟩ hK
 simp only [Region.lexTailB, yB, decide_eq_true_eq] at hB
 obtain ⟨⟨⟨⟨hsel, hn⟩, hs⟩, hc⟩, hlex⟩ := hB
 have htl : (ops.toList.take m).length = m := by simp; omega
 have hdl : (ops.toList.drop m).length = ops.size - m := by simp
 have inv0 : HeadInv .any ops m (yO ops.size false) :=
  ⟨by simp, fun j oj _ hl => (by rw [getD_replicate_false] at hl; cases hl), fun t _ ht => getD_in (by simpa using ht) (getD_replicate_false _ _)⟩
 have H := wpAnyL_lex (md := .any) (g := ops.size - m) hsel hs hc hn (ops.toList.take m) 0 _ a (fun j hj => by
  have hj' : j < m := by rw [htl] at hj; exact hj
  simp [hj']) (by simpa using htl) inv0 (by rw [htl]; exact hlex) hst
 have := anyIn_of_head (P := P) (Q := Q) hQo (g := ops.size - m) (fun listed a' hL => by
  have := anyIn_of_seq (P := P) (r := none) (md := .any) (Q := Q) (ops.toList.drop m) m listed a' { w with drawn := w.drawn + 1 } (fun j => by simp [List.getElem?_drop]) (by rw [hdl]; exact hL.1) hL.2
  rwa [hdl] at this) _ _ _ H
 rw [htl, show m + (ops.size - m) = ops.size by omega] at this
 exact this
end
end Go.Fx
namespace Go.Fx
open Go.RowKit
section
variable {P : Program} {X : Nat → Prop} {N : Nat}
def SndA (P : Program) (X : Nat → Prop) (N : Nat) (c : Code) (rd : Prop) (A : Cx → (St → Prop) → (Nat → St → Prop) → (St → Prop) → St → Prop) : Prop :=
 ∀ (r : Option Nat) (cx : Cx) (ρ0 : Nat → Loc) (w0 : World), cx.ok P → (r = none ∨ rd) → ROk r cx ρ0 → (∀ k, YOk P ρ0 X w0 cx.fx k (cx.y k)) →
  ∀ (Q : Exit → Act → World → Prop) (Nn : St → Prop) (Xx : Nat → St → Prop) (Rr : St → Prop), ¬ LetsOut Q →
   (∀ s a w, Nn s → Good ρ0 X w0 cx.fx N s a w → Q .normal a w) → (∀ j s a w, Xx j s → Good ρ0 X w0 cx.fx N s a w → Q (.exit j) a w) → (∀ s a w, Rr s → Good ρ0 X w0 cx.fx N s a w → Q .ret a w) →
   ∀ s a w, A cx Nn Xx Rr s → Good ρ0 X w0 cx.fx N s a w → c.wpIn (FR r) 0 P Q a w
def SndC (P : Program) (X : Nat → Prop) (N : Nat) (c : Code) : Prop :=
 ∀ (l0 l : LCode), rlC P N c l0 = some l → SndA P X N c (codeRd c = true ∧ inRd l = true) (fun cx => aw cx l)
theorem YOk_none {ρ0 : Nat → Loc} {w0 : World} {fx : List Nat} {k : Nat} : YOk P ρ0 X w0 fx k (fun _ _ _ => False) := fun _ _ _ _ _ _ _ _ _ _ _ _ h => h.elim
theorem Good.rcd {ρ0 : Nat → Loc} {w0 : World} {fx : List Nat} {s : St} {a : Act} {w : World} {k : Nat} {t t' : RS} {e : Env} (hg : Good ρ0 X w0 fx N s a w) (hk : k ∈ fx) (hb : s.h[k]? = some (.rcd t e)) (hreal : (ρ0 k).real = true) {o : Obj}
  (ho : recOk (w.putObj (ρ0 k).blk o) (ρ0 k) t') : Good ρ0 X w0 fx N { s with h := s.h.set k (.rcd t' e) } a (w.putObj (ρ0 k).blk o) := by
 obtain ⟨ρ, ⟨⟨hf, h1⟩, hkp⟩, ⟨hr, he⟩, h5, h5m⟩ := hg
 have hρ := h1 k hk
 rw [← hρ] at ho hreal ⊢
 have hf1 := putObj_fr (w := w) hreal o
 refine ⟨ρ, ⟨⟨hf.trans hf1, h1⟩, keepP_mono hkp (live_set (by simp))⟩, ⟨rec_turn hr hb hreal ho, RepE_mono hf1 (fun _ _ => rfl) he⟩, h5, h5m.fr hf1⟩
theorem round_okA {asg body : Code} {rda rdb : Prop} {Aa Ab : Cx → (St → Prop) → (Nat → St → Prop) → (St → Prop) → St → Prop} (ha : SndA P X N asg rda Aa) (hb : SndA P X N body rdb Ab) (hra : rda) (hrb : rdb)
  {cx : Cx} (hcx : cx.ok P) {ρ1 : Nat → Loc} {w1 : World} {n : Nat} {fx : List Nat} (hcf : cx.fx = fx) {lp : Loop} {l : Nat} (hn : ρ1 n = ⟨true, l, 0, 0, 0, lp⟩) {ps : Array Tmp} (hlp : lp.params = ps ∧ lp.assign = asg ∧ lp.body = body)
  (hps : ∀ p ∈ ps.toList, p < N) (hsz : lp.tmps.size = N) :
  YOk P ρ1 X w1 (n :: fx) n (fun xs sI K => rcdK sI.h n fun t e => t = .ready ∧ xs.length = ps.toList.length ∧
     Aa { cx with fx := sI.h.length :: n :: cx.fx, y := fun _ _ _ _ => False, rk := some n }
      (begRd n fun s1 => Ab { cx with fx := sI.h.length :: n :: cx.fx, y := fun _ _ _ _ => False, rk := some n }
       (endRd n sI.h.length sI.b K true .ready) (fun j => endRd n sI.h.length sI.b K false (.out (some j))) (endRd n sI.h.length sI.b K false (.out none)) s1)
      (fun _ _ => False) (fun _ => False) ⟨setPs ps.toList xs e, sI.h ++ [.rcd .ghost sI.e], sI.b⟩) := by
 subst hcf
 intro ρ w s tmps xs vals K hfr hkp hr he hx h
 obtain ⟨t, e, hbn, rfl, hlen, h⟩ := rcdK_inv h
 have hρn : ρ n = ⟨true, l, 0, 0, 0, lp⟩ := (hfr.2 n yG).trans hn
 have hB := hr.blk n _ hbn
 simp only [RepB, hρn] at hB
 have hl : w.heap[l]? = some (.loop { lp with state := .ready, pending := none }) := hB.1.2
 have hnl : n < s.h.length := (yD.1 hbn).1
 have hvl := RepL_len hx
 rw [hρn]
 have hy := run_yield (P := P) (args := vals.toArray) hl (by simp [hlp.1]; simpa [← hvl] using hlen)
 refine ⟨_, _, _, _, hy, ?_⟩
 simp only [hlp.2.1, hlp.2.2]
 -- what is kept of the iterator's frame
 obtain ⟨ρ2, f2, f2', o2, ag2, hr2, ht2⟩ := new_ghost hr he
 have hρ2n : ρ2 n = ⟨true, l, 0, 0, 0, lp⟩ := by rw [o2 n (by omega)]; exact hρn
 have hzip : (Array.zip lp.params vals.toArray).foldl (fun tmps (t, a) => tmps.setIfInBounds t a) lp.tmps = (ps.toList.zip vals).foldl (fun t (p, v) => t.setIfInBounds p v) lp.tmps := by
  rw [hlp.1, ← Array.foldl_toList]; simp [Array.toList_zip]
 show RoundIn Fence.wide 0 P l lp.fn ((Array.zip lp.params vals.toArray).foldl (fun tmps (t, a) => tmps.setIfInBounds t a) lp.tmps) asg body w _
 rw [hzip]
 refine roundIn_of_wpIn trivial ?_
 have hgood : Good ρ2 X w (s.h.length :: n :: cx.fx) N ⟨setPs ps.toList xs e, s.h ++ [.rcd .ghost s.e], s.b⟩ { tmps := (ps.toList.zip vals).foldl (fun t (p, v) => t.setIfInBounds p v) lp.tmps, defers := [] } w := by
  refine ⟨ρ2, ⟨⟨Fr.refl _ _, fun _ _ => rfl⟩, keepP_mk fun j hj => ?_⟩, ⟨hr2, ?_⟩, ?_, Marks.nil⟩
  ·rcases yP.1 hj with rfl | hj
   ·simp [liveP]
   ·have := keepP_get hkp j hj
    unfold liveP at this ⊢
    cases hb : s.h[j]? with
    | none => rw [hb] at this; exact this.elim
    | some B => rw [yM (yD.1 hb).1, hb]; rw [hb] at this; exact this
  ·refine setPs_get _ _ _ _ _ (fun p hp => by rw [hsz]; exact hps p hp) hlen (RepL_mono f2 ag2 _ _ hx) (RepE_mono f2 ag2 hB.2)
  ·rw [foldl_size]; exact hsz
 have hcx' : Cx.ok { cx with fx := s.h.length :: n :: cx.fx, y := fun _ _ _ _ => False, rk := some n } P := hcx
 have hro : ROk (some l) { cx with fx := s.h.length :: n :: cx.fx, y := fun _ _ _ _ => False, rk := some n } ρ2 := ⟨by simp, by rw [hρ2n]⟩
 have hgo : ∀ (b : Bool) (t' : RS) (j : Option Code) (s2 : St) (a2 : Act) (w2 : World), endRd n s.h.length s.b K b t' s2 → Good ρ2 X w (s.h.length :: n :: cx.fx) N s2 a2 w2 →
   (∀ w', w'.heap[l]? = some (.loop { lp with state := if j.isNone then .ready else .done, pending := j }) → recOk w' ⟨true, l, 0, 0, 0, lp⟩ t') → t' ≠ .ghost → b = j.isNone →
   ∃ v w', (Instr.endRound l j).run P w2 = .ok v w' ∧ ∃ val, Ending.returned v = .returned val ∧ Sound (n :: cx.fx) [] ρ X w tmps K val w' := by
  intro b t' j s2 a2 w2 hend hg2 hrec hgh hbj
  obtain ⟨t2, e2, hb2, rfl, hend⟩ := rcdK_inv hend
  obtain ⟨t3, eI, hb3, rfl, hK⟩ := rcdK_inv hend
  have hg2' := hg2
  obtain ⟨ρ3, ⟨⟨g1, g2⟩, g3⟩, ⟨g4, g5⟩, g6⟩ := hg2
  have h3n : ρ3 n = ⟨true, l, 0, 0, 0, lp⟩ := (g2 n (by simp)).trans hρ2n
  have hB2 := g4.blk n _ hb2
  simp only [RepB, h3n] at hB2
  have hl2 : w2.heap[l]? = some (.loop { lp with state := .busy, pending := none }) := hB2.1.2
  have hrun := run_endRound (P := P) j hl2
  refine ⟨_, _, hrun, _, rfl, ?_⟩
  have hput : ∀ o : Obj, (w2.putObj (ρ3 n).blk o).heap[(ρ3 n).blk]? = some o := fun o => putObj_same (by rw [h3n]) g4 o
  have hwb : (ρ3 n).blk = l := by rw [h3n]
  generalize ho : Obj.loop { ({ lp with state := .busy, pending := none } : Loop) with state := if j.isNone then .ready else .done, pending := j } = o
  have hf3 : Fr ρ3 w2 ρ3 (w2.putObj l o) := by have := putObj_fr (w := w2) (k := n) (ρ := ρ3) (by rw [h3n]) o; rwa [hwb] at this
  have hr3 : Rep ρ3 X (w2.putObj l o) (s2.h.set n (.rcd t' e2)) := by
   have := rec_turn g4 hb2 (by rw [h3n]) (o := o) (t' := t') (by
    rw [h3n]; exact hrec _ (by have := hput o; rw [hwb] at this; rw [this, ← ho]))
   rwa [hwb] at this
  have hne : s.h.length ≠ n := by omega
  have hb3' : (s2.h.set n (.rcd t' e2))[s.h.length]? = some (.rcd .ghost eI) := by rw [yI (Ne.symm hne)]; exact hb3
  have hBg := hr3.blk _ _ hb3'
  simp only [RepB] at hBg
  have h3g : ρ3 s.h.length = ρ2 s.h.length := g2 _ (by simp)
  have hdead : Rep ρ3 X (w2.putObj l o) ((s2.h.set n (.rcd t' e2)).set s.h.length .dead) := by
   refine ⟨hr3.inj, fun k hk => hr3.out k (by simpa using hk), fun k B hB => ?_, hr3.disj, hr3.lt, hr3.xlt⟩
   by_cases hkn : k = s.h.length
   ·subst hkn
    rw [yS (yD.1 hb3').1] at hB
    simp only [yA] at hB
    subst hB
    exact hBg.1
   ·rw [yI (Ne.symm hkn)] at hB
    exact hr3.blk k B hB
  subst hbj
  refine ⟨.b j.isNone, _, ρ3, hK, ⟨keepP_mk fun k hk => ?_, fun k hk => ?_, fun k hk => by simp at hk⟩, (f2.trans g1).trans hf3, hdead, ?_, rfl⟩
  ·have hlk := keepP_get g3 k (yE _ hk)
   have hkl := keepP_get hkp k hk
   have hks : k ≠ s.h.length := by
    intro e
    unfold liveP at hkl
    rw [e, vC (yF _)] at hkl
    exact hkl
   have := live_set (B := Blk.rcd t' e2) (k := n) (by simp) k hlk
   unfold liveP at this ⊢
   rw [yI (Ne.symm hks)]
   exact this
  ·have hkl := keepP_get hkp k hk
   have hks : k ≠ s.h.length := by
    intro e
    unfold liveP at hkl
    rw [e, vC (yF _)] at hkl
    exact hkl
   rw [g2 k (yE _ hk), o2 k hks]
  ·have := hBg.2
   rw [h3g, ht2] at this
   exact this
 refine ha (some l) _ ρ2 w hcx' (.inr hra) hro (fun _ => YOk_none) _ _ _ _ (fun ⟨a, w, hq⟩ => hq) ?_ (fun _ _ _ _ h _ => h.elim) (fun _ _ _ h _ => h.elim) _ _ _ h hgood
 intro s1 a1 wA hbeg hg1
 obtain ⟨t1, e1, hb1, rfl, hbody⟩ := rcdK_inv hbeg
 have hl1 : wA.heap[l]? = some (.loop { lp with state := .ready, pending := none }) := by
  obtain ⟨ρ3, ⟨⟨g1, g2⟩, g3⟩, ⟨g4, g5⟩, g6⟩ := hg1
  have h3n : ρ3 n = ⟨true, l, 0, 0, 0, lp⟩ := (g2 n (by simp)).trans hρ2n
  have hB2 := g4.blk n _ hb1
  simp only [RepB, h3n] at hB2
  exact hB2.1.2
 refine ⟨_, run_beginRound hl1 rfl, ?_⟩
 have hlt : l < wA.heap.size := (vD.1 hl1).1
 have hgB := hg1.rcd (t' := .busy) (k := n) (by simp) hb1 (by rw [hρ2n]) (o := .loop { lp with state := .busy, pending := none }) (by
  rw [hρ2n]; exact ⟨⟨rfl, rfl, rfl⟩, World.putObj_heap_same hlt⟩)
 rw [hρ2n] at hgB
 refine hb (some l) _ ρ2 w hcx' (.inr hrb) hro (fun _ => YOk_none) (roundPost P l _) _ _ _ (fun ⟨a, w, hq⟩ => hq) ?_ ?_ ?_ _ _ _ hbody hgB
 ·intro s2 a2 w2 hend hg2
  exact hgo true .ready none s2 a2 w2 hend hg2 (fun w' hw' => ⟨⟨rfl, rfl, rfl⟩, hw'⟩) (by simp) rfl
 ·intro j s2 a2 w2 hend hg2
  exact hgo false (.out (some j)) (some (.exit j)) s2 a2 w2 hend hg2 (fun w' hw' => ⟨⟨rfl, rfl, rfl⟩, hw'⟩) (by simp) rfl
 ·intro s2 a2 w2 hend hg2
  exact hgo false (.out none) (some .ret) s2 a2 w2 hend hg2 (fun w' hw' => ⟨⟨rfl, rfl, rfl⟩, hw'⟩) (by simp) rfl
end
end Go.Fx
namespace Go.Fx
open Go.RowKit
section
variable {P : Program} {X : Nat → Prop} {N : Nat}
theorem rfn_okA {g : Operand} {ps : Array Tmp} {asg body : Code} {rda rdb : Prop} {Aa Ab : Cx → (St → Prop) → (Nat → St → Prop) → (St → Prop) → St → Prop} (ha : SndA P X N asg rda Aa) (hb : SndA P X N body rdb Ab) (hra : rda) (hrb : rdb)
  (hps' : ∀ p ∈ ps.toList, p < N) : SndA P X N (.rangeFunc g ps asg body) True (fun cx Nn Xx Rr s =>
  match ev s.e g with
  | .clo gf caps => inRdP cx.rk s.h ∧ cx.it gf (.itr s.h.length :: caps) (s.h.length :: cx.fx) s.h.length
    (fun xs sI K => rcdK sI.h s.h.length fun t e => t = .ready ∧ xs.length = ps.toList.length ∧
     Aa { cx with fx := sI.h.length :: s.h.length :: cx.fx, y := fun _ _ _ _ => False, rk := some s.h.length }
      (begRd s.h.length fun s1 => Ab { cx with fx := sI.h.length :: s.h.length :: cx.fx, y := fun _ _ _ _ => False, rk := some s.h.length }
       (endRd s.h.length sI.h.length sI.b K true .ready) (fun j => endRd s.h.length sI.h.length sI.b K false (.out (some j))) (endRd s.h.length sI.h.length sI.b K false (.out none)) s1)
      (fun _ _ => False) (fun _ => False) ⟨setPs ps.toList xs e, sI.h ++ [.rcd .ghost sI.e], sI.b⟩)
    (s.h ++ [.rcd .ready s.e]) (endLp s.h.length Nn Xx Rr)
  | _ => False) := by
 intro r cx ρ0 w0 hcx hrd hro hy Q Nn Xx Rr hQo hN hX hR s a w h hg
 split at h
 ·rename_i gf caps hev
  obtain ⟨hrk, hit⟩ := h
  obtain ⟨hcall, hiter⟩ := hcx.2 _ _ _ _ _ _ _ hit
  obtain ⟨ρ, ⟨⟨hf, hfx⟩, hkp⟩, ⟨hr, he⟩, hsz, hM⟩ := hg
  have hgv := ev_rep he g
  rw [hev] at hgv
  obtain ⟨arr, hgv, hcaps⟩ := hgv
  have hrd0 : ∀ l0, r = some l0 → ∃ r0, w.heap[l0]? = some (.loop r0) := by
   rintro l0 rfl
   unfold ROk at hro
   split at hro
   ·rename_i h1 _; cases h1
   ·rename_i l1 k h1 h2
    simp only [yA] at h1
    subst h1
    rw [h2] at hrk
    obtain ⟨t, e, hb1, rfl⟩ := rcdK_inv hrk
    have hB := hr.blk k _ hb1
    simp only [RepB] at hB
    rw [hfx k hro.1] at hB
    exact ⟨_, by rw [← hro.2]; exact hB.1.2⟩
   ·exact hro.elim
  refine wpIn_rangeFunc ?_
  intro fn _
  obtain ⟨l, mark, w1, lp, ρ1, hen, hlp, f1, o1, ag1, hr1, hn1, hM1⟩ := enter_ok hr hf.size hM r hrd0 fn a.tmps ps asg body he
  refine ⟨l, mark, w1, { target := .fn (.func gf) arr, args := #[.func (.yield l) #[] #[]] }, w1, gf, #[.func (.yield l) #[] #[]] ++ arr, w1, hen, ?_, fun _ _ => trivial, ?_, fun h => (by cases h), ?_⟩
  ·simp only [resolve, hgv]
   simp [go_sem]
  ·simp [invoke, go_sem, callFunc_run hcall]
  ·refine callsFR ?_
   have hkp1 : keepP (s.h.length :: cx.fx) (s.h ++ [.rcd .ready s.e]) := keepP_mk fun j hj => by
    rcases yP.1 hj with rfl | hj
    ·simp [liveP]
    ·have := keepP_get hkp j hj
     unfold liveP at this ⊢
     cases hb : s.h[j]? with
     | none => rw [hb] at this; exact this.elim
     | some B => rw [yM (yD.1 hb).1, hb]; rw [hb] at this; exact this
   have hargs : RepL ρ1 X w1 (.itr s.h.length :: caps) ((Value.func (.yield l) #[] #[]) :: arr.toList) := ⟨⟨by rw [hn1], by rw [hn1]⟩, RepL_mono f1 ag1 _ _ hcaps⟩
   have hyok := round_okA (w1 := w1) ha hb hra hrb hcx rfl hn1 ⟨hlp.2.2.1, hlp.2.2.2.1, hlp.2.2.2.2⟩ hps' (by rw [hlp.2.1]; exact hsz)
   have hcalls := hiter ρ1 X w1 _ hr1 hargs hkp1 hyok
   have hvals : ((Value.func (.yield l) #[] #[]) :: arr.toList).toArray = #[.func (.yield l) #[] #[]] ++ arr := by apply Array.ext'; simp
   rw [hvals] at hcalls
   refine hcalls.mono ?_
   rintro e w2 ⟨val, h', ρ2, rfl, hK, ⟨f2, hr2⟩, hfx2, hkp2⟩
   obtain ⟨t, e', hbn, ⟨hwf1, hwf2⟩, hK⟩ := rcdK_inv hK
   have h2n : ρ2 s.h.length = ⟨true, l, 0, 0, 0, lp⟩ := (hfx2 _ yG).trans hn1
   have hB := hr2.blk _ _ hbn
   simp only [RepB, h2n] at hB
   -- behind the iterator: the record is spent
   have fin : ∀ (j : Option Code) (rr : Loop), w2.heap[l]? = some (.loop rr) → rr.state ≠ .busy → rr.pending = j →
     (Instr.endLoop l).run P w2 = .ok j (w2.putObj l (.loop { rr with state := .exhausted })) ∧
     Good ρ0 X w0 cx.fx N ⟨e', h'.set s.h.length .dead, 0⟩ { a with defers := mark ++ a.defers } (w2.putObj l (.loop { rr with state := .exhausted })) := by
    intro j rr hrr hnb hj
    refine ⟨by rw [← hj]; exact run_endLoop hrr hnb, ?_⟩
    have hreal : (ρ2 s.h.length).real = true := by rw [h2n]
    have hblk : (ρ2 s.h.length).blk = l := by rw [h2n]
    have hf3 := putObj_fr (w := w2) (k := s.h.length) (ρ := ρ2) hreal (.loop { rr with state := .exhausted })
    have hr3 := rec_turn (t' := .gone) hr2 hbn hreal (o := .loop { rr with state := .exhausted }) (by
     rw [h2n]; exact ⟨⟨rfl, rfl, rfl⟩, _, World.putObj_heap_same (vD.1 hrr).1⟩)
    rw [hblk] at hf3 hr3
    have hfx' : ∀ k ∈ cx.fx, k ≠ s.h.length := by
     intro k hk e
     have := keepP_get hkp k hk
     unfold liveP at this
     rw [e, vC (yF _)] at this
     exact this
    have hkp3 : keepP cx.fx (h'.set s.h.length (.rcd .gone e')) := keepP_mono (keepP_mk fun k hk => keepP_get hkp2 k (yE _ hk)) (live_set (by simp))
    have hg3 : Good ρ0 X w0 cx.fx N ⟨e', h'.set s.h.length (.rcd .gone e'), 0⟩ { a with defers := mark ++ a.defers } (w2.putObj l (.loop { rr with state := .exhausted })) := by
     refine ⟨ρ2, ⟨⟨hf.trans (f1.trans (f2.trans hf3)), fun k hk => ?_⟩, hkp3⟩, ⟨hr3, ?_⟩, hsz, (hM1.fr f2).fr hf3⟩
     ·rw [hfx2 k (yE _ hk), o1 k (hfx' k hk), hfx k hk]
     ·have := RepE_mono hf3 (fun _ _ => rfl) hB.2
      rw [hlp.2.1] at this
      exact this
    refine hg3.leH (leH_dead _ _ _) ?_ hwf1 hwf2
    exact keepP_mk fun k hk => by
     have := keepP_get hkp3 k hk
     unfold liveP at this ⊢
     rw [yI (Ne.symm (hfx' k hk))] at this ⊢
     exact this
   cases t with
   | ready =>
    obtain ⟨h1, h2⟩ := fin none _ hB.1.2 (by simp) rfl
    exact ⟨none, _, h1, hN _ _ _ hK h2⟩
   | out j =>
    cases j with
    | none =>
     obtain ⟨h1, h2⟩ := fin (some .ret) _ hB.1.2 (by simp) rfl
     exact ⟨some .ret, _, h1, wpIn_ret (hR _ _ _ hK h2)⟩
    | some j =>
     obtain ⟨h1, h2⟩ := fin (some (.exit j)) _ hB.1.2 (by simp) rfl
     exact ⟨some (.exit j), _, h1, wpIn_exit (hX _ _ _ _ hK h2)⟩
   | ghost => exact hK.elim
   | busy => exact hK.elim
   | gone => exact hK.elim
 ·exact h.elim
theorem rfn_ok {g : Operand} {ps : Array Tmp} {asg body : Code} (ha : SndC P X N asg) (hb : SndC P X N body) : SndC P X N (.rangeFunc g ps asg body) := by
 intro l0 l hm r cx ρ0 w0 hcx hrd hro hy Q Nn Xx Rr hQo hN hX hR s a w h hg
 cases l0 with
 | rfn g' ps' la0 lb0 =>
  simp only [rlC] at hm
  split at hm
  ·rename_i la lb hma hmb
   split at hm
   ·rename_i hc
    simp only [yB] at hc
    simp only [yA] at hm
    subst hm
    obtain ⟨⟨hps, hcd⟩, hin⟩ := hc
    have hps' : ∀ p ∈ ps.toList, p < N := fun p hp => by simpa using yH.1 hps p hp
    exact rfn_okA (ha la0 la hma) (hb lb0 lb hmb) ⟨(by simpa using hcd : _ ∧ _).1, (by simpa using hin : _ ∧ _).1⟩ ⟨(by simpa using hcd : _ ∧ _).2, (by simpa using hin : _ ∧ _).2⟩ hps' r cx ρ0 w0 hcx (hrd.imp id fun _ => trivial) hro hy Q Nn Xx Rr hQo hN hX hR s a w h hg
   ·cases hm
  ·cases hm
 | _ => simp [rlC] at hm
end
end Go.Fx
namespace Go.Fx
open Go.RowKit
section
variable {P : Program} {md : Region.Mode} {ops : Array Oper} {Q : Exit → Act → World → Prop} {Γ : Type} {G : Nat → Γ → World → Γ → World → Prop} {L : Array Bool → Act → World → Prop} {m : Nat}
def wpAnyGT (P : Program) (md : Region.Mode) (ops : Array Oper) (Q : Exit → Act → World → Prop) (L : Array Bool → Act → World → Prop) (G : Nat → Γ → World → Γ → World → Prop) : Nat → Array Bool → Γ → Act → World → Prop
 | 0, listed, _, a, w => L listed a w
 | fuel + 1, listed, g, a, w =>
  Region.ready md ops listed ≠ [] ∧
  ∀ i ∈ Region.ready md ops listed, wpOp P ops Q i (fun a' w' => ∃ g', G i g w g' w' ∧ wpAnyGT P md ops Q L G fuel (listed.setIfInBounds i true) g' a' w') a w
theorem anyIn_of_GT (hQ : ¬ LetsOut Q) {n : Nat} (hL : ∀ listed a w, L listed a w → wpAnyIn (FR none) 0 P md ops Q n listed a w) : ∀ (fuel : Nat) (listed : Array Bool) (g : Γ) (a : Act) (w : World),
  wpAnyGT P md ops Q L G fuel listed g a w → wpAnyIn (FR none) 0 P md ops Q (fuel + n) listed a w
 | 0, listed, _, a, w, h => by rw [Nat.zero_add]; exact hL _ _ _ h
 | f + 1, listed, g, a, w, h => by
  rw [show f + 1 + n = (f + n) + 1 by omega]
  exact ⟨fun h0 => absurd h0 h.1, fun i hi => wpOpIn_mono (fun a' w' ⟨g', _, h'⟩ => anyIn_of_GT hQ hL f _ g' a' w' h') (opIn (.inl rfl) hQ (h.2 i hi))⟩
theorem wpAnyGT_weak {g g2 : Γ} {w : World} (h : ∀ i g' w', G i g2 w g' w' → G i g w g' w') : ∀ (fuel : Nat) (listed : Array Bool) (a : Act), wpAnyGT P md ops Q L G fuel listed g2 a w → wpAnyGT P md ops Q L G fuel listed g a w
 | 0, _, _, hh => hh
 | _ + 1, _, _, hh => ⟨hh.1, fun i hi => wpOp_mono (fun _ w' ⟨g', h1, h2⟩ => ⟨g', h i g' w' h1, h2⟩) (hh.2 i hi)⟩
theorem wpAnyGT_first (hL : ∀ listed a w, L listed a w → Region.ready md ops listed = [m]) {i : Nat} {oi : Oper} {v : Value} (hi : ops[i]? = some oi) (hsel : ∀ (j : Nat) (o : Oper) cs b, ops[j]? = some o → o.op ≠ .select cs b)
  (hQ : ∀ c a w, Q (.panic c) (a.put oi.dst v) w → Q (.panic c) a w) {D : Nat → Prop} (hmD : D m) (hD : ∀ j oj, D j → ops[j]? = some oj → ∃ e ∈ oj.after, Region.binds md e = true ∧ (e.on = i ∨ D e.on))
  {Inv : Γ → World → Prop} (hGi : ∀ g w, Inv g w → G i g w g w) :
  ∀ (fuel : Nat) (listed : Array Bool) (g : Γ) (a : Act) (w : World),
   (∀ j oj, ops[j]? = some oj → j ≠ i → listed.getD j true = false → (∀ e ∈ oj.after, Region.binds md e = true → e.on ≠ i) → oi.apart ops oj = true) →
   (∀ j, D j → listed.getD j false = false) →
   (∀ j oj, ops[j]? = some oj → j ≠ i → ¬ D j → listed.getD j true = false → ∀ g w g' w', G j g w g' w' → Inv g w → Inv g' w') →
   i ∈ Region.ready md ops listed → YieldsIf P ops (fun w => ∃ g, Inv g w) oi v a → Inv g w →
   wpAnyGT P md ops Q L G fuel (listed.setIfInBounds i true) g (a.put oi.dst v) w → wpAnyGT P md ops Q L G (fuel + 1) listed g a w := by
 intro fuel
 induction fuel with
 | zero =>
  intro listed g a w hfree hun _ hr hy hS H
  refine ⟨fun h => (by rw [h] at hr; cases hr), fun j hj => ?_⟩
  by_cases hji : j = i
  ·subst hji; exact hy.wpOp hi ⟨g, hS⟩ ⟨g, hGi g w hS, H⟩
  ·exfalso
   have hjm := ready_mono hj hji
   rw [hL _ _ _ H] at hjm
   obtain rfl : j = m := by simpa using hjm
   obtain ⟨hjun, oj, hoj, hall⟩ := mem_ready.1 hj
   have hiun : listed.getD i false = false := by
    have h0 := (mem_ready.1 hr).1
    rcases yT i listed.size with h' | h'
    ·simpa [h'] using h0
    ·simp [vL h']
   obtain ⟨e, he, hb, h2⟩ := hD j oj hmD hoj
   have h3 := hall e he hb
   rcases h2 with h2 | h2
   ·rw [h2, hiun] at h3; cases h3
   ·rw [hun _ h2] at h3; cases h3
 | succ fuel ih =>
  intro listed g a w hfree hun hinv hr hy hS H
  refine ⟨fun h => (by rw [h] at hr; cases hr), fun j hj => ?_⟩
  by_cases hji : j = i
  ·subst hji; exact hy.wpOp hi ⟨g, hS⟩ ⟨g, hGi g w hS, H⟩
  ·have h1 := H.2 j (ready_mono hj hji)
   obtain ⟨hjun, oj, hoj, hall⟩ := mem_ready.1 hj
   have hiun : listed.getD i false = false := by
    have h0 := (mem_ready.1 hr).1
    rcases yT i listed.size with h' | h'
    ·simpa [h'] using h0
    ·simp [vL h']
   have hnot : ∀ e ∈ oj.after, Region.binds md e = true → e.on ≠ i := fun e he hb heq => by
    have h1 := hall e he hb
    rw [heq, hiun] at h1
    cases h1
   have hnD : ¬ D j := fun hd => by
    obtain ⟨e, he, hb, h2⟩ := hD j oj hd hoj
    have h3 := hall e he hb
    rcases h2 with h2 | h2
    ·rw [h2, hiun] at h3; cases h3
    ·rw [hun _ h2] at h3; cases h3
   have h2 := wpOp_putIf hoj (hfree j oj hoj hji hjun hnot) (fun cs b => hsel i oi cs b hi) (fun cs b => hsel j oj cs b hoj) hQ hy h1
   have hset : ∀ k, (listed.setIfInBounds j true).getD k true = false → listed.getD k true = false := fun k hk => by
    by_cases hjk : j = k
    ·subst hjk; exact hjun
    ·rw [getD_set_ne true hjk] at hk; exact hk
   have hfree' : ∀ k ok, ops[k]? = some ok → k ≠ i → (listed.setIfInBounds j true).getD k true = false →
     (∀ e ∈ ok.after, Region.binds md e = true → e.on ≠ i) → oi.apart ops ok = true := fun k ok hk hki hu hno => hfree k ok hk hki (hset k hu) hno
   have hun' : ∀ k, D k → (listed.setIfInBounds j true).getD k false = false := fun k hk => by
    have hne : j ≠ k := fun e => hnD (e ▸ hk)
    rw [getD_set_ne false hne]
    exact hun k hk
   refine wpOp_mono (fun a' w' h3 => ?_) h2
   obtain ⟨hy', g', hG, h4⟩ := h3
   refine ⟨g', hG, ih (listed.setIfInBounds j true) g' a' w' hfree' hun' (fun k ok hok hki hkD hku => hinv k ok hok hki hkD (hset k hku)) (ready_mono hr (Ne.symm hji)) hy' (hinv j oj hoj hji hnD hjun _ _ _ _ hG hS) ?_⟩
   rw [Array.setIfInBounds_comm _ _ hji]
   exact h4
end
section
variable {P : Program} {ρ0 : Nat → Loc} {X : Nat → Prop} {w0 : World} {fx : List Nat} {N : Nat} {L : Array Bool → Act → World → Prop} {m : Nat}
theorem take_stepT {cx : Cx} {ops : Array Oper} (hLT : ∀ listed a w, L listed a w → Region.ready .any ops listed = [m]) {rs : Nat → Bool} (hs : Region.noSelect ops = true) {Q : Exit → Act → World → Prop} (hQp : ∀ c a w, ¬ Q (.panic c) a w) {i : Nat} {o : Oper} {l0 op : LOp} {g : Option (Nat × Bool)} (ho : ops[i]? = some o)
  (hm : rl P o.op l0 = some op) (hg : gOk ops N o.guard = some g) (hd : dOk N o.dst = true) {listed : Array Bool} {D : List Nat} (hok : takeOk ops rs listed i D op = true) (hmD : m ∈ D)
  {bn : List Nat} {B : Nat → Prop} {ρ : Nat → Loc} {s : St} {a : Act} {w : World} (hB : BI ρ B bn w)
  (hG : GoodAt ρ0 X w0 fx N ρ s a w) {K : St → Prop} {fuel : Nat} (h : aOper cx ⟨o.dst, op, g⟩ s K)
  (hZ : ∀ B' s' a', K s' → BI ρ B' (rdB op s.e bn) w → GoodAt ρ0 X w0 fx N ρ s' a' w → wpAnyGT P .any ops Q L (GR rs) fuel (listed.setIfInBounds i true) (ρ, B') a' w) :
  wpAnyGT P .any ops Q L (GR rs) (fuel + 1) listed (ρ, B) a w := by
 obtain ⟨hpre, ⟨hrep, he⟩, hN, hdf⟩ := hG
 have hd' : ∀ n, o.dst = some n → n < N := fun n hn => by simpa [dOk, hn] using hd
 simp only [takeOk, yB] at hok
 obtain ⟨⟨⟨hready, hfree⟩, hq⟩, hDl, hres⟩ := hok
 have hready' : i ∈ Region.ready .any ops listed := by simpa using hready
 have hfr := Region.free_spec (md := .any) ho hfree
 have hDc : ∀ j oj, j ∈ D → ops[j]? = some oj → ∃ e ∈ oj.after, Region.binds .any e = true ∧ (e.on = i ∨ e.on ∈ D) := by
  intro j oj hj hoj
  have := yH.1 hDl j hj
  simp only [hoj, yB] at this
  obtain ⟨e, he, hb⟩ := Array.any_eq_true'.1 this.2
  simp only [yB, vE, beq_iff_eq, vF] at hb
  exact ⟨e, he, hb.1, hb.2⟩
 have hDu : ∀ j, j ∈ D → listed.getD j false = false := by
  intro j hj
  have := yH.1 hDl j hj
  simp only [yB, yQ] at this
  exact this.1
 have hsel := Region.noSelect_spec hs
 have free : ∀ (v : Value) (B' : Nat → Prop), (YieldsIf P ops (fun _ => True) o v a) → wpAnyGT P .any ops Q L (GR rs) fuel (listed.setIfInBounds i true) (ρ, B') (a.put o.dst v) w → wpAnyGT P .any ops Q L (GR rs) (fuel + 1) listed (ρ, B') a w := by
  intro v B' hy hh
  exact wpAnyGT_first (D := (· ∈ D)) hLT ho hsel (fun c a w h => (hQp _ _ _ h).elim) hmD hDc (Inv := fun _ _ => True) (fun g w _ => GR.refl _ _ _ _) fuel listed _ a w hfr hDu (fun _ _ _ _ _ _ _ _ _ _ _ _ => trivial) hready' (hy.imp (fun ⟨h1, h2⟩ => ⟨h1, fun w _ => h2 w trivial⟩) id) trivial hh
 rcases guard_cases hN hg he h with ⟨hw, e', hEB, he', h'⟩ | ⟨hw, e', _, he', h'⟩
 ·obtain ⟨x, val, h1, h2, h3⟩ := quiet_at (s := { s with e := e' }) hq hm hrep he' h'
  have hh : (St.put { s with e := e' } o.dst x).h = s.h := by cases o.dst <;> rfl
  have hgood : GoodAt ρ0 X w0 fx N ρ (St.put { s with e := e' } o.dst x) (a.put o.dst val) w :=
   ⟨⟨hpre.1, by rw [hh]; exact hpre.2⟩, ⟨by rw [hh]; exact hrep, RepE_put (e := e') he' h2 (fun n hn => by rw [hN]; exact hd' n hn) _ rfl⟩, by rw [size_put]; exact hN, by cases o.dst <;> exact hdf⟩
  by_cases hL : isLoad op = true
  ·have hres' : ∀ j, j ≠ i → j ∉ D → listed.getD j true = false → j < ops.size → rs j = true := by
    intro j hji hjD hjl hlt
    simp only [hL, Bool.not_true, Bool.false_or] at hres
    have := yH.1 hres j (by simpa using hlt)
    simp only [vE, beq_iff_eq, hji, false_or, vF, hjD, hjl, vG] at this
    exact this
   cases op with
   | load n p =>
    have hpv := ev_rep he' p
    cases hp : ev e' p with
    | ptr k ix f =>
     rw [hp] at hpv
     have hreal := hpv.1
     have hlt := hrep.lt k hreal
     have hrd : rdB (.load n p) s.e bn = k :: bn := by
      have : ev s.e p = .ptr k ix f := by
       rcases ev_envB hEB p with h4 | ⟨b, h4⟩
       ·rw [← h4]; exact hp
       ·rw [h4] at hp; cases hp
      simp only [rdB, this]
     have hB' : BI ρ (fun b => B b ∨ b = (ρ k).blk) (rdB (.load n p) s.e bn) w := by
      rw [hrd]
      rintro b (hb | rfl)
      ·exact ⟨(hB b hb).1, (hB b hb).2.imp (fun ⟨k', hk, hk'⟩ => ⟨k', yE _ hk, hk'⟩) id⟩
      ·exact ⟨hlt, .inl ⟨k, yG, hreal, rfl⟩⟩
     refine wpAnyGT_weak (g2 := (ρ, fun b => B b ∨ b = (ρ k).blk)) (fun j g' w' hj => ⟨hj.1, fun hr => ⟨fun b hb => (hj.2 hr).1 b (.inl hb), fun b hb => (hj.2 hr).2 b (.inl hb)⟩⟩) _ _ _ ?_
     refine wpAnyGT_first (D := (· ∈ D)) hLT ho hsel (fun c a w h => (hQp _ _ _ h).elim) hmD hDc (Inv := Inv (ρ k).blk w.heap[(ρ k).blk]?) (fun g w _ => GR.refl _ _ _ _) fuel listed _ a w hfr hDu
      (fun j oj hoj hji hjD hjl g w g' w' hG hI => Inv.step (hres' j hji hjD hjl (vD.1 hoj).1) hG hI) hready' ?_ ⟨⟨hlt, .inl (.inr rfl)⟩, rfl⟩ (hZ _ _ _ h1 hB' hgood)
     refine .inl ⟨hw, fun w' ⟨g, hI⟩ => h3 w' ?_⟩
     intro b hb
     rw [hp] at hb
     obtain ⟨_, rfl⟩ := hb
     exact fun _ => hI.2
    | rp sz els ix f =>
     have hrd : rdB (.load n p) s.e bn = bn := by
      have : ev s.e p = .rp sz els ix f := by
       rcases ev_envB hEB p with h4 | ⟨b, h4⟩
       ·rw [← h4]; exact hp
       ·rw [h4] at hp; cases hp
      simp only [rdB, this]
     refine wpAnyGT_first (D := (· ∈ D)) hLT ho hsel (fun c a w h => (hQp _ _ _ h).elim) hmD hDc (Inv := fun g w' => ∀ b, b < w.heap.size → ¬ Own ρ b → (b < w'.heap.size ∧ ¬ Own g.1 b) ∧ w'.heap[b]? = w.heap[b]?) (fun g w _ => GR.refl _ _ _ _) fuel listed _ a w hfr hDu
      (fun j oj hoj hji hjD hjl g w1 g' w2 hG hI b hb1 hb2 => ?_) hready' ?_ (fun b hb1 hb2 => ⟨⟨hb1, hb2⟩, rfl⟩) (hZ _ _ _ h1 (by rw [hrd]; exact hB) hgood)
     ·obtain ⟨⟨h4, h5⟩, h6⟩ := hI b hb1 hb2
      have h7 := hG.1.keep b h4 h5
      exact ⟨⟨yU h4 hG.1.size, h7.2⟩, h7.1.trans h6⟩
     ·refine .inl ⟨hw, fun w' ⟨g, hI⟩ => h3 w' ?_⟩
      intro b hb
      rw [hp] at hb
      exact fun _ => (hI b hb.1 hb.2).2
    | _ => exact absurd h' (by simp [aOp, hp, loadP])
   | _ => simp [isLoad] at hL
  ·have hL' : isLoad op = false := by simpa using hL
   have hrun : ∀ w', (execOp a.eval o).run P w' = .ok (.value val) w' := fun w' => h3 w' (by cases op <;> first | trivial | simp [isLoad] at hL')
   refine free val B (.inl ⟨hw, fun w' _ => hrun w'⟩) (hZ B _ _ h1 (by rw [rdB_of hL']; exact hB) hgood)
 ·have hh : (St.put { s with e := e' } o.dst (.v (.tuple #[]))).h = s.h := by cases o.dst <;> rfl
  have hgood : GoodAt ρ0 X w0 fx N ρ (St.put { s with e := e' } o.dst (.v (.tuple #[]))) (a.put o.dst undef) w :=
   ⟨⟨hpre.1, by rw [hh]; exact hpre.2⟩, ⟨by rw [hh]; exact hrep, RepE_put (e := e') (x := .v (.tuple #[])) (val := undef) he' rfl (fun n hn => by rw [hN]; exact hd' n hn) _ rfl⟩, by rw [size_put]; exact hN, by cases o.dst <;> exact hdf⟩
  have hB' : BI ρ B (rdB op s.e bn) w := fun b hb => ⟨(hB b hb).1, (hB b hb).2.imp (fun ⟨k, hk, hk'⟩ => ⟨k, by
   unfold rdB
   split
   ·split
    ·exact yE _ hk
    ·exact hk
   ·exact hk, hk'⟩) id⟩
  exact free undef B (.inr ⟨hw, rfl⟩) (hZ B _ _ h' hB' hgood)
theorem awP_soundT {cx : Cx} (hcx : cx.ok P) (hfxe : cx.fx = fx) {ops : Array Oper} {rs : Nat → Bool} (hs : Region.noSelect ops = true) {Q : Exit → Act → World → Prop} (hQp : ∀ c a w, ¬ Q (.panic c) a w) {K : St → Prop}
  (hL : ∀ listed a w, L listed a w → Region.ready .any ops listed = [m])
  (hQ : ∀ listed s a w, K s → Good ρ0 X w0 fx N s a w → m < ops.size → Region.seqB .any ops (ops.size - m) m listed = true → L listed a w) :
  ∀ (p0 p : LPlan) (listed : Array Bool) (fuel : Nat) (rem : Option (List Nat)), rlPT P N ops rs m p0 listed fuel rem = some p → ∀ (bn : List Nat) (B : Nat → Prop) (ρ : Nat → Loc) (s : St) (a : Act) (w : World),
   BI ρ B bn w → GoodAt ρ0 X w0 fx N ρ s a w → awP cx p bn K s →
   (rem = none → wpAnyGT P .any ops Q L (GR rs) fuel listed (ρ, B) a w) ∧
   (∀ l, rem = some l → ∀ i ∈ l, wpOp P ops Q i (fun a' w' => ∃ g', GR rs i (ρ, B) w g' w' ∧ wpAnyGT P .any ops Q L (GR rs) (fuel - 1) (listed.setIfInBounds i true) g' a' w') a w) := by
 intro p0
 induction p0 with
 | done =>
  intro p listed fuel rem hm bn B ρ s a w hB hG h
  cases rem with
  | some l => simp [rlPT] at hm
  | none =>
   simp only [rlPT] at hm
   split at hm
   ·rename_i hr
    simp only [yA] at hm
    subst hm
    obtain ⟨rfl, hr1, hr2⟩ := hr
    exact ⟨fun _ => hQ listed s a w h ⟨ρ, hG⟩ hr1 hr2, fun l hl => by cases hl⟩
   ·cases hm
 | none =>
  intro p listed fuel rem hm bn B ρ s a w hB hG h
  cases rem with
  | none => simp [rlPT] at hm
  | some l =>
   cases l with
   | nil => exact ⟨fun h => (by cases h), fun l hl i hi => (by cases hl; simp at hi)⟩
   | cons _ _ => simp [rlPT] at hm
 | take i D l p ih =>
  intro p1 listed fuel rem hm bn B ρ s a w hB hG h
  cases rem with
  | some l => cases fuel <;> simp [rlPT] at hm
  | none =>
   cases fuel with
   | zero => simp [rlPT] at hm
   | succ fuel =>
    simp only [rlPT] at hm
    split at hm
    ·rename_i o ho
     split at hm
     ·rename_i op g p' h1 h2 h3 h4
      split at hm
      ·rename_i hok
       simp only [yA] at hm
       subst hm
       simp only [yB, vF] at hok
       refine ⟨fun _ => ?_, fun l hl => by cases hl⟩
       refine take_stepT hL (cx := cx) (K := fun s' => awP cx p' (rdB op s.e bn) K s') hs hQp ho h1 h2 h3 hok.1 hok.2 hB hG h ?_
       intro B' s' a' hK hB' hG'
       exact (ih p' _ _ _ h4 _ _ _ _ _ _ hB' hG' hK).1 rfl
      ·cases hm
     ·cases hm
    ·cases hm
 | alt i l r p q ihp ihq =>
  intro p1 listed fuel rem hm bn B ρ s a w hB hG h
  cases fuel with
  | zero => cases rem <;> simp [rlPT] at hm
  | succ fuel =>
   simp only [rlPT] at hm
   split at hm
   ·rename_i j js o hrem ho
    split at hm
    ·rename_i op g p' q' h1 h2 h3 h4 h5
     split at hm
     ·rename_i hc
      obtain ⟨rfl, hr⟩ := hc
      simp only [yA] at hm
      subst hm
      have hall : ∀ i ∈ j :: js, wpOp P ops Q i (fun a' w' => ∃ g', GR rs i (ρ, B) w g' w' ∧ wpAnyGT P .any ops Q L (GR rs) fuel (listed.setIfInBounds i true) g' a' w') a w := by
       intro i hi
       rcases yP.1 hi with rfl | hi
       ·refine alt_step (K := fun s' => awP cx p' (if r then bn else []) K s') (Z := fun g' a' w' => wpAnyGT P .any ops Q L (GR rs) fuel (listed.setIfInBounds i true) g' a' w') hcx hfxe ho h1 h2 h3 hr hB hG h.1 ?_
        intro ρ' B' s' a' w' hK hB' hG'
        exact (ihp p' _ _ _ h4 _ _ _ _ _ _ hB' hG' hK).1 rfl
       ·exact (ihq q' _ _ _ h5 _ _ _ _ _ _ hB hG h.2).2 js rfl i hi
      refine ⟨fun hn => ?_, fun l hl => ?_⟩
      ·subst hn
       simp only [Option.getD_none] at hrem
       exact ⟨fun h0 => (by rw [hrem] at h0; cases h0), by rw [hrem]; exact hall⟩
      ·subst hl
       simp only [Option.getD_some] at hrem
       subst hrem
       exact hall
     ·cases hm
    ·cases hm
   ·cases hm
theorem ytree_in (hP : P.follows .mixedOrders = true) {cx : Cx} (hcx : cx.ok P) (hy : ∀ k, YOk P ρ0 X w0 cx.fx k (cx.y k)) {ops : Array Oper} {id : Nat} {Q : Exit → Act → World → Prop} (hQo : ¬ LetsOut Q) {K : St → Prop}
  (hQ : ∀ s a w, K s → Good ρ0 X w0 cx.fx N s a w → Q .normal a w) {p0 p : LPlan} {ls0 ls : List LOper} {s : St} {a : Act} {w : World} (hm : rlTY P N ops p0 m = some p) (hmt : rlOsY P ops N (ops.toList.drop m) ls0 = some ls) (hlt : m < ops.size)
  (hg : Good ρ0 X w0 cx.fx N s a w) (h : awP cx p [] (fun s' => aOpsY cx ls s' K) s) : (Code.region id ops true).wpIn (FR none) 0 P Q a w := by
 unfold rlTY at hm
 split at hm
 ·rename_i hs
  refine wpIn_mono (Q := NoPan Q) ?_ (fun e a w he => ?_)
  ·refine wpIn_region_any hP ?_
   obtain ⟨ρ, hG⟩ := Good.drew hg
   have hno : ¬ LetsOut (NoPan Q) := fun ⟨a, w, hq⟩ => hQo ⟨a, w, hq⟩
   have hdl : (ops.toList.drop m).length = ops.size - m := by simp
   have := anyIn_of_GT (P := P) (md := .any) (ops := ops) (Q := NoPan Q) (n := ops.size - m) (G := GR fun j => !(rsOf p0).contains j)
    (L := fun listed a w => (m < ops.size ∧ Region.seqB .any ops (ops.size - m) m listed = true) ∧ wpListIn (FR none) 0 P ops (NoPan Q) (ops.toList.drop m) a w) hno (fun listed a w hL => by
     have := anyIn_of_seq (P := P) (r := none) (md := .any) (Q := NoPan Q) (ops.toList.drop m) m listed a w (fun j => by simp [List.getElem?_drop]) (by rw [hdl]; exact hL.1.2) hL.2
     rwa [hdl] at this) m _ _ _ _
    ((awP_soundT (Q := NoPan Q) (m := m) hcx rfl hs (fun _ _ _ h => h) (fun listed a w hL => by
      obtain ⟨⟨h1, h2⟩, _⟩ := hL
      obtain ⟨q, hq⟩ : ∃ q, ops.size - m = q + 1 := ⟨ops.size - m - 1, by omega⟩
      rw [hq] at h2
      simp only [Region.seqB, yB, decide_eq_true_eq] at h2
      exact h2.1) (fun listed s a w hK hg h1 h2 => ⟨⟨h1, h2⟩, aOpsY_sound (Q := NoPan Q) hcx hy (fun s a w hK hg => hQ s a w hK hg) _ _ _ s a w hmt hg hK⟩) p0 p _ _ _ hm [] (fun _ => False) ρ s a _ (fun b hb => hb.elim) hG h).1 rfl)
   rw [show m + (ops.size - m) = ops.size by omega] at this
   exact this
  ·cases e <;> first | exact he | exact he.elim
 ·cases hm
end
end Go.Fx
namespace Go.Fx
open Go.RowKit
section
variable {P : Program} {X : Nat → Prop} {N : Nat}
theorem frz_in {cx : Cx} {a : Act} {w : World} {K : St → Prop} {ρ0 : Nat → Loc} {w0 : World} (xs : List Nat) (s : St) (h : frzP cx.fx xs s K) (hg : Good ρ0 X w0 cx.fx N s a w) : ∃ s', K s' ∧ Good ρ0 X w0 cx.fx N s' a w := frzP_good xs s h hg
theorem aw_sound (hP : P.follows .mixedOrders = true) : ∀ c : Code, SndC P X N c := by
 intro c
 induction c with
 | skip =>
  intro l0 l hm r cx ρ0 w0 hcx hrd hro hy Q Nn Xx Rr hQo hN hX hR s a w h hg
  simp only [rlC, yA] at hm
  subst hm
  exact wpIn_skip (hN s a w h hg)
 | ret =>
  intro l0 l hm r cx ρ0 w0 hcx hrd hro hy Q Nn Xx Rr hQo hN hX hR s a w h hg
  simp only [rlC, yA] at hm
  subst hm
  exact wpIn_ret (hR s a w h hg)
 | label i =>
  intro l0 l hm r cx ρ0 w0 hcx hrd hro hy Q Nn Xx Rr hQo hN hX hR s a w h hg
  simp only [rlC, yA] at hm
  subst hm
  exact wpIn_label (hN s a w h hg)
 | exit i =>
  intro l0 l hm r cx ρ0 w0 hcx hrd hro hy Q Nn Xx Rr hQo hN hX hR s a w h hg
  simp only [rlC, yA] at hm
  subst hm
  exact wpIn_exit (hX i s a w h hg)
 | region id ops draw =>
  intro l0 l hm r cx ρ0 w0 hcx hrd hro hy Q Nn Xx Rr hQo hN hX hR s a w h hg
  have hd : r = none ∨ ops.toList.all notDefer = true := hrd.imp (fun h => h) fun h => h.1
  simp only [rlC] at hm
  split at hm
  ·split at hm
   ·rename_i x hr
    simp only [yA] at hm
    subst hm
    exact wpIn_region_list (listIn hQo _ (hd.imp (fun h => h) fun h => yH.1 h) _ _ (aOps_sound hcx rfl hN _ _ _ _ a w hr (hg.reserve _ _) h))
   ·cases hm
  ·split at hm
   ·rename_i x hr
    split at hm
    ·rename_i hc
     simp only [yB] at hc
     simp only [yA] at hm
     subst hm
     rcases hrd with rfl | hrd
     ·exact (wpIn_wide (n := 0)).2 (qui_sound hP hN hr hc.1 hc.2 (hg.reserve _ _) h)
     ·exact absurd hrd.2 (by simp [inRd])
    ·cases hm
   ·cases hm
  ·split at hm
   ·rename_i x hr
    split at hm
    ·rename_i hc
     simp only [yB] at hc
     simp only [yA] at hm
     subst hm
     rcases hrd with rfl | hrd
     ·exact (wpIn_wide (n := 0)).2 (tail_sound hP hcx rfl hN hr hc.1 hc.2 (hg.reserve _ _) h)
     ·exact absurd hrd.2 (by simp [inRd])
    ·cases hm
   ·cases hm
  ·split at hm
   ·rename_i x hr
    simp only [yA] at hm
    subst hm
    exact tree_in hP hcx hQo hN hd hr (hg.reserve _ _) h
   ·cases hm
  ·split at hm
   ·rename_i x hr
    split at hm
    ·rename_i hc
     simp only [yA] at hm
     subst hm
     rcases hrd with rfl | hrd
     ·cases draw with
      | false => exact wpIn_region_list (aOpsY_sound hcx hy hN _ _ _ _ a w hr (hg.reserve _ _) h)
      | true =>
       simp only [Bool.not_true, Bool.false_or, yB] at hc
       exact yreg_in hP hcx hy hQo hN hr hc.1 hc.2 (hg.reserve _ _) h
     ·exact absurd hrd.2 (by simp [inRd])
    ·cases hm
   ·cases hm
  ·split at hm
   ·rename_i p' x hp hr
    split at hm
    ·rename_i hlt
     simp only [yA] at hm
     subst hm
     rcases hrd with rfl | hrd
     ·exact ytree_in hP hcx hy hQo hN hp hr hlt (hg.reserve _ _) h
     ·exact absurd hrd.2 (by simp [inRd])
    ·cases hm
   ·cases hm
  ·simp only [yA] at hm
   subst hm
   exact h.elim
  ·cases hm
 | seq a b iha ihb =>
  intro l0 l hm r cx ρ0 w0 hcx hrd hro hy Q Nn Xx Rr hQo hN hX hR s ac w h hg
  simp only [rlC] at hm
  split at hm
  ·split at hm
   ·rename_i x' y' h1 h2
    simp only [yA] at hm
    subst hm
    have hra : r = none ∨ (codeRd a = true ∧ inRd x' = true) := hrd.imp (fun h => h) fun h => by simp only [codeRd, inRd, yB] at h; exact ⟨h.1.1, h.2.1⟩
    have hrb : r = none ∨ (codeRd b = true ∧ inRd y' = true) := hrd.imp (fun h => h) fun h => by simp only [codeRd, inRd, yB] at h; exact ⟨h.1.2, h.2.2⟩
    refine wpIn_seq (iha _ _ h1 r cx ρ0 w0 hcx hra hro hy _ (fun s' => aw cx y' Nn Xx Rr s') Xx Rr (LetsOut_then hQo) ?_ ?_ ?_ s ac w h hg)
    ·intro s' a' w' h' hg'
     exact ihb _ _ h2 r cx ρ0 w0 hcx hrb hro hy Q Nn Xx Rr hQo hN hX hR s' a' w' h' hg'
    ·exact hX
    ·exact hR
   ·cases hm
  ·split at hm
   ·rename_i x' y' h1 h2
    simp only [yA] at hm
    subst hm
    have hra : r = none ∨ (codeRd a = true ∧ inRd x' = true) := hrd.imp (fun h => h) fun h => by simp only [codeRd, inRd, yB] at h; exact ⟨h.1.1, h.2.1⟩
    have hrb : r = none ∨ (codeRd b = true ∧ inRd y' = true) := hrd.imp (fun h => h) fun h => by simp only [codeRd, inRd, yB] at h; exact ⟨h.1.2, h.2.2⟩
    simp only [aw] at h
    obtain ⟨s1, h, hg⟩ := frz_in _ s h hg
    refine wpIn_seq (iha _ _ h1 r cx ρ0 w0 hcx hra hro hy _ (fun s' => aw cx y' Nn Xx Rr s') Xx Rr (LetsOut_then hQo) ?_ ?_ ?_ s1 ac w h hg)
    ·intro s' a' w' h' hg'
     exact ihb _ _ h2 r cx ρ0 w0 hcx hrb hro hy Q Nn Xx Rr hQo hN hX hR s' a' w' h' hg'
    ·exact hX
    ·exact hR
   ·cases hm
  ·simp only [yA] at hm
   subst hm
   exact h.elim
  ·cases hm
 | cond c a b iha ihb =>
  intro l0 l hm r cx ρ0 w0 hcx hrd hro hy Q Nn Xx Rr hQo hN hX hR s ac w h hg
  simp only [rlC] at hm
  split at hm
  ·split at hm
   ·rename_i x' y' h1 h2
    simp only [yA] at hm
    subst hm
    have hra : r = none ∨ (codeRd a = true ∧ inRd x' = true) := hrd.imp (fun h => h) fun h => by simp only [codeRd, inRd, yB] at h; exact ⟨h.1.1, h.2.1⟩
    have hrb : r = none ∨ (codeRd b = true ∧ inRd y' = true) := hrd.imp (fun h => h) fun h => by simp only [codeRd, inRd, yB] at h; exact ⟨h.1.2, h.2.2⟩
    simp only [aw] at h
    obtain ⟨t, ht, hA, hB⟩ := brV_inv h
    have hev : ac.eval c = .bool t := by
     obtain ⟨ρ, _, ⟨_, he⟩, _⟩ := hg
     have := ev_rep he c
     rw [ht] at this
     exact this
    refine wpIn_cond hev ?_
    cases t
    ·exact ihb _ _ h2 r cx ρ0 w0 hcx hrb hro hy Q Nn Xx Rr hQo hN hX hR s ac w (hB rfl) hg
    ·exact iha _ _ h1 r cx ρ0 w0 hcx hra hro hy Q Nn Xx Rr hQo hN hX hR s ac w (hA rfl) hg
   ·cases hm
  ·cases hm
 | block i a iha =>
  intro l0 l hm r cx ρ0 w0 hcx hrd hro hy Q Nn Xx Rr hQo hN hX hR s ac w h hg
  simp only [rlC] at hm
  split at hm
  ·split at hm
   ·rename_i x' h1
    simp only [yA] at hm
    subst hm
    refine wpIn_block (iha _ _ h1 r cx ρ0 w0 hcx hrd hro hy (Exit.inBlock i Q) Nn (fun j s' => if j = i then Nn s' else Xx j s') Rr (fun ⟨a, w, hq⟩ => hQo ⟨a, w, hq⟩) ?_ ?_ ?_ s ac w h hg)
    ·exact hN
    ·intro j s' a' w' h' hg'
     show if j = i then _ else _
     split at h'
     ·rename_i hj; rw [if_pos hj]; exact hN s' a' w' h' hg'
     ·rename_i hj; rw [if_neg hj]; exact hX j s' a' w' h' hg'
    ·exact hR
   ·cases hm
  ·cases hm
 | loop a iha =>
  intro l0 l hm r cx ρ0 w0 hcx hrd hro hy Q Nn Xx Rr hQo hN hX hR s ac w h hg
  simp only [rlC] at hm
  split at hm
  ·split at hm
   ·rename_i x' h1
    simp only [yA] at hm
    subst hm
    obtain ⟨G, pat, I, μ, L, hL, ⟨g, hI, hle⟩, hround⟩ := h
    refine wpIn_loop_ghost (fun n a w => ∃ g, (I g ∧ μ g = n) ∧ Good ρ0 X w0 cx.fx N (pat g) a w) (μ g) ⟨g, ⟨hI, rfl⟩, hg.leG hle⟩ ?_
    rintro n a' w' ⟨g', ⟨hI', rfl⟩, hg'⟩
    refine iha _ _ h1 r cx ρ0 w0 hcx hrd hro hy _ _ Xx Rr (LetsOut_then hQo) ?_ ?_ ?_ (pat g') a' w' (hround g' hI') hg'
    ·rintro s' a'' w'' ⟨g'', ⟨hI'', hlt⟩, hle''⟩ hg''
     exact ⟨μ g'', hlt, g'', ⟨hI'', rfl⟩, hg''.leG (hL _ _ hle'')⟩
    ·exact hX
    ·exact hR
   ·cases hm
  ·cases hm
 | rangeFunc g ps asg body iha ihb => exact rfn_ok iha ihb
 | scope c ih =>
  intro l0 l hm r cx ρ0 w0 hcx hrd hro hy Q Nn Xx Rr hQo hN hX hR s a w h hg
  simp only [rlC] at hm
  rcases hrd with rfl | hrd
  ·exact (wpIn_wide (n := 0)).2 (wp_scope_straight ((wpIn_wide (n := 0)).1 (ih l0 l hm none cx ρ0 w0 hcx (.inl rfl) hro hy (Exit.noGoto Q) Nn Xx Rr (fun ⟨a, w, hq⟩ => hQo ⟨a, w, hq⟩) hN hX hR s a w h hg)))
  ·exact absurd hrd.1 (by simp [codeRd])
 | _ => intro l0 l hm; simp [rlC] at hm
end
end Go.Fx
namespace Go.Fx
open Go.RowKit
section
variable {X : Nat → Prop} {ρ : Nat → Loc} {w w' : World}
mutual
theorem RepD_cell {S S' : Nat → Prop} (hS : ∀ b, S b → S' b) (hc : ∀ b o, w'.cell? ⟨b, o, none⟩ = w.cell? ⟨b, o, none⟩) : ∀ (x : V) (val : Value), RepD S w x val → RepD S' w' x val
 | .v _, _, h => h
 | .ro sz els, val, h => by
  obtain ⟨a, len, cap, h1, h2, h3, h4, h5⟩ := h
  refine ⟨a, len, cap, h1, h2, h3, h4, h5.imp id ?_⟩
  rintro ⟨b, off, h6, h7, h8⟩
  exact ⟨b, off, h6, hS b h7, RepEls_cell hS hc sz b off els h8⟩
 | .any, _, h | .bro _ _, _, h | .full _ _, _, h | .sl _ _ _, _, h | .ptr _ _ _, _, h | .rp _ _ _ _, _, h | .agg _, _, h | .tup _, _, h | .clo _ _, _, h | .mp _, _, h | .itr _, _, h => h.elim
theorem RepEls_cell {S S' : Nat → Prop} (hS : ∀ b, S b → S' b) (hc : ∀ b o, w'.cell? ⟨b, o, none⟩ = w.cell? ⟨b, o, none⟩) (sz b : Nat) : ∀ (off : Nat) (els : List (List V)), RepEls S w sz b off els → RepEls S' w' sz b off els
 | _, [], _ => trivial
 | off, e :: r, h => ⟨⟨h.1.1, RepCs_cell hS hc b off e h.1.2⟩, RepEls_cell hS hc sz b (off + sz) r h.2⟩
theorem RepCs_cell {S S' : Nat → Prop} (hS : ∀ b, S b → S' b) (hc : ∀ b o, w'.cell? ⟨b, o, none⟩ = w.cell? ⟨b, o, none⟩) (b : Nat) : ∀ (off : Nat) (cs : List V), RepCs S w b off cs → RepCs S' w' b off cs
 | _, [], _ => trivial
 | off, x :: r, h => ⟨by obtain ⟨⟨val, h1, h2⟩, _⟩ := h; exact ⟨val, (hc b off).trans h1, RepD_cell hS hc x val h2⟩, RepCs_cell hS hc b (off + 1) r h.2⟩
end
mutual
theorem RepV_cell (hs : w'.heap.size = w.heap.size) (hc : ∀ b o, w'.cell? ⟨b, o, none⟩ = w.cell? ⟨b, o, none⟩) : ∀ (x : V) (val : Value), RepV ρ X w x val → RepV ρ X w' x val
 | .any, _, _ => trivial
 | .v _, _, h => h
 | .ro sz els, val, h => RepD_cell (fun b hb => ⟨hs ▸ hb.1, hb.2⟩) hc (.ro sz els) val h
 | .bro sz els, val, h => by
  obtain ⟨a, len, cap, h1, h2, h3, h4, h5⟩ := h
  refine ⟨a, len, cap, h1, h2, h3, h4, h5.imp id ?_⟩
  rintro ⟨b, off, h6, h7, h8⟩
  exact ⟨b, off, h6, ⟨hs ▸ h7.1, h7.2⟩, RepEls_cell (fun b hb => ⟨hs ▸ hb.1, hb.2⟩) hc sz b off els h8⟩
 | .full sz els, val, h => by
  obtain ⟨a, len, h1, h2, h4, h5⟩ := h
  refine ⟨a, len, h1, h2, h4, h5.imp id ?_⟩
  rintro ⟨b, off, h6, h7, h8⟩
  exact ⟨b, off, h6, ⟨hs ▸ h7.1, h7.2⟩, RepEls_cell (fun b hb => ⟨hs ▸ hb.1, hb.2⟩) hc sz b off els h8⟩
 | .sl _ _ _, _, h => h
 | .ptr _ _ _, _, h => h
 | .rp sz els i f, val, h => by
  obtain ⟨b, off, h6, h7, h8⟩ := h
  exact ⟨b, off, h6, ⟨hs ▸ h7.1, h7.2⟩, RepEls_cell (fun b hb => ⟨hs ▸ hb.1, hb.2⟩) hc sz b off els h8⟩
 | .agg cs, val, h => by
  obtain ⟨arr, h1, h2⟩ := h
  exact ⟨arr, h1, RepL_cell hs hc cs arr.toList h2⟩
 | .tup cs, val, h => by
  obtain ⟨arr, h1, h2⟩ := h
  exact ⟨arr, h1, RepL_cell hs hc cs arr.toList h2⟩
 | .clo f cs, val, h => by
  obtain ⟨arr, h1, h2⟩ := h
  exact ⟨arr, h1, RepL_cell hs hc cs arr.toList h2⟩
 | .mp _, _, h => h
 | .itr _, _, h => h
theorem RepL_cell (hs : w'.heap.size = w.heap.size) (hc : ∀ b o, w'.cell? ⟨b, o, none⟩ = w.cell? ⟨b, o, none⟩) : ∀ (xs : List V) (vs : List Value), RepL ρ X w xs vs → RepL ρ X w' xs vs
 | [], [], _ => trivial
 | x :: r, u :: us, h => ⟨RepV_cell hs hc x u h.1, RepL_cell hs hc r us h.2⟩
 | [], _ :: _, h => h.elim
 | _ :: _, [], h => h.elim
end
theorem RepB_cell (hs : w'.heap.size = w.heap.size) (hc : ∀ b o, w'.cell? ⟨b, o, none⟩ = w.cell? ⟨b, o, none⟩) {k : Nat} (hb : (ρ k).real = true → w'.heap[(ρ k).blk]? = w.heap[(ρ k).blk]?) {B : Blk} (h : RepB ρ X w k B) : RepB ρ X w' k B := by
 cases B with
 | dead => exact h
 | arr sz els =>
  refine ⟨h.1, h.2.imp id ?_⟩
  rintro ⟨h1, c, T, h2, h3, h4, h5⟩
  exact ⟨h1, c, T, (hb h1).trans h2, h3, h4, RepEls_cell (fun b hb => ⟨hs ▸ hb.1, hb.2⟩) hc sz _ _ _ h5⟩
 | var cs =>
  obtain ⟨h1, c, T, h2, h3⟩ := h
  exact ⟨h1, c, T, (hb h1.1).trans h2, RepL_cell hs hc _ _ h3.1, h3.2⟩
 | arv sz els =>
  obtain ⟨h0, h1, c, T, h2, h3, h4, h5⟩ := h
  refine ⟨h0, h1, c, T, (hb h1).trans h2, h3, h4, fun i e he => ⟨(h5 i e he).1, fun f x hx => ?_⟩⟩
  obtain ⟨u, h6, h7⟩ := (h5 i e he).2 f x hx
  exact ⟨u, h6, RepV_cell hs hc _ _ h7⟩
 | map es cl =>
  obtain ⟨h1, arr, h2, h3, h4⟩ := h
  exact ⟨h1, arr, (hb h1.1).trans h2, h3, RepL_cell hs hc _ _ h4⟩
 | it m s sn l =>
  obtain ⟨h1, x, h2, h3⟩ := h
  exact ⟨h1, x, (hb h1.1).trans h2, RepV_cell hs hc _ _ h3⟩
 | rcd t e => exact ⟨recOk_mono hb h.1, fun i => RepV_cell hs hc _ _ (h.2 i)⟩
variable {ρ0 : Nat → Loc} {w0 : World} {fx : List Nat} {N : Nat}
theorem Good.takeD {s : St} {a : Act} {w : World} {D : Nat} {ds : List Deferred} (hg : Good ρ0 X w0 fx N s a w) (hd : a.defers = markOf D :: ds) :
  w.heap[D]? = some (.deferred (some [])) ∧ Good ρ0 X w0 fx N s { a with defers := ds } (w.putObj D (.deferred none)) := by
 obtain ⟨ρ, ⟨⟨hf, h1⟩, hk⟩, ⟨hr, he⟩, h5, Ds, ⟨hDs, hnd⟩, hM⟩ := hg
 rw [hd] at hDs
 cases Ds with
 | nil => simp at hDs
 | cons D' Ds =>
  simp only [vB, yW, markOf, Deferred.mk.injEq, Target.collected.injEq, and_true] at hDs
  obtain ⟨rfl, hDs⟩ := hDs
  obtain ⟨⟨g1, g2⟩, g3, g4⟩ := hM D yG
  refine ⟨g4, ?_⟩
  have hoth : ∀ b, b ≠ D → (w.putObj D (.deferred none)).heap[b]? = w.heap[b]? := fun b hb => World.putObj_heap_other hb
  have hs : (w.putObj D (.deferred none)).heap.size = w.heap.size := World.putObj_size
  have hc : ∀ b o, (w.putObj D (.deferred none)).cell? ⟨b, o, none⟩ = w.cell? ⟨b, o, none⟩ := by
   intro b o
   by_cases hb : b = D
   ·subst hb
    simp [World.cell?, World.putObj_heap_same g2, g4]
   ·exact cell_of_heap (hoth b hb)
  have hown : ∀ k, (ρ k).real = true → (ρ k).blk ≠ D := fun k hk e => g3 ⟨k, hk, e⟩
  refine ⟨ρ, ⟨⟨⟨hf.os, hf.tape, hf.output, by rw [hs]; exact hf.size, fun b hb ho => ⟨(hoth b (by omega)).trans (hf.keep b hb ho).1, (hf.keep b hb ho).2⟩⟩, h1⟩, hk⟩,
   ⟨⟨hr.inj, hr.out, fun k B hB => RepB_cell hs hc (fun hk => hoth _ (hown k hk)) (hr.blk k B hB), hr.disj, fun k hk => by rw [hs]; exact hr.lt k hk, fun b hb => by rw [hs]; exact hr.xlt b hb⟩, fun i => RepV_cell hs hc _ _ (he i)⟩,
   h5, Ds, ⟨hDs, (yV.1 hnd).2⟩, fun E hE => ?_⟩
  obtain ⟨⟨k1, k2⟩, k3, k4⟩ := hM E (yE _ hE)
  have hne : E ≠ D := fun e => (yV.1 hnd).1 (e ▸ hE)
  exact ⟨⟨k1, by rw [hs]; exact k2⟩, k3, (hoth E hne).trans k4⟩
theorem leaves_of {P : Program} {fn : Func} {R : Ending → World → Prop} {s : St} (hend : ∀ (a : Act) (w : World), Good ρ0 X w0 fx N s a w → ∃ v, (results fn a.tmps).run P w = .ok v w ∧ R (.returned v) w) :
  ∀ (ds : List Deferred) (a : Act) (w : World), a.defers = ds → Good ρ0 X w0 fx N s a w → LeavesInM Fence.wide 0 P fn a.tmps R ds .returning w
 | [], a, w, _, hg => hend a w hg
 | d :: ds, a, w, hd, hg => by
  have hg' := hg
  obtain ⟨ρ, _, _, _, Ds, ⟨hDs, _⟩, _⟩ := hg'
  rw [hd] at hDs
  cases Ds with
  | nil => simp at hDs
  | cons D Ds =>
   simp only [vB, yW] at hDs
   obtain ⟨rfl, hDs⟩ := hDs
   obtain ⟨h1, h2⟩ := hg.takeD hd
   exact ⟨by simp, .inl ⟨D, _, rfl, run_takeDeferred h1, leaves_of hend ds { a with defers := ds } _ rfl h2⟩⟩
end
end Go.Fx
namespace Go.Fx
open Go.RowKit
def rlRes1 (P : Program) : ResultVar → Option LRes
 | .tmp t => some (.tmp t)
 | .cell a t => match P.info? t, P.underlying t with
  | some i, some d => some (.cell a (if d.isRow then some i.size else none))
  | _, _ => none
def rlRes (P : Program) : List ResultVar → Option (List LRes)
 | [] => some []
 | r :: rs => match rlRes1 P r, rlRes P rs with
  | some x, some xs => some (x :: xs)
  | _, _ => none
def resRun (tmps : Array Value) : ResultVar → Sem Value
 | .tmp t => pure (tmps.getD t undef)
 | .cell a t => do loadVar t (← asAddr (tmps.getD a undef))
def tupU : List Value → Value
 | [u] => u
 | us => .tuple us.toArray
section
variable {P : Program} {ρ : Nat → Loc} {X : Nat → Prop} {w : World}
def ResL (P : Program) (w : World) (tmps : Array Value) : List ResultVar → List Value → Prop
 | [], [] => True
 | r :: rs, u :: us => (resRun tmps r).run P w = .ok u w ∧ ResL P w tmps rs us
 | _, _ => False
theorem results_run {fn : Func} {tmps : Array Value} {us : List Value} (hn : fn.results.toList.length ≤ 4) (h : ResL P w tmps fn.results.toList us) :
  (results fn tmps).run P w = .ok (tupU us) w := by
 have hr : fn.results = fn.results.toList.toArray := by simp
 have hres : results fn tmps = (do
   let vs ← fn.results.toList.toArray.mapM (resRun tmps)
   pure (if h : vs.size = 1 then vs[0] else .tuple vs)) := by
  unfold results
  rw [← hr]
  congr 1
 rw [hres]
 generalize fn.results.toList = l at h hn
 match l, us, h, hn with
 | [], [], _, _ => simp [tupU]
 | [a], [u], ⟨h1, _⟩, _ => simp [h1, tupU]
 | [a, b], [u, v], ⟨h1, h2, _⟩, _ => simp [h1, h2, tupU]
 | [a, b, c], [u, v, x], ⟨h1, h2, h3, _⟩, _ => simp [h1, h2, h3, tupU]
 | [a, b, c, d], [u, v, x, y], ⟨h1, h2, h3, h4, _⟩, _ => simp [h1, h2, h3, h4, tupU]
 | _ :: _ :: _ :: _ :: _ :: _, _, _, hn => simp at hn
 | [], _ :: _, h, _ => exact h.elim
 | [_], [], h, _ => exact h.elim
 | [_], _ :: _ :: _, h, _ => exact h.2.elim
 | [_, _], [], h, _ => exact h.elim
 | [_, _], [_], h, _ => exact h.2.elim
 | [_, _], _ :: _ :: _ :: _, h, _ => exact h.2.2.elim
 | [_, _, _], [], h, _ => exact h.elim
 | [_, _, _], [_], h, _ => exact h.2.elim
 | [_, _, _], [_, _], h, _ => exact h.2.2.elim
 | [_, _, _], _ :: _ :: _ :: _ :: _, h, _ => exact h.2.2.2.elim
 | [_, _, _, _], [], h, _ => exact h.elim
 | [_, _, _, _], [_], h, _ => exact h.2.elim
 | [_, _, _, _], [_, _], h, _ => exact h.2.2.elim
 | [_, _, _, _], [_, _, _], h, _ => exact h.2.2.2.elim
 | [_, _, _, _], _ :: _ :: _ :: _ :: _ :: _, h, _ => exact h.2.2.2.2.elim
theorem resP_run {h : List Blk} {e : Env} {tmps : Array Value} (hr : Rep ρ X w h) (he : RepE ρ X w e tmps) {K : List V → Prop} :
  ∀ (rs : List ResultVar) (ls : List LRes) (acc : List V) (us : List Value), rlRes P rs = some ls → RepL ρ X w acc us → resP h e ls acc K →
   ∃ xs vs, K (acc.reverse ++ xs) ∧ RepL ρ X w xs vs ∧ ResL P w tmps rs vs
 | [], ls, acc, us, hm, ha, hk => by
  simp only [rlRes, yA] at hm
  subst hm
  exact ⟨[], [], by simpa [resP] using hk, trivial, trivial⟩
 | r :: rs, ls, acc, us, hm, ha, hk => by
  simp only [rlRes] at hm
  split at hm
  ·rename_i x xs hx hxs
   simp only [yA] at hm
   subst hm
   cases r with
   | tmp t =>
    simp only [rlRes1, yA] at hx
    subst hx
    obtain ⟨ys, vs, h1, h2, h3⟩ := resP_run hr he rs xs (get e t :: acc) (tmps.getD t undef :: us) hxs ⟨he t, ha⟩ hk
    exact ⟨get e t :: ys, tmps.getD t undef :: vs, by simpa using h1, ⟨he t, h2⟩, rfl, h3⟩
   | cell a t =>
    simp only [rlRes1] at hx
    split at hx
    ·rename_i inf d hi hu
     simp only [yA] at hx
     subst hx
     simp only [resP] at hk
     obtain ⟨y, val, h1, h2, h3⟩ := load_run hr hi hu rfl (he a) hk
     obtain ⟨ys, vs, h4, h5, h6⟩ := resP_run hr he rs xs (y :: acc) (val :: us) hxs ⟨h2, ha⟩ h1
     refine ⟨y :: ys, val :: vs, by simpa using h4, ⟨h2, h5⟩, ?_, h6⟩
     have h7 := h3 w (Ext.refl w)
     have hp := he a
     have hptr : ∃ ad, tmps.getD a undef = .pointer (some ad) := by
      revert hk
      unfold loadP
      split
      ·rename_i k i f hv; intro _; rw [hv] at hp; exact ⟨_, hp.2⟩
      ·rename_i sz els i f hv; intro _; rw [hv] at hp; obtain ⟨b, off, h8, _⟩ := hp; exact ⟨_, h8⟩
      ·intro hk; exact hk.elim
     obtain ⟨ad, had⟩ := hptr
     rw [had] at h7
     simp only [resRun, had, asAddr, Sem.run_bind, Sem.run_pure, Result.andThen_ok]
     simpa [Instr.loadAt, Instr.sureAddr] using h7
    ·cases hx
  ·cases hm
theorem tup_rep {xs : List V} {us : List Value} (h : RepL ρ X w xs us) : RepV ρ X w (tupV xs) (tupU us) := by
 match xs, us, h with
 | [], [], _ => exact ⟨#[], rfl, trivial⟩
 | [x], [u], h => exact h.1
 | x :: y :: r, u :: v :: s, h => exact ⟨(u :: v :: s).toArray, rfl, h⟩
 | [_], _ :: _ :: _, h => exact h.2.elim
 | _ :: _ :: _, [_], h => exact h.2.elim
 | [], _ :: _, h => exact h.elim
 | _ :: _, [], h => exact h.elim
theorem args0_get : ∀ (i : Nat) (xs : List V) (j : Nat), get (args0 i xs) j = if i ≤ j then (xs[j - i]?).getD .any else .any
 | i, [], j => by simp [args0, get]
 | i, x :: r, j => by
  simp only [args0, get]
  by_cases h : j = i
  ·subst h; simp
  ·rw [if_neg h, args0_get (i + 1) r j]
   by_cases h2 : i + 1 ≤ j
   ·rw [if_pos h2, if_pos (by omega)]
    rw [show j - i = (j - (i + 1)) + 1 by omega]
    simp
   ·rw [if_neg h2, if_neg (by omega)]
theorem args0_rep {xs : List V} {vals : List Value} (h : RepL ρ X w xs vals) (n : Nat) : RepE ρ X w (args0 0 xs) (vals.toArray ++ yO n undef) := by
 intro i
 rw [args0_get]
 simp only [Nat.zero_le, if_true, Nat.sub_zero]
 cases hx : xs[i]? with
 | none => trivial
 | some x =>
  obtain ⟨v, h1, h2⟩ := RepL_get h hx
  have hi : i < vals.length := (yD.1 h1).1
  have : (vals.toArray ++ yO n undef).getD i undef = v := by
   rw [yX, Array.getElem?_append_left (by simpa using hi)]
   simp [h1]
  rw [this]
  exact h2
theorem Fn_of (hP : P.follows .mixedOrders = true) {cx : Cx} (hcx : cx.ok P) {f : FuncId} {fn : Func} {c : Code} {l0 l : LCode} {rs : List LRes} (hf : P.funcs[f]? = some fn) (hb : fn.body = some c)
  (hm : rlC P fn.ntmps c l0 = some l) (hres : rlRes P fn.results.toList = some rs) (h4 : fn.results.toList.length ≤ 4) {args : List V} {h0 : List Blk} {mv : List Nat} {R : V → List Blk → Prop}
  (hlen : args.length ≤ fn.ntmps) (hfx : keepP cx.fx h0) (hmv : ∀ k, k < h0.length → k ∉ mv → k ∈ cx.fx)
  (h : aw cx l (retP cx.fx h0.length rs R) (fun _ _ => False) (retP cx.fx h0.length rs R) ⟨args0 0 args, h0, 0⟩) (hy : cx.y = fun _ _ _ _ => False := by rfl) (hk : cx.rk = none := by rfl) : Fn P f args h0 mv R := by
 intro ρ X w vals hr ha
 have hvl := RepL_len ha
 refine (callsIn_wide (n := 0)).1 (callsIn_of_wp_marks hf hb trivial ?_)
 have hg : Good ρ X w cx.fx fn.ntmps ⟨args0 0 args, h0, 0⟩ { tmps := vals.toArray ++ yO (fn.ntmps - vals.toArray.size) undef, defers := [] } w :=
  ⟨ρ, ⟨⟨Fr.refl _ _, fun _ _ => rfl⟩, hfx⟩, ⟨hr, args0_rep ha _⟩, by simp; omega, Marks.nil⟩
 have hend : ∀ s, retP cx.fx h0.length rs R s → ∀ a w', Good ρ X w cx.fx fn.ntmps s a w' → ∃ v, (results fn a.tmps).run P w' = .ok v w' ∧ ∃ val r h' ρ', Ending.returned v = .returned val ∧ (R r h' ∧ h0.length ≤ h'.length) ∧ Fr ρ w ρ' w' ∧ Rep ρ' X w' h' ∧ RepV ρ' X w' r val ∧
   ∀ k, k < h0.length → k ∉ mv → ρ' k = ρ k := by
  intro s hret a w' hgood
  obtain ⟨ρ', ⟨⟨hf1, hfx1⟩, hk1⟩, ⟨hr1, he1⟩, hN1, hd1⟩ := hgood
  obtain ⟨xs, vs, h5, h6, h7⟩ := resP_run hr1 he1 fn.results.toList rs [] [] hres trivial hret
  obtain ⟨p, ⟨h8, h9, h10, h11, h12⟩, h13⟩ := h5
  refine ⟨tupU vs, results_run h4 h7, _, _, p, dropLoc ρ' p, rfl, ⟨h13, h10⟩, hf1.trans drop_fr, dropRep hr1 h8 h12, ?_, fun k hk hkm => ?_⟩
  ·exact drop_rep _ _ h11 (tup_rep (by simpa using h6))
  ·have hkf := hmv k hk hkm
   rw [live_loc (keepP_get h9 k hkf)]
   exact hfx1 k hkf
 refine aw_sound (P := P) (X := X) (N := fn.ntmps) hP c l0 l hm none cx ρ w hcx (.inl rfl) (by unfold ROk; rw [hk]; trivial) (fun k => by rw [hy]; exact YOk_none) _ (retP cx.fx h0.length rs R) (fun _ _ => False) (retP cx.fx h0.length rs R) ?_ ?_ (fun _ _ _ _ hx _ => hx.elim) ?_ _ _ _ h hg
 ·rintro ⟨a, w', val, _, _, _, hq, _⟩
  cases hq
 ·intro s a w' hret hgood
  exact leaves_of (hend s hret) a.defers a w' rfl hgood
 ·intro s a w' hret hgood
  exact leaves_of (hend s hret) a.defers a w' rfl hgood
def rlF (P : Program) (f : FuncId) (l0 : LCode) : Option (LCode × List LRes × Nat) :=
 match P.funcs[f]? with
 | some fn => match fn.body, rlRes P fn.results.toList, decide (fn.results.toList.length ≤ 4) && !(fn.name == "runtime.NumGoroutine") with
  | some c, some rs, true => (rlC P fn.ntmps c l0).map fun l => (l, rs, fn.ntmps)
  | _, _, _ => none
 | none => none
theorem rlF_callable {P : Program} {f : FuncId} {l0 l : LCode} {rs : List LRes} {nt : Nat} (h : rlF P f l0 = some (l, rs, nt)) : Callable P f := by
 unfold rlF at h
 split at h
 ·rename_i fn hf
  split at h
  ·rename_i c rs' hb hr ht
   simp only [yB, yQ, decide_eq_true_eq] at ht
   exact ⟨fn, hf, ht.2, by simp [hb]⟩
  ·cases h
 ·cases h
theorem Fn_rl {P : Program} (hP : P.follows .mixedOrders = true) {cx : Cx} (hcx : cx.ok P) {f : FuncId} {l0 l : LCode} {rs : List LRes} {nt : Nat} (hl : rlF P f l0 = some (l, rs, nt))
  {args : List V} {h0 : List Blk} {mv : List Nat} {R : V → List Blk → Prop} (hlen : args.length ≤ nt) (hfx : keepP cx.fx h0) (hmv : ∀ k, k < h0.length → k ∉ mv → k ∈ cx.fx)
  (h : aw cx l (retP cx.fx h0.length rs R) (fun _ _ => False) (retP cx.fx h0.length rs R) ⟨args0 0 args, h0, 0⟩) (hy : cx.y = fun _ _ _ _ => False := by rfl) (hk : cx.rk = none := by rfl) : Fn P f args h0 mv R := by
 unfold rlF at hl
 split at hl
 ·rename_i fn hf
  split at hl
  ·rename_i c rs' hb hr ht
   simp only [yB, yQ, decide_eq_true_eq] at ht
   cases hm : rlC P fn.ntmps c l0 with
   | none => simp [hm] at hl
   | some l1 =>
    simp only [hm, Option.map_some, yA, Prod.mk.injEq] at hl
    obtain ⟨rfl, rfl, rfl⟩ := hl
    exact Fn_of hP hcx hf hb hm hr ht.1 hlen hfx hmv h hy hk
  ·cases hl
 ·cases hl
end
end Go.Fx
namespace Go.Fx
open Go.RowKit Go.ChangeShapes Go.WideShapes
def WfV : T → V → Prop
 | .st fs, x => ∃ cs, WfTs fs cs ∧ x = .agg cs
 | .int k, x => WfT (.int k) [x]
 | .bool, x => WfT .bool [x]
 | .str, x => WfT .str [x]
 | .sl sz e, x => WfT (.sl sz e) [x]
def WfA : List T → List V → Prop
 | [], xs => xs = []
 | t :: ts, xs => ∃ x r, xs = x :: r ∧ WfV t x ∧ WfA ts r
def tysA (P : Program) : List TypeId → Option (List T)
 | [] => some []
 | t :: ts => match tyOf P 20 t, tysA P ts with
  | some x, some r => some (x :: r)
  | _, _ => none
def rho0 : Nat → Loc := fun _ => ⟨false, 0, 0, 0, 0, default⟩
theorem rho0_own (b : Nat) : ¬ Own rho0 b := fun ⟨_, h, _⟩ => by simp [rho0] at h
theorem rho0_rep (w : World) : Rep rho0 (fun _ => False) w [] :=
 ⟨fun j k _ h => by simp [rho0] at h, fun _ _ => rfl, fun k b h => by simp at h, fun _ h => (rho0_own _ h).elim, fun k h => by simp [rho0] at h, fun _ h => h.elim⟩
section
variable {P : Program} {w : World} {ρ : Nat → Loc} {X : Nat → Prop}
theorem RepD_V : ∀ {x : V} {u : Value}, RepD (Sta ρ X w) w x u → RepV ρ X w x u
 | .v _, _, h => h.1
 | .ro _ _, _, h => h
 | .any, _, h | .bro _ _, _, h | .full _ _, _, h | .sl _ _ _, _, h | .ptr _ _ _, _, h | .rp _ _ _ _, _, h | .agg _, _, h | .tup _, _, h | .clo _ _, _, h | .mp _, _, h | .itr _, _, h => h.elim
theorem RepDs_L : ∀ {xs : List V} {us : List Value}, RepDs (Sta ρ X w) w xs us → RepL ρ X w xs us
 | [], [], _ => trivial
 | _ :: _, _ :: _, h => ⟨RepD_V h.1, RepDs_L h.2⟩
 | [], _ :: _, h => h.elim
 | _ :: _, [], h => h.elim
theorem cells_one {v u : Value} (h : v.cells.toList = [u]) (hn : ∀ cs, v ≠ .agg cs) : u = v := by
 cases v <;> simp_all [Value.cells]
variable {H : Type} {enc : TypeId × Value → H} {base : Nat} {spare : Nat → Bool} {held : Bool}
theorem arg_rep {n : Nat} {t : TypeId} {ty : T} {v : Value} {r : Reach} {b : Nat} {d : DataW H} {p : List MemPlace} (hS : ∀ b, b < w.heap.size → Sta ρ X w b) (ht : tyOf P n t = some ty)
  (hok : Value.okWide P w r b t v) (h : DataW.Trod enc P w base spare held t v d p) : ∃ x, WfV ty x ∧ RepV ρ X w x v := by
 obtain ⟨fuel, h⟩ := h
 obtain ⟨xs, h1, h2⟩ := trod_rep hS fuel n t ty _ _ ht h
 cases n with
 | zero => simp [tyOf] at ht
 | succ n =>
  unfold Value.okWide at hok
  simp only [tyOf] at ht
  split at ht
  ·rename_i hu
   simp only [yA] at ht
   subst ht
   obtain ⟨c, rfl⟩ := h1
   have hl := RepDs_len h2
   obtain ⟨u, hu'⟩ : ∃ u, v.cells.toList = [u] := yY.1 hl.symm
   have hv := cells_one hu' (fun cs hc => by subst hc; simp [hu, Cell.okWide, Cell.ok] at hok)
   subst hv
   rw [hu'] at h2
   exact ⟨_, ⟨c, rfl⟩, RepD_V h2.1⟩
  ·rename_i k hu
   simp only [yA] at ht
   subst ht
   obtain ⟨c, rfl, hc⟩ := h1
   have hl := RepDs_len h2
   obtain ⟨u, hu'⟩ : ∃ u, v.cells.toList = [u] := yY.1 hl.symm
   have hv := cells_one hu' (fun cs hc => by subst hc; simp [hu, Cell.okWide, Cell.ok] at hok)
   subst hv
   rw [hu'] at h2
   exact ⟨_, ⟨c, rfl, hc⟩, RepD_V h2.1⟩
  ·rename_i hu
   simp only [yA] at ht
   subst ht
   obtain ⟨c, rfl, hc⟩ := h1
   have hl := RepDs_len h2
   obtain ⟨u, hu'⟩ : ∃ u, v.cells.toList = [u] := yY.1 hl.symm
   have hv := cells_one hu' (fun cs hc => by subst hc; simp [hu, Cell.okWide, Cell.ok] at hok)
   subst hv
   rw [hu'] at h2
   exact ⟨_, ⟨c, rfl, hc⟩, RepD_V h2.1⟩
  ·rename_i e hu
   split at ht
   ·rename_i te _
    split at ht
    ·simp only [yA] at ht
     subst ht
     obtain ⟨c, rfl, hc⟩ := h1
     have hl := RepDs_len h2
     obtain ⟨u, hu'⟩ : ∃ u, v.cells.toList = [u] := yY.1 hl.symm
     have hv := cells_one hu' (fun cs hc => by subst hc; simp [hu, Cell.okWide, Cell.ok] at hok)
     subst hv
     rw [hu'] at h2
     exact ⟨_, ⟨c, rfl, hc⟩, RepD_V h2.1⟩
    ·cases ht
   ·cases ht
  ·rename_i fs hu
   split at ht
   ·split at ht
    ·simp only [yA] at ht
     subst ht
     simp only [hu] at hok
     obtain ⟨cs, rfl, _⟩ := hok
     exact ⟨.agg xs, ⟨xs, h1, rfl⟩, cs, rfl, RepDs_L (by simpa [Value.cells] using h2)⟩
    ·cases ht
   ·cases ht
  ·rename_i m e hu
   split at ht
   ·split at ht
    ·simp only [yA] at ht
     subst ht
     simp only [hu] at hok
     obtain ⟨cs, rfl, _⟩ := hok
     exact ⟨.agg xs, ⟨xs, h1, rfl⟩, cs, rfl, RepDs_L (by simpa [Value.cells] using h2)⟩
    ·cases ht
   ·cases ht
  ·cases ht
theorem args_rep (hS : ∀ b, b < w.heap.size → Sta ρ X w b) : ∀ (ts : List TypeId) (tys : List T) (vs : List Value) (ds : List (DataW H)) (p : List MemPlace), tysA P ts = some tys →
  (∀ (j : Nat) t v, ts[j]? = some t → vs[j]? = some v → Value.okWide P w .any base t v) → DataW.TrodAll enc P w 0 spare held ts vs ds p → ∃ xs, WfA tys xs ∧ RepL ρ X w xs vs ∧ ds.length = tys.length
 | [], tys, vs, ds, p, ht, hok, h => by
  simp only [tysA, yA] at ht
  subst ht
  obtain ⟨rfl, rfl, rfl⟩ := trodAll_nil h
  exact ⟨[], rfl, trivial, rfl⟩
 | t :: ts, tys, vs, ds, p, ht, hok, h => by
  simp only [tysA] at ht
  split at ht
  ·rename_i ty tr h1 h2
   simp only [yA] at ht
   subst ht
   obtain ⟨v, vs1, d, ds1, a, b, rfl, rfl, rfl, h3, h4⟩ := trodAll_cons h
   obtain ⟨x, h5, h6⟩ := arg_rep hS h1 (hok 0 t v rfl rfl) h3
   obtain ⟨xs, h7, h8, h9⟩ := args_rep hS ts tr vs1 ds1 b h2 (fun j t v h1 h2 => hok (j + 1) t v (by simpa using h1) (by simpa using h2)) h4
   exact ⟨x :: xs, ⟨x, xs, rfl, h5, h7⟩, ⟨h6, h8⟩, by simp [h9]⟩
  ·cases ht
theorem trodAll_stays (hl : laidOutB P = true) {W W' : World} (hb : Below W.heap.size W W') : ∀ (ts : List TypeId) (vs : List Value) (ds : List (DataW H)) (p : List MemPlace), (∀ t ∈ ts, P.readableRec t = true ∧ t < P.types.size) →
  DataW.TrodAll enc P W 0 (fun _ => true) true ts vs ds p → (∀ x ∈ p, x.block < W.heap.size) → DataW.TrodAll enc P W' 0 (fun b => decide (b < W.heap.size)) true ts vs ds p
 | [], vs, ds, p, _, h, _ => by
  obtain ⟨rfl, rfl, rfl⟩ := trodAll_nil h
  rfl
 | t :: ts, vs, ds, p, hr, h, hlt => by
  obtain ⟨v, vs1, d, ds1, a, b, rfl, rfl, rfl, h3, h4⟩ := trodAll_cons h
  exact trodAll_cons_mk (Below.trod hl (hr t yG).1 (hr t yG).2 h3 hb (fun x hx => hlt x (vM _ hx)))
   (trodAll_stays hl hb ts vs1 ds1 b (fun t ht => hr t (yE _ ht)) h4 (fun x hx => hlt x (vN _ hx)))
theorem trodAll_true (hl : laidOutB P = true) {W W' : World} (hb : Below W.heap.size W W') : ∀ (ts : List TypeId) (vs : List Value) (ds : List (DataW H)) (p : List MemPlace), (∀ t ∈ ts, P.readableRec t = true ∧ t < P.types.size) →
  DataW.TrodAll enc P W 0 (fun _ => true) true ts vs ds p → (∀ x ∈ p, x.block < W.heap.size) → DataW.TrodAll enc P W' 0 (fun _ => true) true ts vs ds p
 | [], vs, ds, p, _, h, _ => by
  obtain ⟨rfl, rfl, rfl⟩ := trodAll_nil h
  rfl
 | t :: ts, vs, ds, p, hr, h, hlt => by
  obtain ⟨v, vs1, d, ds1, a, b, rfl, rfl, rfl, h3, h4⟩ := trodAll_cons h
  exact trodAll_cons_mk (WideElems.Trod_stays hl (hr t yG).1 (hr t yG).2 h3 (fun x hx => hb.same (hlt x (vM _ hx))) (fun _ _ => rfl))
   (trodAll_true hl hb ts vs1 ds1 b (fun t ht => hr t (yE _ ht)) h4 (fun x hx => hlt x (vN _ hx)))
theorem law_contract {f : FuncId} {fn : Func} {s : ChangeSpec} {tys : List T} {tb : TypeId} {apart fresh handsOn again : Bool}
  (hl : laidOutB P = true) (ht : tysA P fn.params.toList = some tys) (hread : (fn.params.toList.all fun t => P.readableRec t && decide (t < P.types.size)) = true)
  (hres : fn.resultTypes = #[tb]) (hb : P.underlying tb = some .bool) (hvars : s.vars = [])
  (hspec : ∀ (H : Type) (ds : List (DataW H)), ds.length = tys.length → s.fn H ds = { results := [.lit (.bool true)], args := ds })
  (hfn : ∀ zas, WfA tys zas → Fn P f zas [] [] (fun r _ => r = .b true))
  (W : World) (base : Nat) (args : Array Value) (ds gs : List (DataW H)) (before : List MemPlace)
  (hval : ∀ (j : Nat) t v, fn.params[j]? = some t → args[j]? = some v → Value.okWide P W .any base t v)
  (hW : DataW.Whole enc P fn.params.toList s.vars apart W args.toList ds gs before) :
  Calls P f args W fun e W' => ∃ v, e = .returned v ∧ s.post enc P fn apart fresh handsOn again W args v W' := by
 have hW' := hW
 obtain ⟨p, q, hA, hV, rfl, hfz, hnd⟩ := hW
 have hpl := hW'.lt
 have hV0 : gs = [] ∧ q = [] := by
  rw [hvars] at hV
  cases gs with
  | nil => exact ⟨rfl, hV⟩
  | cons _ _ => exact hV.elim
 obtain ⟨rfl, rfl⟩ := hV0
 obtain ⟨xs, h1, h2, h3⟩ := args_rep (ρ := rho0) (X := fun _ => False) (fun b hb => ⟨hb, rho0_own b, fun h => h⟩) fn.params.toList tys args.toList ds p ht (fun j t v h1 h2 => hval j t v (by simpa using h1) (by simpa using h2)) hA
 have hc := hfn xs h1 rho0 (fun _ => False) W args.toList (rho0_rep W) h2
 have harr : args.toList.toArray = args := by simp
 rw [harr] at hc
 refine hc.mono fun e W' ⟨val, r, h', ρ', he, ⟨hr, _⟩, hF, hR, hv, _⟩ => ?_
 subst hr
 have hv : val = .bool true := hv
 subst hv
 refine ⟨_, he, ?_⟩
 have hbel : Below W.heap.size W W' := ⟨hF.os, hF.tape, hF.output, hF.size, fun k hk => (hF.keep k hk (rho0_own k)).1⟩
 have hsz : fn.resultTypes.size = 1 := by rw [hres]; rfl
 have hrl : (Value.bool true).resultList fn.resultTypes.size = [.bool true] := by rw [hsz]; rfl
 have hsp : s.fn H (ds ++ []) = { results := [.lit (.bool true)], args := ds } := by rw [List.append_nil]; exact hspec H ds h3
 have hrd : ∀ t ∈ fn.params.toList, P.readableRec t = true ∧ t < P.types.size := by
  intro t ht
  have := yH.1 hread t ht
  simpa using this
 have hplt : ∀ x ∈ p, x.block < W.heap.size := fun x hx => hpl x (by simpa using hx)
 have hok : ∀ (j : Nat) (t : TypeId) (r : Value), fn.resultTypes[j]? = some t → ((Value.bool true).resultList fn.resultTypes.size)[j]? = some r → Value.okWide P W' .any 0 t r := by
  intro j t r h4 h5
  rw [hrl] at h5
  rw [hres] at h4
  cases j with
  | zero =>
   simp only [yK, yA] at h5
   simp only [List.getElem?_toArray, yK, yA] at h4
   subst h4 h5
   simp [Value.okWide, hb, Cell.okWide, Cell.ok]
  | succ j => simp at h5
 have hrt : ∀ (b : Nat) (sp : Nat → Bool) (hd : Bool), DataW.TrodAll enc P W' b sp hd fn.resultTypes.toList ((Value.bool true).resultList fn.resultTypes.size) [.lit (.bool true)] [] := by
  intro b sp hd
  rw [hrl, hres]
  exact ⟨[], [], ⟨1, by simp [DataW.trod, Value.cells, hb]⟩, rfl, rfl⟩
 refine ⟨ds, [], p ++ [], [], p, [], hW', ?_, ?_, ?_, hbel.frame _, fun _ => ⟨hok, ds.cons (.lit (.bool true)), [], p ++ [], ?_, fun x hx _ => hx⟩⟩
 ·rw [hsp]; exact hrt _ _ _
 ·rw [hsp]; exact trodAll_stays hl hbel _ _ _ _ hrd hA hplt
 ·rw [hsp, hvars]; rfl
 ·refine ⟨p, [], ?_, by rw [hvars]; rfl, rfl, ?_, hnd⟩
  ·have h6 := trodAll_true hl hbel _ _ _ _ hrd hA hplt
   have h7 := trodAll_append h6 (hrt 0 (fun _ => true) true)
   simpa using h7
  ·intro b off hp
   have h8 := hfz b off hp
   rw [World.frozen?_of_block (w := W) (hbel.block b (hpl _ hp))]
   exact h8
end
end Go.Fx
namespace Go.Fx
def forceNat {α : Type} (n : Nat) (K : Nat → α) : α :=
 match n with
 | 0 => K 0
 | m + 1 => K (m + 1)
theorem forceNat_eq {α : Type} (n : Nat) (K : Nat → α) : forceNat n K = K n := by cases n <;> rfl
def forceV {α : Type} (x : V) (K : V → α) : α :=
 match x with
 | .v (.int k n) => match n with
  | .ofNat m => forceNat m fun m => K (.v (.int k (.ofNat m)))
  | .negSucc m => forceNat m fun m => K (.v (.int k (.negSucc m)))
 | .v (.bool t) => match t with
  | true => K (.v (.bool true))
  | false => K (.v (.bool false))
 | .sl k i n => forceNat k fun k => forceNat i fun i => forceNat n fun n => K (.sl k i n)
 | .ptr k i f => forceNat k fun k => forceNat i fun i => forceNat f fun f => K (.ptr k i f)
 | .mp k => forceNat k fun k => K (.mp k)
 | x => K x
theorem forceV_eq {α : Type} (x : V) (K : V → α) : forceV x K = K x := by
 unfold forceV
 split <;> (try split) <;> simp only [forceNat_eq]
inductive Tr where
 | lf
 | nd (v : V) (l r : Tr)
 deriving Inhabited
def Tr.get : Tr → Nat → V
 | .lf, _ => .any
 | .nd v l r, i => match i with
  | 0 => v
  | j + 1 => if j % 2 = 0 then l.get (j / 2) else r.get (j / 2)
def Tr.put : Nat → Tr → Nat → V → Tr
 | 0, t, _, _ => t
 | n + 1, .lf, i, x => match i with
  | 0 => .nd x .lf .lf
  | j + 1 => if j % 2 = 0 then .nd .any (Tr.put n .lf (j / 2) x) .lf else .nd .any .lf (Tr.put n .lf (j / 2) x)
 | n + 1, .nd v l r, i, x => match i with
  | 0 => .nd x l r
  | j + 1 => if j % 2 = 0 then .nd v (Tr.put n l (j / 2) x) r else .nd v l (Tr.put n r (j / 2) x)
def Tr.kill (M : List Nat) : Tr → Tr
 | .lf => .lf
 | .nd v l r => .nd (Fx.kill M v) (l.kill M) (r.kill M)
theorem Tr.get_put : ∀ (n : Nat) (t : Tr) (i : Nat) (x : V) (j : Nat), i < n → (Tr.put n t i x).get j = if j = i then x else t.get j
 | 0, _, _, _, _, h => by omega
 | n + 1, .lf, 0, x, j, _ => by cases j <;> simp [Tr.put, Tr.get]
 | n + 1, .nd v l r, 0, x, j, _ => by cases j <;> simp [Tr.put, Tr.get]
 | n + 1, .lf, i + 1, x, j, h => by
  simp only [Tr.put]
  split
  ·rename_i hi
   cases j with
   | zero => simp [Tr.get]
   | succ j =>
    simp only [Tr.get]
    by_cases hj : j % 2 = 0
    ·rw [if_pos hj, Tr.get_put n _ _ _ _ (by omega)]
     by_cases e : j = i
     ·subst e; simp
     ·rw [if_neg (by omega), if_neg (by omega)]; simp [Tr.get]
    ·rw [if_neg hj, if_neg (by omega)]
  ·rename_i hi
   cases j with
   | zero => simp [Tr.get]
   | succ j =>
    simp only [Tr.get]
    by_cases hj : j % 2 = 0
    ·rw [if_pos hj, if_neg (by omega)]
    ·rw [if_neg hj, Tr.get_put n _ _ _ _ (by omega)]
     by_cases e : j = i
     ·subst e; simp
     ·rw [if_neg (by omega), if_neg (by omega)]; simp [Tr.get]
 | n + 1, .nd v l r, i + 1, x, j, h => by
  simp only [Tr.put]
  split
  ·rename_i hi
   cases j with
   | zero => simp [Tr.get]
   | succ j =>
    simp only [Tr.get]
    by_cases hj : j % 2 = 0
    ·rw [if_pos hj, Tr.get_put n _ _ _ _ (by omega), if_pos hj]
     by_cases e : j = i
     ·subst e; simp
     ·rw [if_neg (by omega), if_neg (by omega)]
    ·rw [if_neg hj, if_neg (by omega), if_neg hj]
  ·rename_i hi
   cases j with
   | zero => simp [Tr.get]
   | succ j =>
    simp only [Tr.get]
    by_cases hj : j % 2 = 0
    ·rw [if_pos hj, if_neg (by omega), if_pos hj]
    ·rw [if_neg hj, Tr.get_put n _ _ _ _ (by omega), if_neg hj]
     by_cases e : j = i
     ·subst e; simp
     ·rw [if_neg (by omega), if_neg (by omega)]
theorem Tr.get_kill (M : List Nat) : ∀ (t : Tr) (i : Nat), (t.kill M).get i = Fx.kill M (t.get i)
 | .lf, _ => by simp [Tr.kill, Tr.get, Fx.kill]
 | .nd v l r, i => by
  cases i with
  | zero => rfl
  | succ j =>
   simp only [Tr.kill, Tr.get]
   split
   ·exact Tr.get_kill M l _
   ·exact Tr.get_kill M r _
def evT (E : Tr) : Operand → V
 | .tmp t => E.get t
 | .const c => ofConst c
 | .func f => .clo f []
 | .global _ => .any
mutual
def namesV : V → List Nat
 | .sl k _ _ => [k]
 | .ptr k _ _ => [k]
 | .mp k => [k]
 | .itr k => [k]
 | .agg cs => namesL cs
 | .tup cs => namesL cs
 | .clo _ cs => namesL cs
 | _ => []
def namesL : List V → List Nat
 | [] => []
 | x :: r => namesV x ++ namesL r
end
def namesB : Blk → List Nat
 | .var cs => namesL cs
 | .arv _ els => namesL els.flatten
 | .map es _ => namesL (es.map (·.2.1))
 | .it m _ _ _ => namesV m
 | .rcd _ e => namesL (e.map (·.2))
 | _ => []
def hasN (l : List Nat) (n : Nat) : Bool := l.any fun m => yC m n
def reach (h : List Blk) : Nat → List Nat → List Nat → List Nat
 | 0, _, acc => acc
 | _ + 1, [], acc => acc
 | n + 1, k :: todo, acc => if hasN acc k then reach h n todo acc else forceNat k fun k => reach h n (namesB (blk h k) ++ todo) (acc ++ [k])
def liveB (h : List Blk) (k : Nat) : Bool :=
 match h[k]? with
 | some .dead => false
 | some _ => true
 | none => false
mutual
def wfVB (h : List Blk) : V → Bool
 | .sl k _ _ => liveB h k
 | .ptr k _ _ => liveB h k
 | .mp k => liveB h k
 | .itr k => liveB h k
 | .agg cs => wfLB h cs
 | .tup cs => wfLB h cs
 | .clo _ cs => wfLB h cs
 | _ => true
def wfLB (h : List Blk) : List V → Bool
 | [] => true
 | x :: r => wfVB h x && wfLB h r
end
def wfEB (h : List Blk) : List (Nat × V) → Bool
 | [] => true
 | (_, x) :: r => wfVB h x && wfEB h r
def wfBB (h : List Blk) : List Blk → Bool
 | [] => true
 | .var cs :: r => wfLB h cs && wfBB h r
 | .dead :: r => wfBB h r
 | .arr _ _ :: r => wfBB h r
 | .arv _ els :: r => wfLB h els.flatten && wfBB h r
 | .map es _ :: r => wfLB h (es.map (·.2.1)) && wfBB h r
 | .it m _ _ _ :: r => wfVB h m && wfBB h r
 | .rcd _ e :: r => wfEB h e && wfBB h r
def keepB (h : List Blk) (fx : List Nat) : Bool := fx.all (liveB h)
def loadCsD (n : Option Nat) (f : Nat) (cs : List V) : Option V :=
 match n with
 | none => cs[f]?
 | some m => if f + m ≤ cs.length then some (.agg ((cs.drop f).take m)) else none
def loadBD (n : Option Nat) (i f : Nat) (b : Blk) : Option V :=
 match b with
 | .var cs => loadCsD n (i + f) cs
 | .arr _ els => match els[i]? with
  | some e => loadCsD n f e
  | none => none
 | .arv _ els => match els[i]? with
  | some e => loadCsD n f e
  | none => none
 | _ => none
def loadD (h : List Blk) (n : Option Nat) (p : V) : Option V :=
 match p with
 | .ptr k i f => loadBD n i f (blk h k)
 | .rp _ els i f => match els[i]? with
  | some e => loadCsD n f e
  | none => none
 | _ => none
def storeBD (n : Nat) (i f : Nat) (cs : List V) (b : Blk) : Option Blk :=
 match b with
 | .var old => if i + f + n ≤ old.length then some (.var (splice old (i + f) cs)) else none
 | .arr sz els => match els[i]? with
  | some e => if f + n ≤ sz ∧ cs.all isD = true then some (.arr sz (els.set i (splice e f cs))) else none
  | none => none
 | .arv sz els => match els[i]? with
  | some e => if f + n ≤ sz then some (.arv sz (els.set i (splice e f cs))) else none
  | none => none
 | _ => none
def storeD (bn : List Nat) (h : List Blk) (n : Nat) (p : V) (cs : List V) : Option (List Blk) :=
 match p with
 | .ptr k i f => if cs.length = n ∧ hasN bn k = false ∧ cs.all isC = true then (storeBD n i f cs (blk h k)).map fun b => h.set k b else none
 | _ => none
def arrSzB (z : Nat) (b : Blk) : Bool :=
 match b with
 | .arr s _ => decide (s = z)
 | .arv s _ => decide (s = z)
 | .var _ => decide (1 = z)
 | _ => false
def idxD (h : List Blk) (z : Nat) (n : Int) (x : V) : Option V :=
 match x with
 | .sl k i0 m => if arrSzB z (blk h k) = true ∧ 0 ≤ n ∧ n < m then some (.ptr k (i0 + n.toNat) 0) else none
 | .ro sz els => if sz = z ∧ 0 ≤ n ∧ n < els.length then some (.rp sz els n.toNat 0) else none
 | .bro sz els => if sz = z ∧ 0 ≤ n ∧ n < els.length then some (.rp sz els n.toNat 0) else none
 | .full sz els => if sz = z ∧ 0 ≤ n ∧ n < els.length then some (.rp sz els n.toNat 0) else none
 | _ => none
def lenD (x : V) : Option V :=
 match x with
 | .sl _ _ n => some (.i n)
 | .ro _ els => some (.i els.length)
 | .bro _ els => some (.i els.length)
 | .full _ els => some (.i els.length)
 | .v (.slice none 0 0) => some (.i 0)
 | _ => none
def viewD (h : List Blk) (x : V) : Option (Nat × List (List V)) :=
 match x with
 | .sl k i n => match blk h k with
  | .arr sz els => if i + n ≤ els.length then some (sz, (els.drop i).take n) else none
  | .var cs => if i + n ≤ cs.length ∧ ((cs.drop i).take n).all isD = true then some (1, ((cs.drop i).take n).map fun c => [c]) else none
  | _ => none
 | .ro sz els => some (sz, els)
 | .bro sz els => some (sz, els)
 | .full sz els => some (sz, els)
 | .v (.slice none 0 0) => some (0, [])
 | _ => none
def optD (o : Option V) : Option (Option Int) :=
 match o with
 | none => some none
 | some (.v (.int _ n)) => some (some n)
 | some _ => none
instance (n : Nat) (l u m : Option Int) : Decidable (slcOk n l u m) := by unfold slcOk; infer_instance
def slcD (h : List Blk) (z : Nat) (x : V) (l u m : Option Int) : Option V :=
 match x with
 | .sl k i n => if arrSzB z (blk h k) = true ∧ slcOk n l u m then some (.sl k (i + (l.getD 0).toNat) ((u.getD n).toNat - (l.getD 0).toNat)) else none
 | .ro sz els => if sz = z ∧ slcOk els.length l u m then some (roF sz u m els.length ((els.drop (l.getD 0).toNat).take ((u.getD els.length).toNat - (l.getD 0).toNat))) else none
 | .bro sz els => if sz = z ∧ slcOk els.length l u m then some (broF sz u m els.length ((els.drop (l.getD 0).toNat).take ((u.getD els.length).toNat - (l.getD 0).toNat))) else none
 | .full sz els => if sz = z ∧ slcOk els.length l u m then some (.bro sz ((els.drop (l.getD 0).toNat).take ((u.getD els.length).toNat - (l.getD 0).toNat))) else none
 | .v (.slice none 0 0) => if slcOk 0 l u m then some (.v (.slice none 0 0)) else none
 | _ => none
def buildD (E : Tr) : List V → List (Nat × Nat × Operand) → Option V
 | acc, [] => some (.agg acc)
 | acc, (off, sz, x) :: r => match cells? (evT E x) with
  | some cs => if cs.length = sz ∧ off + sz ≤ acc.length then buildD E (splice acc off cs) r else none
  | none => none
def litsD (E : Tr) (sz : Nat) : List (List V) → List (Nat × Operand) → Option (List (List V))
 | acc, [] => some acc
 | acc, (i, x) :: r => match cells? (evT E x) with
  | some cs => if cs.length = sz ∧ i < acc.length ∧ cs.all isD = true then litsD E sz (acc.set i cs) r else none
  | none => none
def freshB (h : List Blk) (k : Nat) : Bool :=
 match h[k]? with
 | some .dead => true
 | _ => false
def exD (ex : Bool) (k : IntKind) (c : Int) : Option V :=
 if ex then (if lo k ≤ c ∧ c ≤ hi k then some (.v (.int k c)) else none) else some (.v (.int k (k.wrap c)))
def quoD (ex : Bool) (k : IntKind) (a b : Int) : Option V :=
 if b ≠ 0 then exD ex k (a.tdiv b) else none
def remD (k : IntKind) (a b : Int) : Option V := if b ≠ 0 then some (.v (.int k (a.tmod b))) else none
def andBD (k : IntKind) (a b : Int) : Option V := some (.v (.int k (k.wrap ((yL k.bits a &&& yL k.bits b).toNat : Int))))
def orBD (k : IntKind) (a b : Int) : Option V := some (.v (.int k (k.wrap ((yL k.bits a ||| yL k.bits b).toNat : Int))))
def xorBD (k : IntKind) (a b : Int) : Option V := some (.v (.int k (k.wrap ((yL k.bits a ^^^ yL k.bits b).toNat : Int))))
def andNotBD (k : IntKind) (a b : Int) : Option V := some (.v (.int k (k.wrap ((yL k.bits a &&& ~~~(yL k.bits b)).toNat : Int))))
def ltZ (a b : Int) : Bool :=
 match a, b with
 | .ofNat m, .ofNat n => yN m n
 | .negSucc _, .ofNat _ => true
 | .ofNat _, .negSucc _ => false
 | .negSucc m, .negSucc n => yN n m
def eqZ (a b : Int) : Bool :=
 match a, b with
 | .ofNat m, .ofNat n => yC m n
 | .negSucc m, .negSucc n => yC m n
 | _, _ => false
theorem ltZ_eq (a b : Int) : ltZ a b = decide (a < b) := by
 rw [vH, decide_eq_true_eq]
 cases a <;> cases b <;> simp only [ltZ, Nat.blt_eq, vO, Int.negSucc_eq, true_iff, vG, false_iff] <;> omega
theorem eqZ_eq (a b : Int) : eqZ a b = (a == b) := by
 rw [vH, beq_iff_eq]
 cases a <;> cases b <;> simp only [eqZ, yR, vO, Int.negSucc_eq, vG, false_iff] <;> omega
def binD (op : BinOp) (ex : Bool) (k : IntKind) (a b : Int) : Option V :=
 match op with
 | .add => exD ex k (a + b)
 | .sub => exD ex k (a - b)
 | .mul => exD ex k (a * b)
 | .eql => some (.b (eqZ a b))
 | .neq => some (.b (!(eqZ a b)))
 | .lss => some (.b (ltZ a b))
 | .leq => some (.b (!(ltZ b a)))
 | .gtr => some (.b (ltZ b a))
 | .geq => some (.b (!(ltZ a b)))
 | .quo => quoD ex k a b
 | .rem => remD k a b
 | .and => andBD k a b
 | .or => orBD k a b
 | .xor => xorBD k a b
 | .andNot => andNotBD k a b
 | _ => none
def eqFsD (xs ys : List V) : List (Nat × TypeDesc) → Option Bool
 | [] => some true
 | f :: r => match xs[f.1]?, ys[f.1]? with
  | some (.v a), some (.v b) => if isKey f.2 a && isKey f.2 b then match eqFsD xs ys r with
    | some t => some (eqK a b && t)
    | none => none
   else none
  | _, _ => none
def shiftD (op : BinOp) (k : IntKind) (a b : Int) : Option V :=
 match op with
 | .shl => if 0 ≤ b then some (.v (.int k (k.wrap (a * 2 ^ (min b.toNat k.bits))))) else none
 | .shr => if 0 ≤ b then some (.v (.int k (a.fdiv (2 ^ (min b.toNat k.bits))))) else none
 | _ => none
structure Res where
 x : V
 E : Tr
 h : List Blk
def killIf (M : List Nat) (E : Tr) : Tr :=
 match M with
 | [] => E
 | _ => E.kill M
def one (E : Tr) (x : V) (h : List Blk) : Option (List Res) := some [⟨x, E, h⟩]
def oneO (E : Tr) (x : Option V) (h : List Blk) : Option (List Res) :=
 match x with
 | some x => some [⟨x, E, h⟩]
 | none => none
def frzT (k sz : Nat) (els : List (List V)) : Tr → Tr
 | .lf => .lf
 | .nd v l r => .nd (frzV k sz els v) (frzT k sz els l) (frzT k sz els r)
def frzD (fx : List Nat) : List Nat → Tr × List Blk → Option (Tr × List Blk)
 | [], p => some p
 | x :: r, p => match p.1.get x with
  | .sl k _ _ => match blk p.2 k with
   | .arr sz els => if hasN fx k then none else frzD fx r (frzT k sz els p.1, (p.2.map (frzB k sz els)).set k .dead)
   | _ => frzD fx r p
  | _ => frzD fx r p
def appNewD (E : Tr) (id sz bytes : Nat) (h : List Blk) (old new : List (List V)) : Option (List Res) :=
 if (old.length + new.length) * bytes ≤ 140737488355328 ∧ freshB h id = true then some [⟨.sl id 0 (old.length + new.length), E, h.set id (.arr sz (old ++ new))⟩] else none
def appBD (E : Tr) (fx bn : List Nat) (k i n sz bytes : Nat) (h : List Blk) (new : List (List V)) (b : Blk) : Option (List Res) :=
 match b with
 | .arr sz' els => if (sz' = sz ∧ i + n ≤ els.length ∧ (n + new.length) * bytes ≤ 140737488355328) ∧ hasN fx k = false ∧ hasN bn k = false then
   some [⟨.sl k 0 (n + new.length), E.kill [k], (h.map (killB [k])).set k (.arr sz ((els.drop i).take n ++ new))⟩] else none
 | _ => none
def appD (E : Tr) (fx bn : List Nat) (id sz bytes : Nat) (h : List Blk) (x : V) (new : List (List V)) : Option (List Res) :=
 match x with
 | .sl k i n => appBD E fx bn k i n sz bytes h new (blk h k)
 | .v (.slice none 0 0) => appNewD E id sz bytes h [] new
 | .full sz' els => if sz' = sz ∧ new.isEmpty = false then appNewD E id sz bytes h els new else none
 | _ => none
def copyD (E : Tr) (bn : List Nat) (sz : Nat) (h : List Blk) (x : V) (new : List (List V)) : Option (List Res) :=
 match x with
 | .sl k i n => match blk h k with
  | .arr sz' els => if sz' = sz ∧ i + n ≤ els.length ∧ hasN bn k = false then some [⟨.i (min new.length n : Nat), E, h.set k (.arr sz (els.take i ++ new.take n ++ els.drop (i + min new.length n)))⟩] else none
  | .var cs => if 1 = sz ∧ i + n ≤ cs.length ∧ hasN bn k = false then some [⟨.i (min new.length n : Nat), E, h.set k (.var (splice cs i (new.take n).flatten))⟩] else none
  | _ => none
 | _ => none
def eqnD (x : V) : Option (List Bool) :=
 match x with
 | .sl _ _ n => if n = 0 then some [true, false] else some [false]
 | .ro _ els => match els with
  | [] => some [true, false]
  | _ => some [false]
 | .bro _ els => match els with
  | [] => some [true, false]
  | _ => some [false]
 | .v (.slice none 0 0) => some [true]
 | _ => none
def mapD (h : List Blk) (x : V) : Option (Nat × List (Value × V × Nat) × Nat) :=
 match x with
 | .mp k => match blk h k with
  | .map es c => some (k, es, c)
  | _ => none
 | _ => none
def lookD (r : Option (Option (Nat × V))) (z : Value) (ok : Bool) : Option V :=
 match r with
 | some (some (_, v)) => some (if ok then .tup [v, .b true] else v)
 | some none => some (if ok then .tup [ofConst z, .b false] else ofConst z)
 | none => none
def msetD (r : Option (Option (Nat × V))) (key : Value) (x : V) (es : List (Value × V × Nat)) (c : Nat) : Option Blk :=
 match r with
 | some (some (i, _)) => some (.map (es.modify i fun e => (key, x, e.2.2)) c)
 | some none => some (.map (es ++ [(key, x, c)]) (c + 1))
 | none => none
def mdelD (r : Option (Option (Nat × V))) (es : List (Value × V × Nat)) (c : Nat) : Option Blk :=
 match r with
 | some (some (i, _)) => some (.map (es.eraseIdx i) c)
 | some none => some (.map es c)
 | none => none
def itD (h : List Blk) (x : V) : Option (Nat × V × Nat × List Nat × Nat) :=
 match x with
 | .ptr k 0 0 => match blk h k with
  | .it m since seen last => some (k, m, since, seen, last)
  | _ => none
 | _ => none
structure Ent where
 code : LCode
 rs : List LRes
 nt : Nat
 mv : Option Nat := none
abbrev YtD := List V → Tr × List Blk → Option (List (V × Tr × List Blk))
abbrev ItD := FuncId → List V → List Nat → Nat → YtD → List Blk → Option (List (List Blk))
abbrev CallD := FuncId → List V → List Blk → List Nat → Option (V × List Blk)
mutual
def lendOkB (h : List Blk) (g : Nat → Option Nat) : V → Bool
 | .sl k i n => match g k with
  | some _ => true
  | none => match blk h k with
   | .arr _ els => decide (i + n ≤ els.length)
   | _ => true
 | .agg cs => lendsOkB h g cs
 | .tup cs => lendsOkB h g cs
 | .clo _ cs => lendsOkB h g cs
 | _ => true
def lendsOkB (h : List Blk) (g : Nat → Option Nat) : List V → Bool
 | [] => true
 | x :: r => lendOkB h g x && lendsOkB h g r
end
def nodupB : List Nat → Bool
 | [] => true
 | k :: r => !(hasN r k) && nodupB r
def without (bn : List Nat) : List Nat → List Nat
 | [] => []
 | k :: r => if hasN bn k then without bn r else k :: without bn r
def afterD (E : Tr) (ι fx : List Nat) (h : List Blk) (r : V) (M : List Nat) (h2 : List Blk) : Option (List Res) :=
 if keepB h2 fx then some [⟨ren (back ι h.length) r, killIf M E, h2⟩] else none
def callI (E : Tr) (call : CallD) (fx bn : List Nat) (f : FuncId) (args : List V) (h : List Blk) (ι mv : List Nat) : Option (List Res) :=
 if (nodupB ι && ι.all fun k => decide (k < h.length) && !(hasN bn k)) && (lendsOkB h (pos ι) args && (mv.isEmpty || ι.all fun k => !(hasN fx k))) then
  match call f (lends h (pos ι) args) (ι.map fun k => renB (pos ι) (blk h k)) mv with
  | some (r, h') => afterD E ι fx h r (mv.filterMap (ι[·]?)) (setAll ι (h'.map (renB (back ι h.length))) (if mv.isEmpty then h else h.map (killB (mv.filterMap (ι[·]?)))))
  | none => none
 else none
def mvOf (o : Option Nat) (n : Nat) : List Nat :=
 match o with
 | some k => (yZ n).drop k
 | none => []
def callD (E : Tr) (call : CallD) (mvf : FuncId → Option Nat) (fx bn : List Nat) (f : FuncId) (args : List V) (h : List Blk) : Option (List Res) :=
 callI E call fx bn f args h (without bn (reach h 1000 (namesL args) [])) (mvOf (mvf f) (without bn (reach h 1000 (namesL args) [])).length)
def nextD (E : Tr) (k : Nat) (m : V) (es : List (Value × V × Nat)) (c since : Nat) (seen : List Nat) (last : Nat) (h : List Blk) : Option (List Res) :=
 if (es.all fun e => decide (e.2.2 < since)) = true ∧ since ≤ last then
  let left := es.filter fun e => !(seen.contains e.2.2)
  match left with
  | [] => some [⟨.tup [.b false], E, h⟩]
  | _ => some (left.map fun e => ⟨.tup [.b true, .v e.1, e.2.1], E, h.set k (.it m since (seen ++ [e.2.2]) c)⟩)
 else none
def o_pick (call : CallD) (mvf : FuncId → Option Nat) (fx bn : List Nat) (E : Tr) (h : List Blk) (b : Nat) (c : Operand) (a : Operand) (d : Operand) : Option (List Res) :=
 match evT E c with
  | .v (.bool t) => one E (if t then evT E a else evT E d) h
  | _ => none
def o_box (call : CallD) (mvf : FuncId → Option Nat) (fx bn : List Nat) (E : Tr) (h : List Blk) (b : Nat) (j : Nat) (x : Operand) : Option (List Res) :=
 match cells? (evT E x) with
  | some cs => if freshB h (b + j) then one E (.ptr (b + j) 0 0) (h.set (b + j) (.var cs)) else none
  | none => none
def o_alloc (call : CallD) (mvf : FuncId → Option Nat) (fx bn : List Nat) (E : Tr) (h : List Blk) (b : Nat) (j : Nat) (z : Value) : Option (List Res) :=
 match cells? (ofConst z) with
  | some cs => if freshB h (b + j) then one E (.ptr (b + j) 0 0) (h.set (b + j) (.var cs)) else none
  | none => none
def o_store (call : CallD) (mvf : FuncId → Option Nat) (fx bn : List Nat) (E : Tr) (h : List Blk) (b : Nat) (n : Nat) (a : Operand) (x : Operand) : Option (List Res) :=
 match cells? (evT E x) with
  | some cs => match storeD bn h n (evT E a) cs with
   | some h' => one E (.v (.tuple #[])) h'
   | none => none
  | none => none
def o_fld (call : CallD) (mvf : FuncId → Option Nat) (fx bn : List Nat) (E : Tr) (h : List Blk) (b : Nat) (off : Nat) (x : Operand) : Option (List Res) :=
 match evT E x with
  | .ptr k i f => one E (.ptr k i (f + off)) h
  | .rp sz els i f => one E (.rp sz els i (f + off)) h
  | _ => none
def o_idx (call : CallD) (mvf : FuncId → Option Nat) (fx bn : List Nat) (E : Tr) (h : List Blk) (b : Nat) (z : Nat) (x : Operand) (i : Operand) : Option (List Res) :=
 match evT E i with
  | .v (.int _ n) => oneO E (idxD h z n (evT E x)) h
  | _ => none
def o_bin (call : CallD) (mvf : FuncId → Option Nat) (fx bn : List Nat) (E : Tr) (h : List Blk) (b : Nat) (op : BinOp) (ex : Bool) (x : Operand) (y : Operand) : Option (List Res) :=
 match evT E x, evT E y with
  | .v (.int k a), .v (.int k' c) => if k' = k then oneO E (binD op ex k a c) h else none
  | _, _ => none
def o_shift (call : CallD) (mvf : FuncId → Option Nat) (fx bn : List Nat) (E : Tr) (h : List Blk) (b : Nat) (op : BinOp) (x : Operand) (y : Operand) : Option (List Res) :=
 match evT E x, evT E y with
  | .v (.int k a), .v (.int _ c) => oneO E (shiftD op k a c) h
  | _, _ => none
def o_lens (call : CallD) (mvf : FuncId → Option Nat) (fx bn : List Nat) (E : Tr) (h : List Blk) (b : Nat) (x : Operand) : Option (List Res) :=
 match evT E x with
  | .v (.string t) => one E (.i t.size) h
  | _ => none
def o_nilc (call : CallD) (mvf : FuncId → Option Nat) (fx bn : List Nat) (E : Tr) (h : List Blk) (b : Nat) (x : Operand) : Option (List Res) :=
 match evT E x with
  | .ptr k i f => one E (.ptr k i f) h
  | .clo f cs => one E (.clo f cs) h
  | _ => none
def o_not (call : CallD) (mvf : FuncId → Option Nat) (fx bn : List Nat) (E : Tr) (h : List Blk) (b : Nat) (x : Operand) : Option (List Res) :=
 match evT E x with
  | .v (.bool t) => one E (.b (!t)) h
  | _ => none
def o_neg (call : CallD) (mvf : FuncId → Option Nat) (fx bn : List Nat) (E : Tr) (h : List Blk) (b : Nat) (x : Operand) : Option (List Res) :=
 match evT E x with
  | .v (.int k a) => if lo k ≤ -a ∧ -a ≤ hi k then one E (.v (.int k (-a))) h else none
  | _ => none
def o_conv (call : CallD) (mvf : FuncId → Option Nat) (fx bn : List Nat) (E : Tr) (h : List Blk) (b : Nat) (ex : Bool) (k : IntKind) (x : Operand) : Option (List Res) :=
 match evT E x with
  | .v (.int _ a) => if ex then (if lo k ≤ a ∧ a ≤ hi k then one E (.v (.int k a)) h else none) else one E (.v (.int k (k.wrap a))) h
  | _ => none
def o_minmax (call : CallD) (mvf : FuncId → Option Nat) (fx bn : List Nat) (E : Tr) (h : List Blk) (b : Nat) (mx : Bool) (x : Operand) (y : Operand) : Option (List Res) :=
 match evT E x, evT E y with
  | .v (.int k a), .v (.int k' c) => if k' = k then one E (.v (.int k (if mx then max a c else min a c))) h else none
  | _, _ => none
def o_ext (call : CallD) (mvf : FuncId → Option Nat) (fx bn : List Nat) (E : Tr) (h : List Blk) (b : Nat) (x : Operand) (i : Nat) : Option (List Res) :=
 match evT E x with
  | .tup vs => oneO E vs[i]? h
  | _ => none
def o_field (call : CallD) (mvf : FuncId → Option Nat) (fx bn : List Nat) (E : Tr) (h : List Blk) (b : Nat) (off : Nat) (n : Option Nat) (x : Operand) : Option (List Res) :=
 match evT E x with
  | .agg cs => oneO E (loadCsD n off cs) h
  | _ => none
def o_slice (call : CallD) (mvf : FuncId → Option Nat) (fx bn : List Nat) (E : Tr) (h : List Blk) (b : Nat) (z : Nat) (x : Operand) (l : Option Operand) (u : Option Operand) (m : Option Operand) : Option (List Res) :=
 match optD (l.map (evT E)), optD (u.map (evT E)), optD (m.map (evT E)) with
  | some l, some u, some m => oneO E (slcD h z (evT E x) l u m) h
  | _, _, _ => none
def o_eqb (call : CallD) (mvf : FuncId → Option Nat) (fx bn : List Nat) (E : Tr) (h : List Blk) (b : Nat) (neg : Bool) (x : Operand) (y : Operand) : Option (List Res) :=
 match evT E x, evT E y with
  | .v (.bool p), .v (.bool q) => one E (.b (if neg then p != q else p == q)) h
  | _, _ => none
def o_eqn (call : CallD) (mvf : FuncId → Option Nat) (fx bn : List Nat) (E : Tr) (h : List Blk) (b : Nat) (neg : Bool) (x : Operand) (y : Operand) : Option (List Res) :=
 match evT E y with
  | .v _ => match eqnD (evT E x) with
   | some ts => some (ts.map fun t => ⟨.b (if neg then !t else t), E, h⟩)
   | none => none
  | _ => none
def o_lits (call : CallD) (mvf : FuncId → Option Nat) (fx bn : List Nat) (E : Tr) (h : List Blk) (b : Nat) (j : Nat) (sz : Nat) (n : Nat) (z : List Value) (ps : List (Nat × Operand)) : Option (List Res) :=
 match litsD E sz (yJ n (z.map .v)) ps with
  | some els => if freshB h (b + j) then one E (.sl (b + j) 0 n) (h.set (b + j) (.arr sz els)) else none
  | none => none
def o_litsf (call : CallD) (mvf : FuncId → Option Nat) (fx bn : List Nat) (E : Tr) (h : List Blk) (b : Nat) (xs : List Nat) (j : Nat) (sz : Nat) (n : Nat) (z : List Value) (ps : List (Nat × Operand)) : Option (List Res) :=
 match frzD (fx ++ bn) xs (E, h) with
  | some (E, h) => match litsD E sz (yJ n (z.map .v)) ps with
   | some els => if freshB h (b + j) then one E (.sl (b + j) 0 n) (h.set (b + j) (.arr sz els)) else none
   | none => none
  | none => none
def o_mk (call : CallD) (mvf : FuncId → Option Nat) (fx bn : List Nat) (E : Tr) (h : List Blk) (b : Nat) (j : Nat) (sz : Nat) (bytes : Nat) (z : List Value) (l : Operand) (c : Operand) : Option (List Res) :=
 match evT E l, evT E c with
  | .v (.int _ p), .v (.int _ q) => if ((0 ≤ p ∧ p ≤ q) ∧ (bytes : Int) * q ≤ 281474976710656 ∧ q ≤ 9223372036854775807) ∧ freshB h (b + j) = true then
    one E (.sl (b + j) 0 p.toNat) (h.set (b + j) (.arr sz (yJ p.toNat (z.map .v)))) else none
  | _, _ => none
def o_mkv (call : CallD) (mvf : FuncId → Option Nat) (fx bn : List Nat) (E : Tr) (h : List Blk) (b : Nat) (j : Nat) (sz : Nat) (bytes : Nat) (z : List Value) (l : Operand) (c : Operand) : Option (List Res) :=
 match evT E l, evT E c with
  | .v (.int _ p), .v (.int _ q) => if ((0 ≤ p ∧ p ≤ q) ∧ (bytes : Int) * q ≤ 281474976710656 ∧ q ≤ 9223372036854775807) ∧ freshB h (b + j) = true then
    one E (.sl (b + j) 0 p.toNat) (h.set (b + j) (.arv sz (yJ p.toNat (z.map .v)))) else none
  | _, _ => none
def o_mkmap (call : CallD) (mvf : FuncId → Option Nat) (fx bn : List Nat) (E : Tr) (h : List Blk) (b : Nat) (j : Nat) (r : Option Operand) : Option (List Res) :=
 if freshB h (b + j) then match r with
   | none => one E (.mp (b + j)) (h.set (b + j) (.map [] 0))
   | some x => match evT E x with
    | .v (.int _ _) => one E (.mp (b + j)) (h.set (b + j) (.map [] 0))
    | _ => none
  else none
def o_lookup (call : CallD) (mvf : FuncId → Option Nat) (fx bn : List Nat) (E : Tr) (h : List Blk) (b : Nat) (kd : TypeDesc) (z : Value) (ok : Bool) (m : Operand) (k : Operand) : Option (List Res) :=
 match evT E k with
  | .v key => if isKey kd key then match evT E m with
    | .v (.map none) => oneO E (lookD (some none) z ok) h
    | m => match mapD h m with
     | some (_, es, _) => oneO E (lookD (mfind kd key es 0) z ok) h
     | none => none
   else none
  | _ => none
def o_mset (call : CallD) (mvf : FuncId → Option Nat) (fx bn : List Nat) (E : Tr) (h : List Blk) (b : Nat) (kd : TypeDesc) (m : Operand) (k : Operand) (x : Operand) : Option (List Res) :=
 match evT E k with
  | .v key => if isKey kd key then match mapD h (evT E m) with
    | some (kb, es, c) => if hasN bn kb then none else match msetD (mfind kd key es 0) key (evT E x) es c with
     | some B => one E (.v (.tuple #[])) (h.set kb B)
     | none => none
    | none => none
   else none
  | _ => none
def o_mdel (call : CallD) (mvf : FuncId → Option Nat) (fx bn : List Nat) (E : Tr) (h : List Blk) (b : Nat) (kd : TypeDesc) (m : Operand) (k : Operand) : Option (List Res) :=
 match evT E k with
  | .v key => if isKey kd key then match mapD h (evT E m) with
    | some (kb, es, c) => if hasN bn kb then none else match mdelD (mfind kd key es 0) es c with
     | some B => one E (.v (.tuple #[])) (h.set kb B)
     | none => none
    | none => none
   else none
  | _ => none
def o_mlen (call : CallD) (mvf : FuncId → Option Nat) (fx bn : List Nat) (E : Tr) (h : List Blk) (b : Nat) (m : Operand) : Option (List Res) :=
 match mapD h (evT E m) with
  | some (_, es, _) => one E (.i es.length) h
  | none => none
def o_range (call : CallD) (mvf : FuncId → Option Nat) (fx bn : List Nat) (E : Tr) (h : List Blk) (b : Nat) (j : Nat) (m : Operand) : Option (List Res) :=
 match mapD h (evT E m) with
  | some (_, _, c) => if freshB h (b + j) then one E (.ptr (b + j) 0 0) (h.set (b + j) (.it (evT E m) c [] c)) else none
  | none => none
def o_next (call : CallD) (mvf : FuncId → Option Nat) (fx bn : List Nat) (E : Tr) (h : List Blk) (b : Nat) (i : Operand) : Option (List Res) :=
 match itD h (evT E i) with
  | some (k, m, since, seen, last) => match mapD h m with
   | some (_, es, c) => if hasN bn k then none else nextD E k m es c since seen last h
   | none => none
  | none => none
def o_entry (call : CallD) (mvf : FuncId → Option Nat) (fx bn : List Nat) (E : Tr) (h : List Blk) (b : Nat) (i : Operand) : Option (List Res) :=
 match itD h (evT E i) with
  | some (_, m, _, seen, last) => match mapD h m with
   | some (_, es, c) => if last = c then match seen.getLast? with
     | some st => match es.find? fun e => e.2.2 == st with
      | some e => one E (.tup [.v e.1, e.2.1]) h
      | none => none
     | none => none
    else none
   | none => none
  | none => none
def o_append (call : CallD) (mvf : FuncId → Option Nat) (fx bn : List Nat) (E : Tr) (h : List Blk) (b : Nat) (j : Nat) (sz : Nat) (bytes : Nat) (x : Operand) (y : Operand) : Option (List Res) :=
 match viewD h (evT E y) with
  | some (sz', new) => if new.isEmpty = true ∨ sz' = sz then appD E fx bn (b + j) sz bytes h (evT E x) new else none
  | none => none
def o_copy (call : CallD) (mvf : FuncId → Option Nat) (fx bn : List Nat) (E : Tr) (h : List Blk) (b : Nat) (sz : Nat) (x : Operand) (y : Operand) : Option (List Res) :=
 match viewD h (evT E y) with
  | some (sz', new) => if new.isEmpty = true ∨ sz' = sz then copyD E bn sz h (evT E x) new else none
  | none => none
def o_call (call : CallD) (mvf : FuncId → Option Nat) (fx bn : List Nat) (E : Tr) (h : List Blk) (b : Nat) (f : FuncId) (xs : List Operand) : Option (List Res) :=
 callD E call mvf fx bn f (xs.map (evT E)) h
def o_callv (call : CallD) (mvf : FuncId → Option Nat) (fx bn : List Nat) (E : Tr) (h : List Blk) (b : Nat) (f : Operand) (xs : List Operand) : Option (List Res) :=
 match evT E f with
  | .clo g cs => callD E call mvf fx bn g (xs.map (evT E) ++ cs) h
  | _ => none
def o_eqf (E : Tr) (h : List Blk) (neg : Bool) (ks : List (Nat × TypeDesc)) (x y : Operand) : Option (List Res) :=
 match aggC (evT E x), aggC (evT E y) with
 | some xs, some ys => match eqFsD xs ys ks with
  | some t => one E (.b (if neg then !t else t)) h
  | none => none
 | _, _ => none
def slcAD (h : List Blk) (n : Nat) (x : V) (l u m : Option Int) : Option V :=
 match x with
 | .ptr k i f => match blk h k with
  | .var cs => if i + f + n ≤ cs.length ∧ slcOk n l u m then some (.sl k (i + f + (l.getD 0).toNat) ((u.getD n).toNat - (l.getD 0).toNat)) else none
  | _ => none
 | .rp _ els i f => match els[i]? with
  | some e => if slcOk n l u m ∧ f + n ≤ e.length then some (.bro 1 ((((e.drop f).drop (l.getD 0).toNat).take ((u.getD n).toNat - (l.getD 0).toNat)).map fun c => [c])) else none
  | none => none
 | _ => none
def intD (x : V) : Option Int :=
 match x with
 | .v (.int _ n) => some n
 | _ => none
def strD (x : V) : Option ByteArray :=
 match x with
 | .v (.string t) => some t
 | _ => none
def peqD (x y : V) : Option Bool :=
 match y with
 | .v (.pointer none) => match x with
  | .v (.pointer none) => some true
  | .ptr _ _ _ => some false
  | .rp _ _ _ _ => some false
  | _ => none
 | _ => none
def sslcD (t : ByteArray) (l u : Option Int) : Option V :=
 if slcOk t.size l u none then some (.v (.string (t.extract (l.getD 0).toNat (u.getD t.size).toNat))) else none
def sbinD (op : BinOp) (t u : ByteArray) : Option V :=
 match op with
 | .add => if t.size + u.size ≤ 9223372036854775807 then some (.v (.string (t ++ u))) else none
 | .eql => some (.b (t.toList == u.toList))
 | .neq => some (.b (!(t.toList == u.toList)))
 | .lss => some (.b (Op.bytesLess t.toList u.toList))
 | .leq => some (.b (Op.bytesLess t.toList u.toList || t.toList == u.toList))
 | .gtr => some (.b (!(Op.bytesLess t.toList u.toList || t.toList == u.toList)))
 | .geq => some (.b (!(Op.bytesLess t.toList u.toList)))
 | _ => none
def aggD (x : V) : Option (List V) :=
 match x with
 | .agg cs => some cs
 | _ => none
def fldD (off : Nat) (x : V) : Option V :=
 match x with
 | .ptr k i f => some (.ptr k i (f + off))
 | .rp sz els i f => some (.rp sz els i (f + off))
 | _ => none
def aeqD (neg : Bool) (ks : List (Nat × TypeDesc)) (x y : V) : Option V :=
 match aggC x, aggC y with
 | some xs, some ys => match eqFsD xs ys ks with
  | some t => some (.b (if neg then !t else t))
  | none => none
 | _, _ => none
def mmD (mx : Bool) : V → List V → Option V
 | x, [] => some x
 | x, y :: r => match x, y with
  | .v (.int k a), .v (.int k' b) => if k' = k then mmD mx (.v (.int k (if mx then max a b else min a b))) r else none
  | _, _ => none
def primD (h : List Blk) (p : Prim) (xs : List V) : Option V :=
 match p, xs with
 | .pidx n sz, [x, i] => (intD i).bind fun j => if 0 ≤ j ∧ j < n then fldD (j.toNat * sz) x else none
 | .pslc n false false false, [x] => slcAD h n x none none none
 | .pslc n true false false, [x, l] => (intD l).bind fun l => slcAD h n x (some l) none none
 | .pslc n false true false, [x, u] => (intD u).bind fun u => slcAD h n x none (some u) none
 | .pslc n true true false, [x, l, u] => (intD l).bind fun l => (intD u).bind fun u => slcAD h n x (some l) (some u) none
 | .pslc n false true true, [x, u, m] => (intD u).bind fun u => (intD m).bind fun m => slcAD h n x none (some u) (some m)
 | .pslc n true true true, [x, l, u, m] => (intD l).bind fun l => (intD u).bind fun u => (intD m).bind fun m => slcAD h n x (some l) (some u) (some m)
 | .peq neg, [x, y] => (peqD x y).bind fun t => some (.b (if neg then !t else t))
 | .aidx n sz row, [x, i] => (intD i).bind fun j => if 0 ≤ j ∧ j < n then (aggD x).bind fun cs => loadCsD (if row then some sz else none) (j.toNat * sz) cs else none
 | .aeq neg ks, [x, y] => aeqD neg ks x y
 | .sidx, [x, i] => (strD x).bind fun t => (intD i).bind fun j => if 0 ≤ j then t[j.toNat]?.bind fun b => some (.v (.int .u8 b.toNat)) else none
 | .sslc false false, [x] => (strD x).bind fun t => sslcD t none none
 | .sslc true false, [x, l] => (strD x).bind fun t => (intD l).bind fun l => sslcD t (some l) none
 | .sslc false true, [x, u] => (strD x).bind fun t => (intD u).bind fun u => sslcD t none (some u)
 | .sslc true true, [x, l, u] => (strD x).bind fun t => (intD l).bind fun l => (intD u).bind fun u => sslcD t (some l) (some u)
 | .sbin op, [x, y] => (strD x).bind fun t => (strD y).bind fun u => sbinD op t u
 | .mm mx, x :: r => mmD mx x r
 | _, _ => none
def keyAD (ks : List (Nat × TypeDesc)) (x : V) : Option (List Value) :=
 match x with
 | .agg cs => match cs.mapM vOf with
  | some us => if us.length = ks.length ∧ (us.zip ks).all (fun p => isKey p.2.2 p.1) = true then some us else none
  | none => none
 | _ => none
def keysAB (ks : List (Nat × TypeDesc)) (es : List (Value × V × Nat)) : Bool :=
 es.all fun e => match e.1 with
  | .agg ws => decide (ws.size = ks.length) && (ws.toList.zip ks).all (fun p => isKey p.2.2 p.1)
  | _ => false
def clrD (E : Tr) (bn : List Nat) (sz : Nat) (z : List Value) (h : List Blk) (x : V) : Option (List Res) :=
 match x with
 | .sl k i n => match blk h k with
  | .arr sz' els => if sz' = sz ∧ i + n ≤ els.length ∧ hasN bn k = false then one E (.v (.tuple #[])) (h.set k (.arr sz (els.take i ++ yJ n (z.map .v) ++ els.drop (i + n)))) else none
  | _ => none
 | .v (.slice none 0 0) => one E (.v (.tuple #[])) h
 | _ => none
def lookAD (h : List Blk) (ks : List (Nat × TypeDesc)) (us : List Value) (z : Value) (ok : Bool) (m : V) : Option V :=
 match m with
 | .v (.map none) => lookD (some none) z ok
 | m => match mapD h m with
  | some (_, es, _) => if keysAB ks es then lookD (some (mfindA us es 0)) z ok else none
  | none => none
def litvD (sz : Nat) : List (List V) → List (Nat × V) → Option (List (List V))
 | acc, [] => some acc
 | acc, (i, x) :: r => match cells? x with
  | some cs => if (cs.length = sz ∧ i < acc.length) ∧ cs.all isC = true then litvD sz (acc.set i cs) r else none
  | none => none
def viewVD (h : List Blk) (x : V) : Option (Nat × List (List V)) :=
 match x with
 | .sl k i n => match blk h k with
  | .arv sz els => if i + n ≤ els.length then some (sz, (els.drop i).take n) else none
  | _ => none
 | _ => none
def appVD (E : Tr) (fx bn : List Nat) (id sz bytes : Nat) (h : List Blk) (x : V) (new : List (List V)) : Option (List Res) :=
 match x with
 | .sl k i n => match blk h k with
  | .arv sz' els => if (sz' = sz ∧ i + n ≤ els.length ∧ (n + new.length) * bytes ≤ 140737488355328) ∧ hasN fx k = false ∧ hasN bn k = false then
    some [⟨.sl k 0 (n + new.length), E.kill [k], (h.map (killB [k])).set k (.arv sz (((els.drop i).take n ++ new).map (kills [k])))⟩] else none
  | _ => none
 | .v (.slice none 0 0) => if new.length * bytes ≤ 140737488355328 ∧ freshB h id = true then one E (.sl id 0 new.length) (h.set id (.arv sz new)) else none
 | _ => none
def effD (E : Tr) (fx bn : List Nat) (p : Eff) (id : Nat) (xs : List V) (h : List Blk) : Option (List Res) :=
 match p, xs with
 | .litv sz n z ix, xs => if xs.length = ix.length then match litvD sz (yJ n (z.map .v)) (ix.zip xs) with
  | some els => if freshB h id then one E (.sl id 0 n) (h.set id (.arv sz els)) else none
  | none => none
  else none
 | .appv sz bytes, [x, y] => match viewVD h y with
  | some (sz', new) => if sz' = sz ∧ new.isEmpty = false ∧ (new.all fun r => r.all isC) = true then appVD E fx bn id sz bytes h x new else none
  | none => none
 | .clr sz z, [x] => clrD E bn sz z h x
 | .look ks z ok, [m, k] => match keyAD ks k with
  | some us => oneO E (lookAD h ks us z ok m) h
  | none => none
 | .mset ks, [m, k, x] => match keyAD ks k with
  | some us => match mapD h m with
   | some (kb, es, c) => if hasN bn kb = false ∧ keysAB ks es = true then match msetD (some (mfindA us es 0)) (.agg us.toArray) x es c with
    | some B => one E (.v (.tuple #[])) (h.set kb B)
    | none => none
   else none
   | none => none
  | none => none
 | .b2s, [x] => match viewD h x with
  | some (sz, els) => if els.isEmpty = true ∨ sz = 1 then match bytesOf els with
   | some l => one E (.v (.string ⟨l.toArray⟩)) h
   | none => none
  else none
  | none => none
 | _, _ => none
def opD (call : CallD) (mvf : FuncId → Option Nat) (fx bn : List Nat) (o : LOp) (E : Tr) (h : List Blk) (b : Nat) : Option (List Res) :=
 match o with
 | .mov x => one E (evT E x) h
 | .pick c a d => o_pick call mvf fx bn E h b c a d
 | .box j x => o_box call mvf fx bn E h b j x
 | .alloc j z => o_alloc call mvf fx bn E h b j z
 | .load n a => oneO E (loadD h n (evT E a)) h
 | .store n a x => o_store call mvf fx bn E h b n a x
 | .fld off x => o_fld call mvf fx bn E h b off x
 | .idx z x i => o_idx call mvf fx bn E h b z x i
 | .bin op ex x y => o_bin call mvf fx bn E h b op ex x y
 | .shift op x y => o_shift call mvf fx bn E h b op x y
 | .len x => oneO E (lenD (evT E x)) h
 | .lens x => o_lens call mvf fx bn E h b x
 | .nilc x => o_nilc call mvf fx bn E h b x
 | .not x => o_not call mvf fx bn E h b x
 | .neg x => o_neg call mvf fx bn E h b x
 | .conv ex k x => o_conv call mvf fx bn E h b ex k x
 | .minmax mx x y => o_minmax call mvf fx bn E h b mx x y
 | .ext x i => o_ext call mvf fx bn E h b x i
 | .fn f caps => one E (.clo f (caps.map (evT E))) h
 | .field off n x => o_field call mvf fx bn E h b off n x
 | .slice z x l u m => o_slice call mvf fx bn E h b z x l u m
 | .build z ps => oneO E (buildD E (z.map .v) ps) h
 | .eqf neg ks x y => o_eqf E h neg ks x y
 | .eqb neg x y => o_eqb call mvf fx bn E h b neg x y
 | .eqn neg x y => o_eqn call mvf fx bn E h b neg x y
 | .lits j sz n z ps => o_lits call mvf fx bn E h b j sz n z ps
 | .litsf xs j sz n z ps => o_litsf call mvf fx bn E h b xs j sz n z ps
 | .mk j sz bytes z l c => o_mk call mvf fx bn E h b j sz bytes z l c
 | .mkv j sz bytes z l c => o_mkv call mvf fx bn E h b j sz bytes z l c
 | .mkmap j r => o_mkmap call mvf fx bn E h b j r
 | .lookup kd z ok m k => o_lookup call mvf fx bn E h b kd z ok m k
 | .mset kd m k x => o_mset call mvf fx bn E h b kd m k x
 | .mdel kd m k => o_mdel call mvf fx bn E h b kd m k
 | .mlen m => o_mlen call mvf fx bn E h b m
 | .range j m => o_range call mvf fx bn E h b j m
 | .next i => o_next call mvf fx bn E h b i
 | .entry i => o_entry call mvf fx bn E h b i
 | .append j sz bytes x y => o_append call mvf fx bn E h b j sz bytes x y
 | .copy sz x y => o_copy call mvf fx bn E h b sz x y
 | .call f xs => o_call call mvf fx bn E h b f xs
 | .callv f xs => o_callv call mvf fx bn E h b f xs
 | .prim p xs => oneO E (primD h p (xs.map (evT E))) h
 | .eff p j xs => effD E fx bn p (b + j) (xs.map (evT E)) h
 | _ => none
end Go.Fx
namespace Go.Fx
open Go.RowKit
mutual
theorem killN_nil : ∀ x : V, kill [] x = x
 | .any => by simp [kill]
 | .v _ => by simp [kill]
 | .ro _ _ => by simp [kill]
 | .bro _ _ => by simp [kill]
 | .full _ _ => by simp [kill]
 | .rp _ _ _ _ => by simp [kill]
 | .sl _ _ _ => by simp [kill]
 | .ptr _ _ _ => by simp [kill]
 | .mp _ => by simp [kill]
 | .itr _ => by simp [kill]
 | .agg cs => by simp [kill, killsN_nil cs]
 | .tup cs => by simp [kill, killsN_nil cs]
 | .clo _ cs => by simp [kill, killsN_nil cs]
theorem killsN_nil : ∀ xs : List V, kills [] xs = xs
 | [] => rfl
 | x :: r => by simp [kills, killN_nil x, killsN_nil r]
end
theorem killE_nilN : ∀ e : Env, killE [] e = e
 | [] => rfl
 | (_, x) :: r => by simp [killE, killN_nil x, killE_nilN r]
theorem killN_B (b : Blk) : killB [] b = b := by
 cases b with
 | var cs => simp [killB, killsN_nil]
 | arv sz els => simp [killB, killsN_nil, funext killsN_nil]
 | map es c =>
  simp only [killB, killN_nil]
  congr 1
  simp
 | it m s sn l => simp [killB, killN_nil]
 | rcd t e => simp [killB, killE_nilN]
 | _ => rfl
theorem hasN_iff {l : List Nat} {n : Nat} : hasN l n = true ↔ n ∈ l := by
 unfold hasN
 simp only [List.any_eq_true, yR]
 exact ⟨fun ⟨x, hx, e⟩ => e ▸ hx, fun h => ⟨n, h, rfl⟩⟩
theorem hasN_not {l : List Nat} {n : Nat} (h : hasN l n = false) : n ∉ l := fun hm => by rw [hasN_iff.2 hm] at h; cases h
mutual
theorem wk_refl : ∀ x : V, wk x x
 | .any => by simp [wk]
 | .v _ => by simp [wk]
 | .ro _ _ => by simp [wk, wkR]
 | .bro _ _ => by simp [wk, wkB]
 | .full _ _ => by simp [wk]
 | .rp _ _ _ _ => by simp [wk]
 | .sl _ _ _ => by simp [wk]
 | .ptr _ _ _ => by simp [wk]
 | .mp _ => by simp [wk]
 | .itr _ => by simp [wk]
 | .agg cs => by simp [wk, wkL_refl cs]
 | .tup cs => by simp [wk, wkL_refl cs]
 | .clo _ cs => by simp [wk, wkL_refl cs]
theorem wkL_refl : ∀ xs : List V, wkL xs xs
 | [] => by simp [wkL]
 | x :: r => by simp [wkL, wk_refl x, wkL_refl r]
end
mutual
theorem lendOk_of {h : List Blk} {g : Nat → Option Nat} : ∀ x : V, lendOkB h g x = true → lendOk h g x
 | .sl k i n, hx => by
  simp only [lendOkB] at hx
  simp only [lendOk]
  split
  ·trivial
  ·rename_i hg
   simp only [hg] at hx
   split
   ·rename_i hb; simp only [hb] at hx; simpa using hx
   ·trivial
 | .agg cs, hx => lendsOk_of cs (by simpa [lendOkB] using hx)
 | .tup cs, hx => lendsOk_of cs (by simpa [lendOkB] using hx)
 | .clo _ cs, hx => lendsOk_of cs (by simpa [lendOkB] using hx)
 | .any, _ | .v _, _ | .ro _ _, _ | .bro _ _, _ | .full _ _, _ | .rp _ _ _ _, _ | .ptr _ _ _, _ | .mp _, _ | .itr _, _ => by simp [lendOk]
theorem lendsOk_of {h : List Blk} {g : Nat → Option Nat} : ∀ xs : List V, lendsOkB h g xs = true → lendsOk h g xs
 | [], _ => by simp [lendsOk]
 | x :: r, hx => by
  simp only [lendsOkB, yB] at hx
  exact ⟨lendOk_of x hx.1, lendsOk_of r hx.2⟩
end
theorem live_of {h : List Blk} {k : Nat} (hl : liveB h k = true) : liveP h k := by
 unfold liveB at hl
 unfold liveP
 cases hb : h[k]? with
 | none => rw [hb] at hl; cases hl
 | some B => rw [hb] at hl; cases B <;> first | exact True.intro | cases hl
theorem keep_of {h : List Blk} {fx : List Nat} (hk : keepB h fx = true) : keepP fx h :=
 keepP_mk fun k hk' => live_of (yH.1 hk k hk')
theorem nodup_of : ∀ {l : List Nat}, nodupB l = true → l.Nodup
 | [], _ => List.nodup_nil
 | k :: r, h => by
  simp only [nodupB, yB, yQ] at h
  exact yV.2 ⟨hasN_not h.1, nodup_of h.2⟩
theorem loadCs_ok {n : Option Nat} {f : Nat} {cs : List V} {x : V} {K : V → Prop} (h : loadCsD n f cs = some x) (hK : K x) : loadCs n f cs K := by
 unfold loadCsD at h
 unfold loadCs
 split at h
 ·rw [h]; exact hK
 ·split at h
  ·rename_i hc; simp only [yA] at h; subst h; exact ⟨hc, hK⟩
  ·cases h
theorem loadB_ok {n : Option Nat} {i f : Nat} {b : Blk} {x : V} {K : V → Prop} (h : loadBD n i f b = some x) (hK : K x) : loadB n i f b K := by
 unfold loadBD at h
 unfold loadB
 split at h
 ·exact loadCs_ok h hK
 ·split at h
  ·rename_i e he
   obtain ⟨hi, rfl⟩ := yD.1 he
   exact ⟨hi, loadCs_ok h hK⟩
  ·cases h
 ·split at h
  ·rename_i e he
   obtain ⟨hi, rfl⟩ := yD.1 he
   exact ⟨hi, loadCs_ok h hK⟩
  ·cases h
 ·cases h
theorem load_ok {h : List Blk} {n : Option Nat} {p x : V} {K : V → Prop} (hd : loadD h n p = some x) (hK : K x) : loadP h n p K := by
 unfold loadD at hd
 unfold loadP
 split at hd
 ·exact loadB_ok hd hK
 ·split at hd
  ·rename_i e he
   obtain ⟨hi, rfl⟩ := yD.1 he
   exact ⟨hi, loadCs_ok hd hK⟩
  ·cases hd
 ·cases hd
theorem storeB_ok {n i f : Nat} {cs : List V} {b b' : Blk} {K : Blk → Prop} (h : storeBD n i f cs b = some b') (hK : K b') : storeB n i f cs b K := by
 unfold storeBD at h
 unfold storeB
 split at h
 ·split at h
  ·rename_i hc; simp only [yA] at h; subst h; exact ⟨hc, hK⟩
  ·cases h
 ·split at h
  ·rename_i e he
   obtain ⟨hi, rfl⟩ := yD.1 he
   split at h
   ·rename_i hc; simp only [yA] at h; subst h; exact ⟨hc, hi, hK⟩
   ·cases h
  ·cases h
 ·split at h
  ·rename_i e he
   obtain ⟨hi, rfl⟩ := yD.1 he
   split at h
   ·rename_i hc; simp only [yA] at h; subst h; exact ⟨hc, hi, hK⟩
   ·cases h
  ·cases h
 ·cases h
theorem store_ok {bn : List Nat} {h h' : List Blk} {n : Nat} {p : V} {cs : List V} {K : List Blk → Prop} (hd : storeD bn h n p cs = some h') (hK : K h') : storeP bn h n p cs K := by
 unfold storeD at hd
 unfold storeP
 split at hd
 ·split at hd
  ·rename_i hc
   simp only [Option.map_eq_some_iff] at hd
   obtain ⟨b, hb, rfl⟩ := hd
   exact ⟨⟨hc.1, hasN_not hc.2.1⟩, hc.2.2, storeB_ok hb hK⟩
  ·cases hd
 ·cases hd
theorem arrSz_ok {z : Nat} {b : Blk} (h : arrSzB z b = true) : arrSz z b := by
 unfold arrSzB at h
 unfold arrSz
 split at h <;> simp_all
theorem idx_ok {h : List Blk} {z : Nat} {n : Int} {x y : V} {K : V → Prop} (hd : idxD h z n x = some y) (hK : K y) : idxP h z n x K := by
 unfold idxD at hd
 unfold idxP
 split at hd
 ·split at hd
  ·rename_i hc; simp only [yA] at hd; subst hd; exact ⟨arrSz_ok hc.1, hc.2, hK⟩
  ·cases hd
 all_goals first
  | (split at hd
     ·rename_i hc; simp only [yA] at hd; subst hd; exact ⟨hc.1, hc.2, hK⟩
     ·cases hd)
  | cases hd
theorem len_ok {x y : V} {K : V → Prop} (hd : lenD x = some y) (hK : K y) : lenP x K := by
 unfold lenD at hd
 unfold lenP
 split at hd <;> first | (simp only [yA] at hd; subst hd; first | exact fun _ => hK | exact hK) | cases hd
theorem view_ok {h : List Blk} {x : V} {p : Nat × List (List V)} {K : Nat → List (List V) → Prop} (hd : viewD h x = some p) (hK : K p.1 p.2) : viewK h x K := by
 unfold viewD at hd
 unfold viewK
 split at hd
 ·split at hd
  ·rename_i hb
   split at hd
   ·rename_i hc; simp only [yA] at hd; subst hd; simp only [hb]; exact ⟨hc, hK⟩
   ·cases hd
  ·rename_i hb
   split at hd
   ·rename_i hc; simp only [yA] at hd; subst hd; simp only [hb]; exact ⟨hc, hK⟩
   ·cases hd
  ·cases hd
 all_goals first | (simp only [yA] at hd; subst hd; exact hK) | cases hd
theorem opt_ok {o : Option V} {r : Option Int} {K : Option Int → Prop} (hd : optD o = some r) (hK : K r) : optI o K := by
 unfold optD at hd
 unfold optI
 split at hd <;> first | (simp only [yA] at hd; subst hd; exact hK) | cases hd
theorem slc_ok {h : List Blk} {z : Nat} {x y : V} {l u m : Option Int} {K : V → Prop} (hd : slcD h z x l u m = some y) (hK : K y) : slcP h z x l u m K := by
 unfold slcD at hd
 unfold slcP
 split at hd
 ·split at hd
  ·rename_i hc; simp only [yA] at hd; subst hd; exact ⟨arrSz_ok hc.1, hc.2, hK⟩
  ·cases hd
 all_goals first
  | (split at hd
     ·rename_i hc; simp only [yA] at hd; subst hd; exact ⟨hc.1, hc.2, hK⟩
     ·cases hd)
  | (split at hd
     ·rename_i hc; simp only [yA] at hd; subst hd; exact ⟨hc, hK⟩
     ·cases hd)
  | cases hd
section
variable {e : Env} {E : Tr} (he : ∀ i, get e i = E.get i)
include he
theorem ev_ok (x : Operand) : ev e x = evT E x := by
 cases x with
 | tmp t => exact he t
 | _ => rfl
theorem evs_ok (xs : List Operand) : xs.map (ev e) = xs.map (evT E) := by
 apply List.map_congr_left
 intro x _
 exact ev_ok he x
theorem evo_ok (x : Option Operand) : x.map (ev e) = x.map (evT E) := by
 cases x with
 | none => rfl
 | some x => simp [ev_ok he x]
theorem build_ok {y : V} {K : V → Prop} (hK : K y) : ∀ (ps : List (Nat × Nat × Operand)) (acc : List V), buildD E acc ps = some y → buildP e acc ps K
 | [], acc, h => by simp only [buildD, yA] at h; subst h; exact hK
 | (off, sz, x) :: r, acc, h => by
  simp only [buildD] at h
  simp only [buildP, ev_ok he x]
  split at h
  ·rename_i cs hc
   split at h
   ·rename_i hq; rw [hc]; exact ⟨hq, build_ok hK r _ h⟩
   ·cases h
  ·cases h
theorem lits_ok {sz : Nat} {els : List (List V)} {K : List (List V) → Prop} (hK : K els) : ∀ (ps : List (Nat × Operand)) (acc : List (List V)), litsD E sz acc ps = some els → litsP e sz acc ps K
 | [], acc, h => by simp only [litsD, yA] at h; subst h; exact hK
 | (i, x) :: r, acc, h => by
  simp only [litsD] at h
  simp only [litsP, ev_ok he x]
  split at h
  ·rename_i cs hc
   split at h
   ·rename_i hq; rw [hc]; exact ⟨⟨⟨hq.1, hq.2.1⟩, hq.2.2⟩, lits_ok hK r _ h⟩
   ·cases h
  ·cases h
end
theorem get_frzT (k sz : Nat) (els : List (List V)) : ∀ (E : Tr) (i : Nat), (frzT k sz els E).get i = frzV k sz els (E.get i)
 | .lf, _ => by simp [frzT, Tr.get, frzV]
 | .nd v l r, i => by
  cases i with
  | zero => rfl
  | succ j =>
   simp only [frzT, Tr.get]
   split
   ·exact get_frzT k sz els l _
   ·exact get_frzT k sz els r _
theorem frzD_ok {fx : List Nat} {b : Nat} {E' : Tr} {h' : List Blk} {K : St → Prop} : ∀ (xs : List Nat) (E : Tr) (h : List Blk) (e : Env), (∀ i, get e i = E.get i) → frzD fx xs (E, h) = some (E', h') → (∀ e', (∀ i, get e' i = E'.get i) → K ⟨e', h', b⟩) → frzP fx xs ⟨e, h, b⟩ K
 | [], E, h, e, he, hd, hK => by
  simp only [frzD, yA, Prod.mk.injEq] at hd
  obtain ⟨rfl, rfl⟩ := hd
  exact hK e he
 | x :: r, E, h, e, he, hd, hK => by
  simp only [frzD] at hd
  simp only [frzP, he x]
  split at hd
  ·rename_i k i n hx
   rw [hx]
   show frz1 fx k (blk h k) _ _
   split at hd
   ·rename_i sz els hb
    rw [hb]
    split at hd
    ·cases hd
    ·rename_i hk
     exact ⟨hasN_not (by simpa using hk), frzD_ok r _ _ _ (fun i => by rw [get_frzE, get_frzT, he]) hd hK⟩
   ·rename_i hb
    unfold frz1
    split
    ·rename_i hb'; exact (hb _ _ hb').elim
    ·exact frzD_ok r _ _ _ he hd hK
  ·rename_i hne
   split
   ·rename_i hx; exact (hne _ _ _ hx).elim
   ·exact frzD_ok r _ _ _ he hd hK
theorem fresh_ok {h : List Blk} {k : Nat} (hd : freshB h k = true) : freshP h k := by
 unfold freshB at hd
 unfold freshP
 split at hd
 ·rename_i hb; rw [hb]; trivial
 ·cases hd
theorem ex_ok {ex : Bool} {k : IntKind} {c : Int} {y : V} {K : V → Prop} (hd : exD ex k c = some y) (hK : K y) : if ex then (lo k ≤ c ∧ c ≤ hi k) ∧ K (.v (.int k c)) else K (.v (.int k (k.wrap c))) := by
 unfold exD at hd
 split at hd
 ·rename_i h1
  rw [if_pos h1]
  split at hd
  ·rename_i h2; simp only [yA] at hd; subst hd; exact ⟨h2, hK⟩
  ·cases hd
 ·rename_i h1; simp only [yA] at hd; subst hd; rw [if_neg h1]; exact hK
theorem bin_ok {op : BinOp} {ex : Bool} {k : IntKind} {a b : Int} {y : V} {K : V → Prop} (hd : binD op ex k a b = some y) (hK : K y) : binInt op ex k a b K := by
 unfold binD at hd
 unfold binInt
 cases op <;> simp only at hd ⊢
 case add | sub | mul => exact ex_ok hd hK
 case quo =>
  unfold quoD at hd
  split at hd
  ·rename_i h0; exact ⟨h0, ex_ok hd hK⟩
  ·cases hd
 case rem =>
  unfold remD at hd
  split at hd
  ·rename_i h0; simp only [yA] at hd; subst hd; exact ⟨h0, hK⟩
  ·cases hd
 case and | or | xor | andNot => simp only [andBD, orBD, xorBD, andNotBD, yA] at hd; subst hd; exact hK
 case eql => rw [eqZ_eq] at hd; simp only [yA] at hd; subst hd; exact hK
 case neq => rw [eqZ_eq] at hd; simp only [yA] at hd; subst hd; exact hK
 case lss | gtr => rw [ltZ_eq] at hd; simp only [yA] at hd; subst hd; exact hK
 case leq | geq =>
  rw [ltZ_eq] at hd
  simp only [yA] at hd
  subst hd
  have : ∀ u v : Int, (!decide (v < u)) = decide (u ≤ v) := by intro u v; rw [vH]; simp
  rw [this] at hK
  exact hK
 all_goals first | (simp only [yA] at hd; subst hd; exact hK) | cases hd
theorem eqFsD_ok {xs ys : List V} : ∀ {K : Bool → Prop} (ks : List (Nat × TypeDesc)) (t : Bool), eqFsD xs ys ks = some t → K t → eqFs xs ys ks K
 | K, [], t, h, hK => by
  simp only [eqFsD, yA] at h
  subst h
  exact hK
 | K, f :: r, t, h, hK => by
  simp only [eqFsD] at h
  simp only [eqFs, eqC]
  split at h
  ·rename_i a b ha hb
   rw [ha, hb]
   split at h
   ·rename_i hc
    simp only [yB] at hc
    split at h
    ·rename_i u hu
     simp only [yA] at h
     subst h
     exact ⟨hc, eqFsD_ok r u hu hK⟩
    ·cases h
   ·cases h
  ·cases h
theorem shift_ok {op : BinOp} {k : IntKind} {a b : Int} {y : V} {K : V → Prop} (hd : shiftD op k a b = some y) (hK : K y) : shiftInt op k a b K := by
 unfold shiftD at hd
 unfold shiftInt
 split at hd
 ·split at hd
  ·rename_i h0; simp only [yA] at hd; subst hd; exact ⟨h0, hK⟩
  ·cases hd
 ·split at hd
  ·rename_i h0; simp only [yA] at hd; subst hd; exact ⟨h0, hK⟩
  ·cases hd
 ·cases hd
theorem map_ok {h : List Blk} {x : V} {p : Nat × List (Value × V × Nat) × Nat} {K : Nat → List (Value × V × Nat) → Nat → Prop} (hd : mapD h x = some p) (hK : K p.1 p.2.1 p.2.2) : mapK h x K := by
 unfold mapD at hd
 unfold mapK
 split at hd
 ·split at hd
  ·rename_i hb; simp only [yA] at hd; subst hd; simp only [hb, mapB]; exact hK
  ·cases hd
 ·cases hd
theorem look_ok {r : Option (Option (Nat × V))} {z : Value} {ok : Bool} {y : V} {K : V → Prop} (hd : lookD r z ok = some y) (hK : K y) : lookK r z ok K := by
 unfold lookD at hd
 unfold lookK
 split at hd <;> first | (simp only [yA] at hd; subst hd; exact hK) | cases hd
theorem mset_ok {r : Option (Option (Nat × V))} {key : Value} {x : V} {es : List (Value × V × Nat)} {c : Nat} {B : Blk} {K : Blk → Prop} (hd : msetD r key x es c = some B) (hK : K B) : msetK r key x es c K := by
 unfold msetD at hd
 unfold msetK
 split at hd <;> first | (simp only [yA] at hd; subst hd; exact hK) | cases hd
theorem mdel_ok {r : Option (Option (Nat × V))} {es : List (Value × V × Nat)} {c : Nat} {B : Blk} {K : Blk → Prop} (hd : mdelD r es c = some B) (hK : K B) : mdelK r es c K := by
 unfold mdelD at hd
 unfold mdelK
 split at hd <;> first | (simp only [yA] at hd; subst hd; exact hK) | cases hd
theorem it_ok {h : List Blk} {x : V} {p : Nat × V × Nat × List Nat × Nat} {K : Nat → V → Nat → List Nat → Nat → Prop} (hd : itD h x = some p) (hK : K p.1 p.2.1 p.2.2.1 p.2.2.2.1 p.2.2.2.2) : itK h x K := by
 unfold itD at hd
 unfold itK
 split at hd
 ·split at hd
  ·rename_i hb; simp only [yA] at hd; subst hd; simp only [hb, itB]; exact hK
  ·cases hd
 ·cases hd
section
variable {C : Ctr} {it : Itr} {yy : Nat → Yt} {rk : Option Nat} {fx bn : List Nat} {call : CallD} {mvf : FuncId → Option Nat} {E : Tr} {h : List Blk} {b : Nat} {e : Env} {rs : List Res} {K : V → St → Prop}
def KOk (b : Nat) (rs : List Res) (K : V → St → Prop) : Prop := ∀ r ∈ rs, ∀ e', (∀ i, get e' i = r.E.get i) → K r.x ⟨e', r.h, b⟩
theorem kok1 {x : V} {E' : Tr} {h' : List Blk} (hK : KOk b [⟨x, E', h'⟩] K) {e' : Env} (h : ∀ i, get e' i = E'.get i) : K x ⟨e', h', b⟩ :=
 hK ⟨x, E', h'⟩ (by simp) e' h
theorem killIf_get {M : List Nat} {E : Tr} {e : Env} (he : ∀ i, get e i = E.get i) : ∀ i, get (killE M e) i = (killIf M E).get i := by
 intro i
 rw [get_killE, he]
 unfold killIf
 split
 ·rw [killN_nil]
 ·rw [Tr.get_kill]
theorem one_ok (he : ∀ i, get e i = E.get i) {x : V} {h' : List Blk} (hd : one E x h' = some rs) (hK : KOk b rs K) : K x ⟨e, h', b⟩ := by
 simp only [one, yA] at hd
 subst hd
 exact kok1 hK he
theorem oneO_ok (he : ∀ i, get e i = E.get i) {o : Option V} {h' : List Blk} (hd : oneO E o h' = some rs) (hK : KOk b rs K) : ∃ x, o = some x ∧ K x ⟨e, h', b⟩ := by
 unfold oneO at hd
 split at hd
 ·exact ⟨_, rfl, one_ok he hd hK⟩
 ·cases hd
theorem callD_ok (hcall : ∀ f zas h0 mv r h', call f zas h0 mv = some (r, h') → C f zas h0 mv (fun r1 h1 => r1 = r ∧ h1 = h')) (he : ∀ i, get e i = E.get i) {f : FuncId} {args : List V} (hd : callD E call mvf fx bn f args h = some rs) (hK : KOk b rs K) :
  callP { C := C, fx := fx, bn := bn, it := it, y := yy, rk := rk } f args ⟨e, h, b⟩ K := by
 unfold callD at hd
 generalize without bn (reach h 1000 (namesL args) []) = ι at hd
 generalize mvOf (mvf f) ι.length = mv at hd
 unfold callI at hd
 split at hd
 ·rename_i hc
  simp only [yB, yH, decide_eq_true_eq, yQ, vE] at hc
  obtain ⟨⟨h1, h2⟩, h3, h4⟩ := hc
  split at hd
  ·rename_i r h' hcl
   have hh : (if mv.isEmpty = true then h else h.map (killB (mv.filterMap (ι[·]?)))) = h.map (killB (mv.filterMap (ι[·]?))) := by
    cases mv with
    | nil => simp [killN_B, funext killN_B]
    | cons _ _ => rfl
   rw [hh] at hd
   unfold afterD at hd
   split at hd
   ·rename_i hkp
    simp only [yA] at hd
    subst hd
    refine ⟨ι, _, mv, _, ⟨⟨nodup_of h1, fun k hk => ⟨(h2 k hk).1, hasN_not (h2 k hk).2⟩⟩, fun j hj k hk => ?_⟩, lendsOk_of _ h3, wkL_refl _, hcall _ _ _ _ _ _ hcl, ?_⟩
    ·rcases h4 with h4 | h4
     ·have : mv = [] := by simpa using h4
      subst this
      simp at hj
     ·exact hasN_not (h4 k (vA hk))
    ·rintro r1 h1' ⟨rfl, rfl⟩ hl
     exact ⟨keep_of hkp, kok1 hK (e' := killE (mv.filterMap (ι[·]?)) e) (killIf_get he)⟩
   ·cases hd
  ·cases hd
 ·cases hd
theorem int_ok {x : V} {n : Int} {K : IntKind → Int → Prop} (hd : intD x = some n) (hK : ∀ k, K k n) : intK x K := by
 unfold intD at hd
 split at hd
 ·simp only [yA] at hd; subst hd; exact hK _
 ·cases hd
theorem str_ok {x : V} {t : ByteArray} {K : ByteArray → Prop} (hd : strD x = some t) (hK : K t) : strK x K := by
 unfold strD at hd
 split at hd
 ·simp only [yA] at hd; subst hd; exact hK
 ·cases hd
theorem agg_ok {x : V} {cs : List V} {K : List V → Prop} (hd : aggD x = some cs) (hK : K cs) : aggK x K := by
 unfold aggD at hd
 split at hd
 ·simp only [yA] at hd; subst hd; exact hK
 ·cases hd
theorem fld_ok {off : Nat} {x y : V} {K : V → Prop} (hd : fldD off x = some y) (hK : K y) : fldP off x K := by
 unfold fldD at hd
 split at hd
 ·simp only [yA] at hd; subst hd; exact hK
 ·simp only [yA] at hd; subst hd; exact hK
 ·cases hd
theorem slcA_ok {n : Nat} {x y : V} {l u m : Option Int} {K : V → Prop} (hd : slcAD h n x l u m = some y) (hK : K y) : slcAP h n x l u m K := by
 unfold slcAD at hd
 unfold slcAP
 split at hd
 ·split at hd
  ·rename_i hb
   split at hd
   ·rename_i hc; simp only [yA] at hd; subst hd; simp only [hb, slcAB]; exact ⟨hc, hK⟩
   ·cases hd
  ·cases hd
 ·split at hd
  ·rename_i e' he'
   obtain ⟨hi, rfl⟩ := yD.1 he'
   split at hd
   ·rename_i hc; simp only [yA] at hd; subst hd; exact ⟨hc.1, hi, hc.2, hK⟩
   ·cases hd
  ·cases hd
 ·cases hd
theorem peq_ok {x y : V} {t : Bool} {K : Bool → Prop} (hd : peqD x y = some t) (hK : K t) : peqP x y K := by
 unfold peqD at hd
 unfold peqP
 split at hd
 ·split at hd <;> first | (simp only [yA] at hd; subst hd; exact hK) | cases hd
 ·cases hd
theorem sslc_ok {t : ByteArray} {l u : Option Int} {y : V} {K : V → Prop} (hd : sslcD t l u = some y) (hK : K y) : sslcP t l u K := by
 unfold sslcD at hd
 split at hd
 ·rename_i hc; simp only [yA] at hd; subst hd; exact ⟨hc, hK⟩
 ·cases hd
theorem sbin_ok {op : BinOp} {t u : ByteArray} {y : V} {K : V → Prop} (hd : sbinD op t u = some y) (hK : K y) : sbinP op t u K := by
 unfold sbinD at hd
 unfold sbinP
 cases op <;> simp only at hd ⊢
 case add =>
  split at hd
  ·rename_i hc; simp only [yA] at hd; subst hd; exact ⟨hc, hK⟩
  ·cases hd
 all_goals first | (simp only [yA] at hd; subst hd; exact hK) | cases hd
theorem mm_ok {mx : Bool} {y : V} {K : V → Prop} (hK : K y) : ∀ {r : List V} {x : V}, mmD mx x r = some y → mmP mx x r K
 | [], x, h => by simp only [mmD, yA] at h; subst h; exact hK
 | z :: r, x, h => by
  simp only [mmD] at h
  split at h
  ·split at h
   ·rename_i hk; exact ⟨hk, mm_ok hK h⟩
   ·cases h
  ·cases h
theorem prim_ok {p : Prim} {xs : List V} {y : V} {K : V → Prop} (hd : primD h p xs = some y) (hK : K y) : primP h p xs K := by
 unfold primD at hd
 unfold primP
 split at hd <;> (try simp only [vI] at hd)
 ·obtain ⟨j, h1, h2⟩ := hd
  split at h2
  ·rename_i hc; exact int_ok h1 fun _ => ⟨hc, fld_ok h2 hK⟩
  ·cases h2
 ·exact slcA_ok hd hK
 ·obtain ⟨j, h1, h2⟩ := hd; exact int_ok h1 fun _ => slcA_ok h2 hK
 ·obtain ⟨j, h1, h2⟩ := hd; exact int_ok h1 fun _ => slcA_ok h2 hK
 ·obtain ⟨j, h1, j2, h2, h3⟩ := hd; exact int_ok h1 fun _ => int_ok h2 fun _ => slcA_ok h3 hK
 ·obtain ⟨j, h1, j2, h2, h3⟩ := hd; exact int_ok h1 fun _ => int_ok h2 fun _ => slcA_ok h3 hK
 ·obtain ⟨j, h1, j2, h2, j3, h3, h4⟩ := hd; exact int_ok h1 fun _ => int_ok h2 fun _ => int_ok h3 fun _ => slcA_ok h4 hK
 ·obtain ⟨t, h1, h2⟩ := hd
  simp only [yA] at h2
  subst h2
  exact peq_ok h1 hK
 ·obtain ⟨j, h1, h2⟩ := hd
  split at h2
  ·rename_i hc
   simp only [vI] at h2
   obtain ⟨cs, h3, h4⟩ := h2
   exact int_ok h1 fun _ => ⟨hc, agg_ok h3 (loadCs_ok h4 hK)⟩
  ·cases h2
 ·unfold aeqD at hd
  split at hd
  ·rename_i xs ys hx hy
   split at hd
   ·rename_i t ht
    simp only [yA] at hd
    subst hd
    simp only [hx, hy]
    exact eqFsD_ok _ t ht hK
   ·cases hd
  ·cases hd
 ·obtain ⟨t, h1, j, h2, h3⟩ := hd
  split at h3
  ·rename_i hc
   simp only [vI, yA] at h3
   obtain ⟨c, h4, h5⟩ := h3
   subst h5
   exact str_ok h1 (int_ok h2 fun _ => ⟨hc, by rw [h4]; exact hK⟩)
  ·cases h3
 ·obtain ⟨t, h1, h2⟩ := hd; exact str_ok h1 (sslc_ok h2 hK)
 ·obtain ⟨t, h1, j, h2, h3⟩ := hd; exact str_ok h1 (int_ok h2 fun _ => sslc_ok h3 hK)
 ·obtain ⟨t, h1, j, h2, h3⟩ := hd; exact str_ok h1 (int_ok h2 fun _ => sslc_ok h3 hK)
 ·obtain ⟨t, h1, j, h2, j2, h3, h4⟩ := hd; exact str_ok h1 (int_ok h2 fun _ => int_ok h3 fun _ => sslc_ok h4 hK)
 ·obtain ⟨t, h1, u, h2, h3⟩ := hd; exact str_ok h1 (str_ok h2 (sbin_ok h3 hK))
 ·exact mm_ok hK hd
 ·cases hd
theorem keyA_ok {ks : List (Nat × TypeDesc)} {x : V} {us : List Value} {K : List Value → Prop} (hd : keyAD ks x = some us) (hK : K us) : keyA ks x K := by
 unfold keyAD at hd
 unfold keyA
 split at hd
 ·split at hd
  ·rename_i us' hm
   split at hd
   ·rename_i hc
    simp only [yA] at hd
    subst hd
    simp only [hm]
    exact ⟨hc, hK⟩
   ·cases hd
  ·cases hd
 ·cases hd
theorem keysA_ok {ks : List (Nat × TypeDesc)} {es : List (Value × V × Nat)} (hd : keysAB ks es = true) : keysA ks es := by
 intro e he
 have := yH.1 hd e he
 split at this
 ·rename_i ws hw
  simp only [yB, decide_eq_true_eq] at this
  exact ⟨ws, hw, this⟩
 ·cases this
theorem litv_ok {sz : Nat} {els : List (List V)} {K : List (List V) → Prop} (hK : K els) : ∀ (ps : List (Nat × V)) (acc : List (List V)), litvD sz acc ps = some els → litvP sz acc ps K
 | [], acc, h => by simp only [litvD, yA] at h; subst h; exact hK
 | (i, x) :: r, acc, h => by
  simp only [litvD] at h
  simp only [litvP]
  split at h
  ·rename_i cs hc
   split at h
   ·rename_i hq; rw [hc]; exact ⟨hq, litv_ok hK r _ h⟩
   ·cases h
  ·cases h
theorem viewV_ok {x : V} {p : Nat × List (List V)} {K : Nat → List (List V) → Prop} (hd : viewVD h x = some p) (hK : K p.1 p.2) : viewVK h x K := by
 unfold viewVD at hd
 unfold viewVK
 split at hd
 ·split at hd
  ·rename_i hb
   split at hd
   ·rename_i hc; simp only [yA] at hd; subst hd; simp only [hb, viewVB]; exact ⟨hc, hK⟩
   ·cases hd
  ·cases hd
 ·cases hd
theorem effD_ok (he : ∀ i, get e i = E.get i) {p : Eff} {j : Nat} {xs : List V} (hd : effD E fx bn p j xs h = some rs) (hK : KOk b rs K) : effP fx bn p j xs ⟨e, h, b⟩ K := by
 unfold effD at hd
 unfold effP
 split at hd
 ·split at hd
  ·rename_i hlen
   split at hd
   ·rename_i els hl
    split at hd
    ·rename_i hf
     exact ⟨hlen, litv_ok ⟨fresh_ok hf, one_ok he hd hK⟩ _ _ hl⟩
    ·cases hd
   ·cases hd
  ·cases hd
 ·split at hd
  ·rename_i sz' new hv
   split at hd
   ·rename_i hc
    refine viewV_ok hv ⟨⟨hc.1, by simpa using hc.2.1, hc.2.2⟩, ?_⟩
    unfold appVD at hd
    unfold appVP
    split at hd
    ·split at hd
     ·rename_i sz0 els hb
      split at hd
      ·rename_i hq
       simp only [yA] at hd
       subst hd
       show appVB _ _ _ _ _ _ _ _ _ (blk h _) _
       rw [hb]
       exact ⟨hq.1, ⟨hasN_not hq.2.1, hasN_not hq.2.2⟩, kok1 hK (fun i => by rw [get_killE, he, Tr.get_kill])⟩
      ·cases hd
     ·cases hd
    ·split at hd
     ·rename_i hq
      exact ⟨hq.1, fresh_ok hq.2, one_ok he hd hK⟩
     ·cases hd
    ·cases hd
   ·cases hd
  ·cases hd
 ·unfold clrD at hd
  unfold clrP
  split at hd
  ·split at hd
   ·rename_i sz' els hb
    split at hd
    ·rename_i hq
     show clrB _ _ _ _ _ _ _ (blk h _) K
     rw [hb]
     exact ⟨⟨hq.1, hq.2.1, hasN_not hq.2.2⟩, one_ok he hd hK⟩
    ·cases hd
   ·cases hd
  ·exact one_ok he hd hK
  ·cases hd
 ·rename_i ks z ok m k
  split at hd
  ·rename_i us hu
   obtain ⟨y, h1, h2⟩ := oneO_ok he hd hK
   refine keyA_ok hu ?_
   show lookMA h ks us z ok m fun x => K x ⟨e, h, b⟩
   unfold lookAD at h1
   unfold lookMA
   split at h1
   ·exact look_ok h1 h2
   ·rename_i hne
    split at h1
    ·rename_i kb es c hm
     split at h1
     ·rename_i hks
      split
      ·rename_i hm'; exact (hne rfl).elim
      ·exact map_ok hm ⟨keysA_ok hks, look_ok h1 h2⟩
     ·cases h1
    ·cases h1
  ·cases hd
 ·split at hd
  ·rename_i us hu
   split at hd
   ·rename_i kb es c hm
    split at hd
    ·rename_i hc
     split at hd
     ·rename_i B hB
      exact keyA_ok hu (map_ok hm ⟨⟨hasN_not hc.1, keysA_ok hc.2⟩, mset_ok hB (one_ok he hd hK)⟩)
     ·cases hd
    ·cases hd
   ·cases hd
  ·cases hd
 ·split at hd
  ·rename_i sz els hv
   split at hd
   ·rename_i hc
    split at hd
    ·rename_i l hl
     refine view_ok hv ⟨by simpa using hc, ?_⟩
     show optK (bytesOf els) _
     rw [hl]
     exact one_ok he hd hK
    ·cases hd
   ·cases hd
  ·cases hd
 ·cases hd
theorem opD_ok (hcall : ∀ f zas h0 mv r h', call f zas h0 mv = some (r, h') → C f zas h0 mv (fun r1 h1 => r1 = r ∧ h1 = h')) (he : ∀ i, get e i = E.get i) {o : LOp} (hd : opD call mvf fx bn o E h b = some rs) (hK : KOk b rs K) :
  aOp { C := C, fx := fx, bn := bn, it := it, y := yy, rk := rk } o ⟨e, h, b⟩ K := by
 have hv := ev_ok he
 cases o with
 | mov x => simp only [opD] at hd; simp only [aOp, hv]; exact one_ok he hd hK
 | pick c a d =>
  simp only [opD, o_pick] at hd
  simp only [aOp, hv]
  split at hd
  ·rename_i t hc
   rw [hc]
   have := one_ok he hd hK
   cases t with
   | true => exact ⟨fun _ => this, fun h => by cases h⟩
   | false => exact ⟨fun h => (by cases h), fun _ => this⟩
  ·cases hd
 | box j x =>
  simp only [opD, o_box] at hd
  simp only [aOp, hv]
  split at hd
  ·rename_i cs hc
   split at hd
   ·rename_i hf; rw [hc]; exact ⟨fresh_ok hf, one_ok he hd hK⟩
   ·cases hd
  ·cases hd
 | alloc j z =>
  simp only [opD, o_alloc] at hd
  simp only [aOp]
  split at hd
  ·rename_i cs hc
   split at hd
   ·rename_i hf; rw [hc]; exact ⟨fresh_ok hf, one_ok he hd hK⟩
   ·cases hd
  ·cases hd
 | load n a =>
  simp only [opD] at hd
  simp only [aOp, hv]
  obtain ⟨x, hx, hk⟩ := oneO_ok he hd hK
  exact load_ok hx hk
 | store n a x =>
  simp only [opD, o_store] at hd
  simp only [aOp, hv]
  split at hd
  ·rename_i cs hc
   split at hd
   ·rename_i h' hs; rw [hc]; exact store_ok (K := fun h => K (.v (.tuple #[])) ⟨e, h, b⟩) hs (one_ok he hd hK)
   ·cases hd
  ·cases hd
 | fld off x =>
  simp only [opD, o_fld] at hd
  simp only [aOp, hv]
  split at hd
  ·rename_i hx; rw [hx]; exact one_ok he hd hK
  ·rename_i hx; rw [hx]; exact one_ok he hd hK
  ·cases hd
 | idx z x i =>
  simp only [opD, o_idx] at hd
  simp only [aOp, hv]
  split at hd
  ·rename_i hx
   rw [hx]
   obtain ⟨y, hy, hk⟩ := oneO_ok he hd hK
   exact idx_ok (K := fun y => K y ⟨e, h, b⟩) hy hk
  ·cases hd
 | bin op ex x y =>
  simp only [opD, o_bin] at hd
  simp only [aOp, hv]
  split at hd
  ·rename_i hx hy
   split at hd
   ·rename_i hk
    rw [hx, hy]
    obtain ⟨z, hz, hk'⟩ := oneO_ok he hd hK
    exact ⟨hk, bin_ok hz hk'⟩
   ·cases hd
  ·cases hd
 | shift op x y =>
  simp only [opD, o_shift] at hd
  simp only [aOp, hv]
  split at hd
  ·rename_i hx hy
   rw [hx, hy]
   obtain ⟨z, hz, hk'⟩ := oneO_ok he hd hK
   exact shift_ok (K := fun y => K y ⟨e, h, b⟩) hz hk'
  ·cases hd
 | len x =>
  simp only [opD] at hd
  simp only [aOp, hv]
  obtain ⟨y, hy, hk⟩ := oneO_ok he hd hK
  exact len_ok hy hk
 | lens x =>
  simp only [opD, o_lens] at hd
  simp only [aOp, hv]
  split at hd
  ·rename_i hx; rw [hx]; exact one_ok he hd hK
  ·cases hd
 | nilc x =>
  simp only [opD, o_nilc] at hd
  simp only [aOp, hv]
  split at hd
  ·rename_i hx; rw [hx]; exact one_ok he hd hK
  ·rename_i hx; rw [hx]; exact one_ok he hd hK
  ·cases hd
 | not x =>
  simp only [opD, o_not] at hd
  simp only [aOp, hv]
  split at hd
  ·rename_i hx; rw [hx]; exact one_ok he hd hK
  ·cases hd
 | neg x =>
  simp only [opD, o_neg] at hd
  simp only [aOp, hv]
  split at hd
  ·rename_i hx
   split at hd
   ·rename_i hc; rw [hx]; simp only [intK, wrap_in _ _ hc]; exact one_ok he hd hK
   ·cases hd
  ·cases hd
 | conv ex k x =>
  simp only [opD, o_conv] at hd
  simp only [aOp, hv]
  split at hd
  ·rename_i hx
   rw [hx]
   show (if _ then _ else _)
   split at hd
   ·rename_i hex
    split at hd
    ·rename_i hc; rw [if_pos hex]; exact ⟨hc, one_ok he hd hK⟩
    ·cases hd
   ·rename_i hex; rw [if_neg hex]; exact one_ok he hd hK
  ·cases hd
 | minmax mx x y =>
  simp only [opD, o_minmax] at hd
  simp only [aOp, hv]
  split at hd
  ·rename_i hx hy
   split at hd
   ·rename_i hk; rw [hx, hy]; exact ⟨hk, one_ok he hd hK⟩
   ·cases hd
  ·cases hd
 | ext x i =>
  simp only [opD, o_ext] at hd
  simp only [aOp, hv]
  split at hd
  ·rename_i vs hx
   rw [hx]
   obtain ⟨y, hy, hk⟩ := oneO_ok he hd hK
   show optK vs[i]? _
   rw [hy]; exact hk
  ·cases hd
 | fn f caps =>
  simp only [opD] at hd
  simp only [aOp, evs_ok he]
  exact one_ok he hd hK
 | field off n x =>
  simp only [opD, o_field] at hd
  simp only [aOp, hv]
  split at hd
  ·rename_i cs hx
   rw [hx]
   obtain ⟨y, hy, hk⟩ := oneO_ok he hd hK
   exact loadCs_ok hy hk
  ·cases hd
 | slice z x l u m =>
  simp only [opD, o_slice] at hd
  simp only [aOp, hv, evo_ok he]
  split at hd
  ·rename_i l' u' m' h1 h2 h3
   obtain ⟨y, hy, hk⟩ := oneO_ok he hd hK
   exact opt_ok h1 (opt_ok h2 (opt_ok h3 (slc_ok hy hk)))
  ·cases hd
 | build z ps =>
  simp only [opD] at hd
  simp only [aOp]
  obtain ⟨y, hy, hk⟩ := oneO_ok he hd hK
  exact build_ok (K := fun y => K y ⟨e, h, b⟩) he hk ps _ hy
 | eqb neg x y =>
  simp only [opD, o_eqb] at hd
  simp only [aOp, hv]
  split at hd
  ·rename_i hx hy; rw [hx, hy]; exact one_ok he hd hK
  ·cases hd
 | eqn neg x y =>
  simp only [opD, o_eqn] at hd
  simp only [aOp, hv]
  split at hd
  ·rename_i hy
   rw [hy]
   split at hd
   ·rename_i ts ht
    simp only [yA] at hd
    subst hd
    have hk : ∀ t ∈ ts, K (.b (if neg then !t else t)) ⟨e, h, b⟩ := fun t ht => hK ⟨.b (if neg then !t else t), E, h⟩ (by simp only [List.mem_map]; exact ⟨t, ht, rfl⟩) e he
    show eqnP (evT E x) _
    generalize evT E x = v at ht ⊢
    unfold eqnD at ht
    unfold eqnP
    split at ht
    ·split at ht
     ·rename_i hn
      simp only [yA] at ht
      subst ht
      exact ⟨fun h => by omega, fun _ => ⟨hk true (by simp), hk false (by simp)⟩⟩
     ·rename_i hn
      simp only [yA] at ht
      subst ht
      exact ⟨fun _ => hk false (by simp), fun h => absurd h hn⟩
    ·split at ht
     ·simp only [yA] at ht
      subst ht
      exact ⟨fun h => absurd rfl h, fun _ => ⟨hk true (by simp), hk false (by simp)⟩⟩
     ·rename_i hn
      simp only [yA] at ht
      subst ht
      exact ⟨fun _ => hk false (by simp), fun h => (hn h).elim⟩
    ·split at ht
     ·simp only [yA] at ht
      subst ht
      exact ⟨fun h => absurd rfl h, fun _ => ⟨hk true (by simp), hk false (by simp)⟩⟩
     ·rename_i hn
      simp only [yA] at ht
      subst ht
      exact ⟨fun _ => hk false (by simp), fun h => (hn h).elim⟩
    ·simp only [yA] at ht
     subst ht
     exact hk true (by simp)
    ·cases ht
   ·cases hd
  ·cases hd
 | lits j sz n z ps =>
  simp only [opD, o_lits] at hd
  simp only [aOp]
  split at hd
  ·rename_i els hl
   split at hd
   ·rename_i hf
    exact lits_ok (K := fun els => freshP h (b + j) ∧ K (.sl (b + j) 0 n) { e := e, h := h.set (b + j) (.arr sz els), b := b }) he ⟨fresh_ok hf, one_ok he hd hK⟩ ps _ hl
   ·cases hd
  ·cases hd
 | litsf xs j sz n z ps =>
  simp only [opD, o_litsf] at hd
  simp only [aOp]
  split at hd
  ·rename_i E' h' hf
   obtain hfz := frzD_ok (b := b) (K := fun s => litsP s.e sz (yJ n (z.map .v)) ps fun els => freshP s.h (s.b + j) ∧ K (.sl (s.b + j) 0 n) { s with h := s.h.set (s.b + j) (.arr sz els) }) xs E h e he hf
   refine hfz fun e' he' => ?_
   split at hd
   ·rename_i els hl
    split at hd
    ·rename_i hf
     exact lits_ok (K := fun els => freshP h' (b + j) ∧ K (.sl (b + j) 0 n) { e := e', h := h'.set (b + j) (.arr sz els), b := b }) he' ⟨fresh_ok hf, one_ok he' hd hK⟩ ps _ hl
    ·cases hd
   ·cases hd
  ·cases hd
 | mk j sz bytes z l c =>
  simp only [opD, o_mk] at hd
  simp only [aOp, hv]
  split at hd
  ·rename_i hx hy
   split at hd
   ·rename_i hc; rw [hx, hy]; exact ⟨hc.1, fresh_ok hc.2, one_ok he hd hK⟩
   ·cases hd
  ·cases hd
 | mkv j sz bytes z l c =>
  simp only [opD, o_mkv] at hd
  simp only [aOp, hv]
  split at hd
  ·rename_i hx hy
   split at hd
   ·rename_i hc; rw [hx, hy]; exact ⟨hc.1, fresh_ok hc.2, one_ok he hd hK⟩
   ·cases hd
  ·cases hd
 | mkmap j r =>
  simp only [opD, o_mkmap] at hd
  simp only [aOp]
  split at hd
  ·rename_i hf
   split at hd
   ·exact ⟨trivial, fresh_ok hf, one_ok he hd hK⟩
   ·rename_i x
    split at hd
    ·rename_i hx
     refine ⟨?_, fresh_ok hf, one_ok he hd hK⟩
     show intK (ev e x) _
     rw [hv, hx]; trivial
    ·cases hd
  ·cases hd
 | lookup kd z ok m k =>
  simp only [opD, o_lookup] at hd
  simp only [aOp, hv]
  split at hd
  ·rename_i key hk
   split at hd
   ·rename_i hkey
    rw [hk]
    refine ⟨hkey, ?_⟩
    split at hd
    ·rename_i hm
     obtain ⟨y, hy, hk⟩ := oneO_ok he hd hK
     rw [hm]
     exact look_ok hy hk
    ·rename_i hne
     split at hd
     ·rename_i kb es c hmp
      obtain ⟨y, hy, hk⟩ := oneO_ok he hd hK
      split
      ·rename_i hm; rw [hm] at hmp; simp [mapD] at hmp
      ·exact map_ok hmp (look_ok hy hk)
     ·cases hd
   ·cases hd
  ·cases hd
 | mset kd m k x =>
  simp only [opD, o_mset] at hd
  simp only [aOp, hv]
  split at hd
  ·rename_i key hk
   split at hd
   ·rename_i hkey
    rw [hk]
    refine ⟨hkey, ?_⟩
    split at hd
    ·rename_i kb es c hmp
     split at hd
     ·cases hd
     ·rename_i hbn
      split at hd
      ·rename_i B hB
       exact map_ok hmp ⟨hasN_not (by simpa using hbn), mset_ok hB (one_ok he hd hK)⟩
      ·cases hd
    ·cases hd
   ·cases hd
  ·cases hd
 | mdel kd m k =>
  simp only [opD, o_mdel] at hd
  simp only [aOp, hv]
  split at hd
  ·rename_i key hk
   split at hd
   ·rename_i hkey
    rw [hk]
    refine ⟨hkey, ?_⟩
    split at hd
    ·rename_i kb es c hmp
     split at hd
     ·cases hd
     ·rename_i hbn
      split at hd
      ·rename_i B hB
       exact map_ok hmp ⟨hasN_not (by simpa using hbn), mdel_ok hB (one_ok he hd hK)⟩
      ·cases hd
    ·cases hd
   ·cases hd
  ·cases hd
 | mlen m =>
  simp only [opD, o_mlen] at hd
  simp only [aOp, hv]
  split at hd
  ·rename_i hmp; exact map_ok hmp (one_ok he hd hK)
  ·cases hd
 | range j m =>
  simp only [opD, o_range] at hd
  simp only [aOp, hv]
  split at hd
  ·rename_i hmp
   split at hd
   ·rename_i hf; exact map_ok hmp ⟨fresh_ok hf, one_ok he hd hK⟩
   ·cases hd
  ·cases hd
 | next i =>
  simp only [opD, o_next] at hd
  simp only [aOp, hv]
  split at hd
  ·rename_i k m since seen last hit
   split at hd
   ·rename_i kb es c hmp
    split at hd
    ·cases hd
    ·rename_i hbn
     refine it_ok hit (map_ok hmp ⟨hasN_not (by simpa using hbn), ?_⟩)
     unfold nextD at hd
     simp only at hd
     split at hd
     ·rename_i hc
      refine ⟨hc, ?_, ?_⟩
      ·intro hall
       split at hd
       ·simp only [yA] at hd
        subst hd
        exact kok1 hK he
       ·rename_i hne
        exfalso
        apply hne
        rw [List.filter_eq_nil_iff]
        intro a ha
        have := yH.1 hall a ha
        rw [this]; simp
      ·intro a ha hs
       have hmem : a ∈ es.filter fun e => !(seen.contains e.2.2) := by
        rw [List.mem_filter]; exact ⟨ha, by rw [hs]; rfl⟩
       split at hd
       ·rename_i hnil; rw [hnil] at hmem; simp at hmem
       ·simp only [yA] at hd
        subst hd
        exact hK ⟨.tup [.b true, .v a.1, a.2.1], E, h.set k (.it m since (seen ++ [a.2.2]) c)⟩ (by rw [List.mem_map]; exact ⟨a, hmem, rfl⟩) e he
     ·cases hd
   ·cases hd
  ·cases hd
 | entry i =>
  simp only [opD, o_entry] at hd
  simp only [aOp, hv]
  split at hd
  ·rename_i k m since seen last hit
   split at hd
   ·rename_i kb es c hmp
    split at hd
    ·rename_i hl
     split at hd
     ·rename_i st hst
      split at hd
      ·rename_i a ha
       refine it_ok hit (map_ok hmp ⟨hl, ?_⟩)
       show optK seen.getLast? _
       rw [hst]
       simp only [optK, ha, entK]
       exact one_ok he hd hK
      ·cases hd
     ·cases hd
    ·cases hd
   ·cases hd
  ·cases hd
 | append j sz bytes x y =>
  simp only [opD, o_append] at hd
  simp only [aOp, hv]
  split at hd
  ·rename_i sz' new hvw
   split at hd
   ·rename_i hc
    refine view_ok hvw ⟨by simpa using hc, ?_⟩
    have hnew : ∀ {id : Nat} {old : List (List V)}, appNewD E id sz bytes h old new = some rs → appNew id sz bytes ⟨e, h, b⟩ old new K := by
     intro id old hn
     unfold appNewD at hn
     split at hn
     ·rename_i hq
      simp only [yA] at hn
      subst hn
      exact ⟨hq.1, fresh_ok hq.2, kok1 hK he⟩
     ·cases hn
    unfold appD at hd
    show appP fx bn (b + j) sz bytes ⟨e, h, b⟩ (evT E x) new K
    generalize evT E x = v at hd ⊢
    unfold appP
    split at hd
    ·rename_i k i n
     unfold appBD at hd
     show appB fx bn k i n sz bytes ⟨e, h, b⟩ new (blk h k) K
     unfold appB
     split at hd
     ·rename_i sz0 els hb
      split at hd
      ·rename_i hq
       simp only [yA] at hd
       subst hd
       simp only [hb]
       exact ⟨hq.1, ⟨hasN_not hq.2.1, hasN_not hq.2.2⟩, kok1 hK (e' := killE [k] e) (fun i => by rw [get_killE, he, Tr.get_kill])⟩
      ·cases hd
     ·cases hd
    ·exact hnew hd
    ·split at hd
     ·rename_i hq
      exact ⟨⟨hq.1, by simpa using hq.2⟩, hnew hd⟩
     ·cases hd
    ·cases hd
   ·cases hd
  ·cases hd
 | copy sz x y =>
  simp only [opD, o_copy] at hd
  simp only [aOp, hv]
  split at hd
  ·rename_i sz' new hvw
   split at hd
   ·rename_i hc
    refine view_ok hvw ⟨by simpa using hc, ?_⟩
    unfold copyD at hd
    show copyP bn sz ⟨e, h, b⟩ (evT E x) new K
    generalize evT E x = v at hd ⊢
    unfold copyP
    split at hd
    ·rename_i k i n
     split at hd
     ·rename_i sz0 els hb
      split at hd
      ·rename_i hq
       simp only [yA] at hd
       subst hd
       show copyB bn k i n sz ⟨e, h, b⟩ new (blk h k) K
       rw [hb]
       exact ⟨⟨hq.1, hq.2.1, hasN_not hq.2.2⟩, kok1 hK he⟩
      ·cases hd
     ·rename_i cs hb
      split at hd
      ·rename_i hq
       simp only [yA] at hd
       subst hd
       show copyB bn k i n sz ⟨e, h, b⟩ new (blk h k) K
       rw [hb]
       exact ⟨⟨hq.1, hq.2.1, hasN_not hq.2.2⟩, kok1 hK he⟩
      ·cases hd
     ·cases hd
    ·cases hd
   ·cases hd
  ·cases hd
 | call f xs =>
  simp only [opD, o_call] at hd
  simp only [aOp, evs_ok he]
  exact callD_ok hcall he hd hK
 | callv f xs =>
  simp only [opD, o_callv] at hd
  simp only [aOp, hv, evs_ok he]
  split at hd
  ·rename_i g cs hf
   rw [hf]
   exact callD_ok hcall he hd hK
  ·cases hd
 | eqf neg ks x y =>
  simp only [opD, o_eqf] at hd
  simp only [aOp, hv]
  split at hd
  ·rename_i xs ys hx hy
   split at hd
   ·rename_i t ht
    rw [hx, hy]
    exact eqFsD_ok (K := fun t => K (.b (if neg then !t else t)) ⟨e, h, b⟩) _ t ht (one_ok he hd hK)
   ·cases hd
  ·cases hd
 | iface _ _ => simp [opD] at hd
 | panic => simp [opD] at hd
 | yld _ _ => simp [opD] at hd
 | prim p xs =>
  simp only [opD] at hd
  simp only [aOp, evs_ok he]
  obtain ⟨y, h1, h2⟩ := oneO_ok he hd hK
  exact prim_ok h1 h2
 | eff p j xs =>
  simp only [opD] at hd
  simp only [aOp, evs_ok he]
  exact effD_ok he hd hK
 | bad => simp [opD] at hd
end
end Go.Fx
namespace Go.Fx
open Go.RowKit
mutual
def eqVal : Value → Value → Bool
 | .int k a, .int j b => decide (k = j) && decide (a = b)
 | .bool a, .bool b => decide (a = b)
 | .string a, .string b => a == b
 | .slice none 0 0, .slice none 0 0 => true
 | .pointer none, .pointer none => true
 | .map none, .map none => true
 | .tuple a, .tuple b => a.isEmpty && b.isEmpty
 | _, _ => false
end
theorem eqVal_ok {a b : Value} (h : eqVal a b = true) : a = b := by
 unfold eqVal at h
 split at h <;> first
  | (simp only [yB, decide_eq_true_eq] at h; obtain ⟨rfl, rfl⟩ := h; rfl)
  | (simp only [decide_eq_true_eq] at h; subst h; rfl)
  | (rw [MapKept.bytes_beq] at h; subst h; rfl)
  | rfl
  | (simp only [yB, Array.isEmpty_iff] at h; obtain ⟨rfl, rfl⟩ := h; rfl)
  | cases h
mutual
def eqV : V → V → Bool
 | .any, .any => true
 | .v a, .v b => eqVal a b
 | .ro s e, .ro t f => yC s t && eqLL e f
 | .bro s e, .bro t f => yC s t && eqLL e f
 | .full s e, .full t f => yC s t && eqLL e f
 | .rp s e i j, .rp t f i' j' => (yC s t && eqLL e f) && (yC i i' && yC j j')
 | .sl a b c, .sl a' b' c' => yC a a' && yC b b' && yC c c'
 | .ptr a b c, .ptr a' b' c' => yC a a' && yC b b' && yC c c'
 | .mp a, .mp b => yC a b
 | .itr a, .itr b => yC a b
 | .agg a, .agg b => eqL a b
 | .tup a, .tup b => eqL a b
 | .clo f a, .clo g b => decide (f = g) && eqL a b
 | _, _ => false
def eqL : List V → List V → Bool
 | [], [] => true
 | a :: r, b :: s => eqV a b && eqL r s
 | _, _ => false
def eqLL : List (List V) → List (List V) → Bool
 | [], [] => true
 | a :: r, b :: s => eqL a b && eqLL r s
 | _, _ => false
end
mutual
theorem eqV_ok : ∀ {a b : V}, eqV a b = true → a = b
 | .any, b, h => by cases b <;> simp_all [eqV]
 | .v a, b, h => by cases b <;> simp_all [eqV]; exact eqVal_ok h
 | .ro s e, b, h => by cases b <;> simp_all [eqV]; exact eqLL_ok h.2
 | .bro s e, b, h => by cases b <;> simp_all [eqV]; exact eqLL_ok h.2
 | .full s e, b, h => by cases b <;> simp_all [eqV]; exact eqLL_ok h.2
 | .rp s e i j, b, h => by cases b <;> simp_all [eqV]; exact eqLL_ok h.1.2
 | .sl _ _ _, b, h => by cases b <;> simp_all [eqV]
 | .ptr _ _ _, b, h => by cases b <;> simp_all [eqV]
 | .mp _, b, h => by cases b <;> simp_all [eqV]
 | .itr _, b, h => by cases b <;> simp_all [eqV]
 | .agg a, b, h => by cases b <;> simp_all [eqV]; exact eqL_ok h
 | .tup a, b, h => by cases b <;> simp_all [eqV]; exact eqL_ok h
 | .clo f a, b, h => by cases b <;> simp_all [eqV]; exact eqL_ok h.2
theorem eqL_ok : ∀ {a b : List V}, eqL a b = true → a = b
 | [], b, h => by cases b <;> simp_all [eqL]
 | a :: r, b, h => by
  cases b with
  | nil => simp [eqL] at h
  | cons c s => simp only [eqL, yB] at h; rw [eqV_ok h.1, eqL_ok h.2]
theorem eqLL_ok : ∀ {a b : List (List V)}, eqLL a b = true → a = b
 | [], b, h => by cases b <;> simp_all [eqLL]
 | a :: r, b, h => by
  cases b with
  | nil => simp [eqLL] at h
  | cons c s => simp only [eqLL, yB] at h; rw [eqL_ok h.1, eqLL_ok h.2]
end
def eqMs : List (Value × V × Nat) → List (Value × V × Nat) → Bool
 | [], [] => true
 | a :: r, b :: s => (eqVal a.1 b.1 && eqV a.2.1 b.2.1 && yC a.2.2 b.2.2) && eqMs r s
 | _, _ => false
theorem eqMs_ok : ∀ {a b : List (Value × V × Nat)}, eqMs a b = true → a = b
 | [], b, h => by cases b <;> simp_all [eqMs]
 | (k, v, n) :: r, b, h => by
  cases b with
  | nil => simp [eqMs] at h
  | cons c s =>
   obtain ⟨k', v', n'⟩ := c
   simp only [eqMs, yB, yR] at h
   obtain ⟨⟨⟨h1, h2⟩, h3⟩, h4⟩ := h
   rw [eqVal_ok h1, eqV_ok h2, h3, eqMs_ok h4]
def eqNs : List Nat → List Nat → Bool
 | [], [] => true
 | a :: r, b :: s => yC a b && eqNs r s
 | _, _ => false
theorem eqNs_ok : ∀ {a b : List Nat}, eqNs a b = true → a = b
 | [], b, h => by cases b <;> simp_all [eqNs]
 | a :: r, b, h => by
  cases b with
  | nil => simp [eqNs] at h
  | cons c s => simp only [eqNs, yB, yR] at h; rw [h.1, eqNs_ok h.2]
def eqE : Env → Env → Bool
 | [], [] => true
 | a :: r, b :: s => (yC a.1 b.1 && eqV a.2 b.2) && eqE r s
 | _, _ => false
theorem eqE_ok : ∀ {a b : Env}, eqE a b = true → a = b
 | [], b, h => by cases b <;> simp_all [eqE]
 | (i, x) :: r, b, h => by
  cases b with
  | nil => simp [eqE] at h
  | cons c s =>
   obtain ⟨j, y⟩ := c
   simp only [eqE, yB, yR] at h
   rw [h.1.1, eqV_ok h.1.2, eqE_ok h.2]
def eqB : Blk → Blk → Bool
 | .rcd t e, .rcd t' e' => decide (t = t') && eqE e e'
 | .dead, .dead => true
 | .arr s e, .arr t f => yC s t && eqLL e f
 | .arv s e, .arv t f => yC s t && eqLL e f
 | .var a, .var b => eqL a b
 | .map a c, .map b d => eqMs a b && yC c d
 | .it m a b c, .it m' a' b' c' => (eqV m m' && yC a a') && (eqNs b b' && yC c c')
 | _, _ => false
theorem eqB_ok {a b : Blk} (h : eqB a b = true) : a = b := by
 cases a <;> cases b <;> simp_all [eqB]
 ·exact eqLL_ok h.2
 ·exact eqL_ok h
 ·exact eqLL_ok h.2
 ·exact eqMs_ok h.1
 ·exact ⟨eqV_ok h.1.1, eqNs_ok h.2.1⟩
 ·exact eqE_ok h.2
def Tr.join : Tr → Tr → Tr
 | .lf, _ => .lf
 | _, .lf => .lf
 | .nd v l r, .nd v' l' r' => .nd (if eqV v v' then v else .any) (l.join l') (r.join r')
def joinH : List Blk → List Blk → List Blk
 | b :: r, c :: s => (if eqB b c then b else .dead) :: joinH r s
 | _, _ => []
def Tr.namesT : Tr → List Nat
 | .lf => []
 | .nd v l r => namesV v ++ (l.namesT ++ r.namesT)
def gone (h : List Blk) : List Nat → List Nat
 | [] => []
 | k :: r => if liveB h k then gone h r else k :: gone h r
def Tr.wf (h : List Blk) : Tr → Bool
 | .lf => true
 | .nd v l r => wfVB h v && (l.wf h && r.wf h)
def leTB : Tr → Tr → Bool
 | _, .lf => true
 | .nd v l r, .nd v' l' r' => ((match v' with | .any => true | _ => eqV v v') && leTB l l') && leTB r r'
 | .lf, .nd v' l' r' => ((match v' with | .any => true | _ => false) && leTB .lf l') && leTB .lf r'
def leVsB : List V → List V → Bool
 | [], [] => true
 | x :: xs, y :: ys => (match y with | .any => true | _ => eqV x y) && leVsB xs ys
 | _, _ => false
def leBB (b c : Blk) : Bool :=
 match c with
 | .dead => true
 | .var ys => match b with
  | .var xs => leVsB xs ys
  | _ => false
 | c => eqB b c
def leHB : List Blk → List Blk → Bool
 | _, [] => true
 | b :: h, c :: p => leBB b c && leHB h p
 | [], _ :: _ => false
abbrev Pt := Tr × List Blk
def Tr.toEnv : Tr → Env
 | .lf => []
 | .nd v l r => (0, v) :: (l.toEnv.map (fun p => (2 * p.1 + 1, p.2)) ++ r.toEnv.map (fun p => (2 * p.1 + 2, p.2)))
def joinD (fx : List Nat) (outs : List Pt) : Option (List Pt) :=
 match outs with
 | [] => some []
 | [p] => some [p]
 | p :: r =>
  let E := r.foldl (fun E q => E.join q.1) p.1
  let h := r.foldl (fun h q => joinH h q.2) p.2
  let M := gone h (E.namesT ++ (h.map namesB).flatten)
  let E' := E.kill M
  let h' := h.map (killB M)
  if (outs.all fun q => leTB q.1 E' && leHB q.2 h') && (keepB h' fx && (E'.wf h' && wfBB h' h')) then some [(E', h')] else none
inductive Out where
 | normal (p : Pt)
 | exit (j : Nat) (p : Pt)
 | ret (p : Pt)
def goL {α β : Type} (f : α → Option (List β)) : List α → Option (List β)
 | [] => some []
 | [x] => f x
 | x :: r => match f x, goL f r with
  | some a, some b => some (a ++ b)
  | _, _ => none
def bindL {α β : Type} (l : Option (List α)) (f : α → Option (List β)) : Option (List β) :=
 match l with
 | none => none
 | some xs => goL f xs
def putT (E : Tr) (d : Option Nat) (x : V) : Tr :=
 match d with
 | none => E
 | some d => forceV x fun x => Tr.put (d + 1) E d x
mutual
def renK (g : Nat → Option Nat) : V → V
 | .sl k i n => match g k with
  | some j => .sl j i n
  | none => .any
 | .ptr k i f => match g k with
  | some j => .ptr j i f
  | none => .any
 | .mp k => match g k with
  | some j => .mp j
  | none => .any
 | .itr k => match g k with
  | some j => .itr j
  | none => .any
 | .agg cs => .agg (rensK g cs)
 | .tup cs => .tup (rensK g cs)
 | .clo f cs => .clo f (rensK g cs)
 | x => x
def rensK (g : Nat → Option Nat) : List V → List V
 | [] => []
 | x :: r => renK g x :: rensK g r
end
def renEK (g : Nat → Option Nat) : Env → Env
 | [] => []
 | (j, x) :: r => (j, renK g x) :: renEK g r
def renBK (g : Nat → Option Nat) : Blk → Blk
 | .rcd t e => .rcd t (renEK g e)
 | .var cs => .var (rensK g cs)
 | .arv sz els => .arv sz (els.map (rensK g))
 | .map es c => .map (es.map fun e => (e.1, renK g e.2.1, e.2.2)) c
 | .it m s sn l => .it (renK g m) s sn l
 | b => b
def Tr.ren (g : Nat → Option Nat) : Tr → Tr
 | .lf => .lf
 | .nd v l r => .nd (renK g v) (l.ren g) (r.ren g)
def keepN (n : Nat) (h : List Blk) (names : List Nat) : List Nat :=
 yZ n ++ (reach h 5000 (names ++ yZ n) []).filter fun k => !(yN k n)
def numB (L : List Nat) (h : List Blk) (n : Nat) : Bool :=
 nodupB L && (L.all fun k => yN k h.length) && Nat.ble n h.length
def gcK (fx : List Nat) (n : Nat) (p : Pt) (L : List Nat) : Option Pt :=
 let h := L.map fun k => renBK (pos L) (blk p.2 k)
 if numB L p.2 n && keepB h fx then some (p.1.ren (pos L), h) else none
def gcD (fx : List Nat) (n : Nat) (p : Pt) : Option Pt :=
 match yN p.2.length (n + 40) with
 | true => some p
 | false => gcK fx n p (keepN n p.2 p.1.namesT)
section
variable (call : CallD) (mvf : FuncId → Option Nat) (fx : List Nat)
def runD (bn : List Nat) (o : LOper) (b : Nat) (p : Pt) : Option (List Pt) :=
 match opD call mvf fx bn o.op p.1 p.2 b with
 | none => none
 | some rs => some (rs.map fun r => (putT r.E o.dst r.x, r.h))
def operD (bn : List Nat) (o : LOper) (b : Nat) (p : Pt) : Option (List Pt) :=
 match o.g with
 | none => runD call mvf fx bn o b p
 | some (g, want) => match p.1.get g with
  | .v (.bool t) => if t = want then runD call mvf fx bn o b p else some [(putT p.1 o.dst (.v (.tuple #[])), p.2)]
  | .v (.tuple _) => some [(putT p.1 o.dst (.v (.tuple #[])), p.2)]
  | _ => none
def opsD (b : Nat) : List LOper → Pt → Option (List Pt)
 | [], p => some [p]
 | o :: r, p => bindL (operD call mvf fx [] o b p) (opsD b r)
def rdT (o : LOp) (E : Tr) (bn : List Nat) : List Nat :=
 match o with
 | .load _ a => match evT E a with
  | .ptr k _ _ => k :: bn
  | _ => bn
 | _ => bn
def planD (b : Nat) : LPlan → List Nat → Pt → Option (List Pt)
 | .done, _, p => some [p]
 | .take _ _ o q, bn, p => bindL (operD call mvf fx [] o b p) (planD b q (rdT o.op p.1 bn))
 | .alt _ o r q q', bn, p => match bindL (operD call mvf fx (if r then bn else []) o b p) (planD b q (if r then bn else [])), planD b q' bn p with
  | some x, some y => some (x ++ y)
  | _, _ => none
 | .none, _, _ => some []
def yldD (y : Nat → YtD) (d : Option Nat) (f : Operand) (xs : List Operand) (p : Pt) : Option (List Pt) :=
 match evT p.1 f with
 | .itr k => match y k (xs.map (evT p.1)) p with
  | some rs => some (rs.map fun r => (putT r.2.1 d r.1, r.2.2))
  | none => none
 | _ => none
def operYD (y : Nat → YtD) (o : LOper) (b : Nat) (p : Pt) : Option (List Pt) :=
 match o.op with
 | .yld f xs => match o.g with
  | none => yldD y o.dst f xs p
  | some (g, want) => match p.1.get g with
   | .v (.bool t) => if t = want then yldD y o.dst f xs p else some [(putT p.1 o.dst (.v (.tuple #[])), p.2)]
   | .v (.tuple _) => some [(putT p.1 o.dst (.v (.tuple #[])), p.2)]
   | _ => none
 | _ => operD call mvf fx [] o b p
def opsYD (y : Nat → YtD) (b : Nat) : List LOper → Pt → Option (List Pt)
 | [], p => some [p]
 | o :: r, p => bindL (operYD call mvf fx y o b p) (opsYD y b r)
end
def norms : List Out → List Pt
 | [] => []
 | .normal p :: r => p :: norms r
 | _ :: r => norms r
def others : List Out → List Out
 | [] => []
 | .normal _ :: r => others r
 | o :: r => o :: others r
def andD (l : Option (List Out)) (f : Pt → Option (List Out)) : Option (List Out) :=
 bindL l fun o => match o with
  | .normal p => f p
  | o => some [o]
def leave (id : Nat) : Out → Out
 | .exit j p => if j = id then .normal p else .exit j p
 | o => o
def blockD (fx : List Nat) (id : Nat) (l : Option (List Out)) : Option (List Out) :=
 match l with
 | none => none
 | some outs => match joinD fx (norms (outs.map (leave id))) with
  | none => none
  | some ps => some (ps.map .normal ++ others (outs.map (leave id)))
def loopD (fx : List Nat) (n0 : Nat) (f : Pt → Option (List Out)) : Nat → Pt → Option (List Out)
 | 0, _ => none
 | n + 1, p => match gcD fx n0 p with
  | some p => andD (f p) (loopD fx n0 f n)
  | none => none
def roomD (n : Nat) (h : List Blk) : List Blk :=
 match n with
 | 0 => h
 | n + 1 => h ++ yJ (n + 1) .dead
def ofEnv : Env → Tr
 | [] => .lf
 | (i, x) :: r => forceNat i fun i => putT (ofEnv r) (some i) x
def setPsT : List Nat → List V → Tr → Tr
 | p :: ps, x :: xs, E => setPsT ps xs (putT E (some p) x)
 | _, _, E => E
def inRdB (rk : Option Nat) (h : List Blk) : Bool :=
 match rk with
 | none => true
 | some k => match h[k]? with
  | some (.rcd .busy _) => true
  | _ => false
def begRdD (k : Nat) (f : Pt → Option (List Out)) (o : Out) : Option (List Out) :=
 match o with
 | .normal q => match q.2[k]? with
  | some (.rcd .ready e) => f (q.1, q.2.set k (.rcd .busy e))
  | _ => none
 | _ => none
def endRdD (k kE : Nat) (b : Bool) (t : RS) (q : Pt) : Option (List (V × Pt)) :=
 match q.2[k]? with
 | some (.rcd .busy e2) => match q.2[kE]? with
  | some (.rcd .ghost eI) => some [(.b b, ofEnv eI, (q.2.set k (.rcd t e2)).set kE .dead)]
  | _ => none
 | _ => none
def outRdD (k kE : Nat) (o : Out) : Option (List (V × Pt)) :=
 match o with
 | .normal q => endRdD k kE true .ready q
 | .exit j q => endRdD k kE false (.out (some j)) q
 | .ret q => endRdD k kE false (.out none) q
def rndD (k : Nat) (ps : List Nat) (fa fb : Nat → Pt → Option (List Out)) (xs : List V) (p : Pt) : Option (List (V × Pt)) :=
 match p.2[k]? with
 | some (.rcd .ready e) => if xs.length = ps.length then
   bindL (bindL (fa p.2.length (setPsT ps xs (ofEnv e), p.2 ++ [.rcd .ghost p.1.toEnv])) (begRdD k (fb p.2.length))) (outRdD k p.2.length)
  else none
 | _ => none
def endLpD (k : Nat) (h : List Blk) : Option (List Out) :=
 match h[k]? with
 | some (.rcd t e) => if wfEB (h.set k .dead) e && wfBB (h.set k .dead) (h.set k .dead) then match t with
   | .ready => some [.normal (ofEnv e, h.set k .dead)]
   | .out none => some [.ret (ofEnv e, h.set k .dead)]
   | .out (some j) => some [.exit j (ofEnv e, h.set k .dead)]
   | _ => none
  else none
 | _ => none
section
variable (call : CallD) (mvf : FuncId → Option Nat) (iter : ItD)
def cw : LCode → List Nat → Nat → (Nat → YtD) → Option Nat → Pt → Option (List Out)
 | .skip, _, _, _, _, p => some [.normal p]
 | .reg n ops, fx, _, _, _, p => (opsD call mvf fx p.2.length ops (p.1, roomD n p.2)).map (·.map .normal)
 | .tail _ n ops, fx, _, _, _, p => (opsD call mvf fx p.2.length ops (p.1, roomD n p.2)).map (·.map .normal)
 | .qui n ops, fx, _, _, _, p => (opsD call mvf fx p.2.length ops (p.1, roomD n p.2)).map (·.map .normal)
 | .yreg _ n ops, fx, _, y, _, p => (opsYD call mvf fx y p.2.length ops (p.1, roomD n p.2)).map (·.map .normal)
 | .tree n q, fx, _, _, _, p => match planD call mvf fx p.2.length q [] (p.1, roomD n p.2) with
  | none => none
  | some ps => (joinD fx ps).map (·.map .normal)
 | .ytree n q _ ops, fx, _, y, _, p => match bindL (planD call mvf fx p.2.length q [] (p.1, roomD n p.2)) (opsYD call mvf fx y p.2.length ops) with
  | none => none
  | some ps => (joinD fx ps).map (·.map .normal)
 | .seq a b, fx, n0, y, rk, p => andD (cw a fx n0 y rk p) (cw b fx n0 y rk)
 | .cond c a b, fx, n0, y, rk, p => match evT p.1 c with
  | .v (.bool true) => cw a fx n0 y rk p
  | .v (.bool false) => cw b fx n0 y rk p
  | _ => none
 | .block id c, fx, n0, y, rk, p => blockD fx id (cw c fx n0 y rk p)
 | .loop c, fx, n0, y, rk, p => loopD fx n0 (cw c fx n0 y rk) 3000 p
 | .exit j, _, _, _, _, p => some [.exit j p]
 | .ret, _, _, _, _, p => some [.ret p]
 | .bad, _, _, _, _, _ => none
 | .frz xs c, fx, n0, y, rk, p => match frzD fx xs p with
  | some p => cw c fx n0 y rk p
  | none => none
 | .rfn g ps asg body, fx, _, _, rk, p => match evT p.1 g with
  | .clo gf caps => if inRdB rk p.2 then
    forceNat p.2.length fun k => bindL (iter gf (.itr k :: caps) (k :: fx) k
     (rndD k ps (fun kE => cw asg (kE :: k :: fx) (kE + 1) (fun _ _ _ => none) (some k)) (fun kE => cw body (kE :: k :: fx) (kE + 1) (fun _ _ _ => none) (some k)))
     (p.2 ++ [.rcd .ready p.1.toEnv])) (endLpD k)
   else none
  | _ => none
end
def resD (p : Pt) : List LRes → Option (List V)
 | [] => some []
 | .tmp t :: r => match resD p r with
  | some xs => some (p.1.get t :: xs)
  | none => none
 | .cell a n :: r => match loadD p.2 n (p.1.get a), resD p r with
  | some x, some xs => some (x :: xs)
  | _, _ => none
def argsT : Nat → List V → Tr → Tr
 | _, [], E => E
 | i, x :: r, E => argsT (i + 1) r (putT E (some i) x)
def finD (fx : List Nat) (n : Nat) (rs : List LRes) (p : Pt) : Option (V × List Blk) :=
 match resD p rs with
 | none => none
 | some xs =>
  let L := keepN n p.2 (namesL xs)
  let h := L.map fun k => renBK (pos L) (blk p.2 k)
  if numB L p.2 n && keepB h fx then some (renK (pos L) (tupV xs), h) else none
def endD (fx : List Nat) (n : Nat) (rs : List LRes) (outs : List Out) : Option (V × List Blk) :=
 match outs with
 | [.normal p] => finD fx n rs p
 | [.ret p] => finD fx n rs p
 | _ => none
structure Memo where
 f : FuncId
 zas : List V
 h0 : List Blk
 r : V
 h : List Blk
def eqBs : List Blk → List Blk → Bool
 | [], [] => true
 | a :: r, b :: s => eqB a b && eqBs r s
 | _, _ => false
theorem eqBs_ok : ∀ {a b : List Blk}, eqBs a b = true → a = b
 | [], b, h => by cases b <;> simp_all [eqBs]
 | a :: r, b, h => by
  cases b with
  | nil => simp [eqBs] at h
  | cons c s => simp only [eqBs, yB] at h; rw [eqB_ok h.1, eqBs_ok h.2]
def findM (f : FuncId) (zas : List V) (h0 : List Blk) : List Memo → Option (V × List Blk)
 | [] => none
 | m :: r => if yC m.f f && (eqL m.zas zas && eqBs m.h0 h0) then some (m.r, m.h) else findM f zas h0 r
def bodyD (call : CallD) (mvf : FuncId → Option Nat) (iter : ItD) (en : Ent) (zas : List V) (h0 : List Blk) (mv fx : List Nat) : Option (V × List Blk) :=
 if decide (zas.length ≤ en.nt) && keepB h0 fx then
  match cw call mvf iter en.code fx h0.length (fun _ _ _ => none) none (argsT 0 zas .lf, h0) with
  | some outs => endD fx h0.length en.rs outs
  | none => none
 else none
def heapsD : List Out → Option (List (List Blk))
 | [] => some []
 | o :: r => match o, heapsD r with
  | .normal p, some l => some (p.2 :: l)
  | .ret p, some l => some (p.2 :: l)
  | _, _ => none
def ibodyD (call : CallD) (mvf : FuncId → Option Nat) (iter : ItD) (en : Ent) (zas : List V) (fx : List Nat) (k : Nat) (y : YtD) (h : List Blk) : Option (List (List Blk)) :=
 if (decide (zas.length ≤ en.nt) && en.rs.isEmpty) && (keepB h fx && fx.all fun j => yN j h.length) then
  match cw call mvf iter en.code fx h.length (fun k' => if yC k' k then y else fun _ _ => none) none (argsT 0 zas .lf, h) with
  | some outs => heapsD outs
  | none => none
 else none
def mvT (T : List (Option Ent)) (g : FuncId) : Option Nat :=
 match T[g]? with
 | some (some e) => e.mv
 | _ => none
def fiD (T : List (Option Ent)) (M : List Memo) : Nat → CallD × ItD
 | 0 => (fun _ _ _ _ => none, fun _ _ _ _ _ _ => none)
 | d + 1 => (fun f zas h0 mv => match (if mv.isEmpty then findM f zas h0 M else none) with
   | some x => some x
   | none => match T[f]? with
    | some (some en) => bodyD (fiD T M d).1 (mvT T) (fiD T M d).2 en zas h0 mv ((yZ h0.length).filter fun k => !(hasN mv k))
    | _ => none,
  fun f zas fx k y h => match T[f]? with
   | some (some en) => ibodyD (fiD T M d).1 (mvT T) (fiD T M d).2 en zas fx k y h
   | _ => none)
def fnD (T : List (Option Ent)) (M : List Memo) (d : Nat) : CallD := (fiD T M d).1
def givesB (x : Option (V × List Blk)) (r : V) (h : List Blk) : Bool :=
 match x with
 | some (r', h') => eqV r' r && eqBs h' h
 | none => false
theorem givesB_ok {x : Option (V × List Blk)} {r : V} {h : List Blk} (hx : givesB x r h = true) : x = some (r, h) := by
 unfold givesB at hx
 split at hx
 ·simp only [yB] at hx
  rw [eqV_ok hx.1, eqBs_ok hx.2]
 ·cases hx
end Go.Fx
