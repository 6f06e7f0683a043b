import Derived.Test.YtjijbjnelflcfaaGreatFxTree
import Derived.OrdersIn
import Derived.TacticsIn
import Derived.Sort.LoopGhostIn
import Derived.Test.YtjijbjnelflcfaaGreatFxFrz
import Derived.OpenShut
import Derived.ChangeOld
import Derived.Below
import Derived.ProofKit
import Derived.JoinedCond
set_option linter.unusedVariables false
set_option linter.unusedSimpArgs false
set_option linter.unusedSectionVars false
open Option.some renaming injEq → yA
open Bool renaming and_eq_true → yB, not_eq_true' → yZ
open List renaming mem_cons_of_mem → yC, getElem?_eq_some_iff → yE, mem_cons_self → yF, getElem?_set_ne → yG, all_eq_true → yH, getElem?_cons_zero → yI, getElem?_append_left → yK, mem_cons → yL, mem_of_getElem? → yM, getElem?_set_self → yN, length_eq_one_iff → yT, nodup_cons → yU, map_cons → yV, getElem?_eq_none → yW, contains_iff_mem → yY, getElem?_append_right → vA, getElem?_eq_getElem → vB, mem_append_left → vD, mem_append_right → vE
open Nat renaming le_refl → yD, lt_or_ge → yO, lt_of_lt_of_le → yP
open Array renaming replicate → yJ, getD_eq_getD_getElem? → yS, getElem?_eq_some_iff → yX, getElem?_eq_none → vC
open List.cons renaming injEq → yQ
namespace Go.Fx
open Go.RowKit
def rlY (P : Program) (op : Op) (l0 : LOp) : Option LOp :=
 match l0 with
 | .yld _ _ => match op with
  | .call c => match c.callee with
   | .value f => some (.yld f c.args.toList)
   | _ => none
  | _ => none
 | l0 => match rl P op l0 with
  | some (.yld _ _) => none
  | r => r
def rlOsY (P : Program) (ops : Array Oper) (N : Nat) : List Oper → List LOper → Option (List LOper)
 | [], [] => some []
 | o :: os, l :: ls => match rlY P o.op l.op, gOk ops N o.guard, dOk N o.dst, rlOsY P ops N os ls with
  | some op, some g, true, some r => some (⟨o.dst, op, g⟩ :: r)
  | _, _, _, _ => none
 | _, _ => none
def notDefer (o : Oper) : Bool := match o.op with
 | .defer _ => false
 | _ => true
def codeRd : Code → Bool
 | .region _ ops _ => ops.toList.all notDefer
 | .seq a b => codeRd a && codeRd b
 | .cond _ a b => codeRd a && codeRd b
 | .block _ a => codeRd a
 | .loop a => codeRd a
 | .rangeFunc _ _ a b => codeRd a && codeRd b
 | .skip | .label _ | .ret | .exit _ => true
 | _ => false
def inRd : LCode → Bool
 | .skip | .reg _ _ | .tree _ _ | .exit _ | .ret | .bad => true
 | .tail _ _ _ | .qui _ _ | .yreg _ _ _ | .ytree _ _ _ _ => false
 | .seq a b => inRd a && inRd b
 | .cond _ a b => inRd a && inRd b
 | .block _ a => inRd a
 | .loop a => inRd a
 | .frz _ a => inRd a
 | .rfn _ _ a b => inRd a && inRd b
def rlPT (P : Program) (N : Nat) (ops : Array Oper) (rs : Nat → Bool) (m : Nat) : LPlan → Array Bool → Nat → Option (List Nat) → Option LPlan
 | .done, listed, fuel, none => if fuel = 0 ∧ m < ops.size ∧ Region.seqB .any ops (ops.size - m) m listed = true then some .done else none
 | .take i D l p, listed, fuel + 1, none => match ops[i]? with
  | some o => match rl P o.op l.op, gOk ops N o.guard, dOk N o.dst, rlPT P N ops rs m p (listed.setIfInBounds i true) fuel none with
   | some op, some g, true, some p' => if takeOk ops rs listed i D op && D.contains m then some (.take i D ⟨o.dst, op, g⟩ p') else none
   | _, _, _, _ => none
  | none => none
 | .alt i l r p q, listed, fuel + 1, rem => match rem.getD (Region.ready .any ops listed), ops[i]? with
  | j :: js, some o => match rl P o.op l.op, gOk ops N o.guard, dOk N o.dst, rlPT P N ops rs m p (listed.setIfInBounds i true) fuel none, rlPT P N ops rs m q listed (fuel + 1) (some js) with
   | some op, some g, true, some p', some q' => if j = i ∧ r = rs i then some (.alt i ⟨o.dst, op, g⟩ r p' q') else none
   | _, _, _, _, _ => none
  | _, _ => none
 | .none, _, _, some [] => some .none
 | _, _, _, _ => none
def rlTY (P : Program) (N : Nat) (ops : Array Oper) (p : LPlan) (m : Nat) : Option LPlan :=
 if Region.noSelect ops then rlPT P N ops (fun j => !(rsOf p).contains j) m p (yJ ops.size false) m none else none
def rlC (P : Program) (N : Nat) : Code → LCode → Option LCode
 | .skip, _ => some .skip
 | .label _, _ => some .skip
 | .scope c, l => rlC P N c l
 | .ret, _ => some .ret
 | .exit i, _ => some (.exit i)
 | .region _ ops draw, l => match l with
  | .reg n ls => match draw, rlOs P ops N ops.toList ls with
   | false, some r => some (.reg n r)
   | _, _ => none
  | .qui n ls => match draw, rlOs P ops N ops.toList ls with
   | true, some r => if (r.all fun l => quietOp l.op) && Region.lexB .any ops then some (.qui n r) else none
   | _, _ => none
  | .tail m n ls => match draw, rlOs P ops N ops.toList ls with
   | true, some r => if ((r.take m).all fun l => quietOp l.op) && Region.lexTailB .any ops m then some (.tail m n r) else none
   | _, _ => none
  | .tree n p => match draw, rlT P N ops p with
   | true, some r => some (.tree n r)
   | _, _ => none
  | .yreg m n ls => match rlOsY P ops N ops.toList ls with
   | some r => if !draw || ((r.take m).all fun l => quietOp l.op) && Region.lexTailB .any ops m then some (.yreg (if draw then m else 0) n r) else none
   | _ => none
  | .ytree n p m ls => match draw, rlTY P N ops p m, rlOsY P ops N (ops.toList.drop m) ls with
   | true, some p', some r => if m < ops.size then some (.ytree n p' m r) else none
   | _, _, _ => none
  | .bad => some .bad
  | _ => none
 | .seq a b, l => match l with
  | .seq x y => match rlC P N a x, rlC P N b y with
   | some x', some y' => some (.seq x' y')
   | _, _ => none
  | .frz xs (.seq x y) => match rlC P N a x, rlC P N b y with
   | some x', some y' => some (.frz xs (.seq x' y'))
   | _, _ => none
  | .bad => some .bad
  | _ => none
 | .cond c a b, l => match l with
  | .cond _ x y => match rlC P N a x, rlC P N b y with
   | some x', some y' => some (.cond c x' y')
   | _, _ => none
  | _ => none
 | .block i a, l => match l with
  | .block _ x => match rlC P N a x with
   | some x' => some (.block i x')
   | none => none
  | _ => none
 | .loop a, l => match l with
  | .loop x => match rlC P N a x with
   | some x' => some (.loop x')
   | none => none
  | _ => none
 | .rangeFunc g ps asg body, l => match l with
  | .rfn _ _ x y => match rlC P N asg x, rlC P N body y with
   | some x', some y' => if (ps.toList.all fun p => decide (p < N)) && (codeRd asg && codeRd body) && (inRd x' && inRd y') then some (.rfn g ps.toList x' y') else none
   | _, _ => none
  | _ => none
 | _, _ => none
section
variable {P : Program} {ρ0 : Nat → Loc} {X : Nat → Prop} {w0 : World} {fx : List Nat} {N : Nat}
theorem le_get : ∀ {p : Env} {e : Env}, leE e p → ∀ i, get p i = .any ∨ get p i = get e i
 | [], _, _, _ => .inl rfl
 | (j, x) :: r, e, h, i => by
  simp only [get]
  split
  ·rename_i hi
   subst hi
   exact .inr h.1.symm
  ·exact le_get h.2 i
theorem leH_get : ∀ {h p : List Blk}, leH h p → ∀ (k : Nat) (B : Blk), p[k]? = some B → ∃ A, h[k]? = some A ∧ leB A B
 | _, [], _, k, B, hB => by simp at hB
 | a :: h, c :: p, hl, 0, B, hB => by
  simp only [yI, yA] at hB
  subst hB
  exact ⟨a, rfl, hl.1⟩
 | a :: h, c :: p, hl, k + 1, B, hB => by
  obtain ⟨A, h1, h2⟩ := leH_get (h := h) (p := p) hl.2 k B (by simpa using hB)
  exact ⟨A, by simpa using h1, h2⟩
 | [], _ :: _, hl, _, _, _ => hl.elim
theorem leVs_rep {ρ : Nat → Loc} {w : World} : ∀ {xs ys : List V} {vs : List Value}, leVs xs ys → RepL ρ X w xs vs → RepL ρ X w ys vs
 | [], [], _, _, h => h
 | x :: xs, y :: ys, u :: us, hl, h => by
  refine ⟨?_, leVs_rep hl.2 h.2⟩
  have h1 := hl.1
  unfold leV at h1
  split at h1
  ·trivial
  ·subst h1; exact h.1
 | _ :: _, _ :: _, [], _, h => h.elim
 | [], _ :: _, _, hl, _ => hl.elim
 | _ :: _, [], _, hl, _ => hl.elim
def dropLoc (ρ : Nat → Loc) (p : List Blk) (k : Nat) : Loc :=
 match p[k]? with
 | some .dead => { ρ k with real := false }
 | some _ => ρ k
 | none => { ρ k with real := false }
theorem dropLoc_own {ρ : Nat → Loc} {p : List Blk} {b : Nat} (h : Own (dropLoc ρ p) b) : Own ρ b := by
 obtain ⟨k, h1, h2⟩ := h
 unfold dropLoc at h1 h2
 split at h1
 ·cases h1
 ·exact ⟨k, h1, by simp_all⟩
 ·cases h1
theorem live_loc {ρ : Nat → Loc} {p : List Blk} {k : Nat} (h : liveP p k) : dropLoc ρ p k = ρ k := by
 unfold liveP at h
 unfold dropLoc
 cases hb : p[k]? with
 | none => rw [hb] at h; exact h.elim
 | some B => rw [hb] at h; cases B <;> first | rfl | exact h.elim
theorem drop_sta {ρ : Nat → Loc} {w : World} {p : List Blk} : ∀ b, Sta ρ X w b → Sta (dropLoc ρ p) X w b ∧ w.heap[b]? = w.heap[b]? :=
 fun _ h => ⟨⟨h.1, fun ho => h.2.1 (dropLoc_own ho), h.2.2⟩, rfl⟩
theorem drop_len {ρ : Nat → Loc} {w : World} {p : List Blk} {b : Nat} (h : Len ρ w b) : Len (dropLoc ρ p) w b := ⟨h.1, fun ho => h.2 (dropLoc_own ho)⟩
mutual
theorem drop_rep {ρ : Nat → Loc} {w : World} {p : List Blk} : ∀ (x : V) (val : Value), wfV p x → RepV ρ X w x val → RepV (dropLoc ρ p) X w x val
 | .any, _, _, _ => trivial
 | .v _, _, _, hx => hx
 | .ro sz els, val, _, hx => RepD_mono drop_sta (.ro sz els) val hx
 | .bro sz els, val, _, hx => by
  obtain ⟨a, len, cap, h1, h2, h3, h4, h5⟩ := hx
  refine ⟨a, len, cap, h1, h2, h3, h4, h5.imp id ?_⟩
  rintro ⟨b, off, h6, h7, h8⟩
  exact ⟨b, off, h6, drop_len h7, RepEls_mono drop_sta sz b rfl off els h8⟩
 | .full sz els, val, _, hx => by
  obtain ⟨a, len, h1, h2, h4, h5⟩ := hx
  refine ⟨a, len, h1, h2, h4, h5.imp id ?_⟩
  rintro ⟨b, off, h6, h7, h8⟩
  exact ⟨b, off, h6, drop_len h7, RepEls_mono drop_sta sz b rfl off els h8⟩
 | .rp sz els i f, val, _, hx => by
  obtain ⟨b, off, h6, h7, h8⟩ := hx
  exact ⟨b, off, h6, drop_len h7, RepEls_mono drop_sta sz b rfl off els h8⟩
 | .sl k i n, val, hw, hx => by
  obtain ⟨cap, h1, h2, h3⟩ := hx
  refine ⟨cap, h1, h2, ?_⟩
  rw [live_loc hw]
  exact h3
 | .ptr k i f, val, hw, hx => by
  simp only [RepV]
  rw [live_loc hw]
  exact hx
 | .agg cs, val, hw, hx => by
  obtain ⟨arr, h1, h2⟩ := hx
  exact ⟨arr, h1, drops_rep cs _ hw h2⟩
 | .tup cs, val, hw, hx => by
  obtain ⟨arr, h1, h2⟩ := hx
  exact ⟨arr, h1, drops_rep cs _ hw h2⟩
 | .clo f cs, val, hw, hx => by
  obtain ⟨arr, h1, h2⟩ := hx
  exact ⟨arr, h1, drops_rep cs _ hw h2⟩
 | .mp k, val, hw, hx => by
  simp only [RepV]
  rw [live_loc hw]
  exact hx
 | .itr k, val, hw, hx => by
  simp only [RepV]
  rw [live_loc hw]
  exact hx
theorem drops_rep {ρ : Nat → Loc} {w : World} {p : List Blk} : ∀ (xs : List V) (vs : List Value), wfL p xs → RepL ρ X w xs vs → RepL (dropLoc ρ p) X w xs vs
 | [], [], _, _ => trivial
 | x :: r, u :: us, hw, hx => ⟨drop_rep x u hw.1 hx.1, drops_rep r us hw.2 hx.2⟩
 | [], _ :: _, _, hx => hx.elim
 | _ :: _, [], _, hx => hx.elim
end
theorem wfE_get {h : List Blk} : ∀ {e : Env}, wfE h e → ∀ i, wfV h (get e i)
 | [], _, _ => trivial
 | (j, x) :: r, hw, i => by
  simp only [get]
  split
  ·exact hw.1
  ·exact wfE_get hw.2 i
theorem wfB_get {h : List Blk} : ∀ {l : List Blk}, wfB h l → ∀ (k : Nat) (cs : List V), l[k]? = some (Blk.var cs) → wfL h cs
 | b :: r, hw, 0, cs, hk => by
  simp only [yI, yA] at hk
  subst hk
  exact hw.1
 | b :: r, hw, k + 1, cs, hk => by
  have : wfB h r := by cases b <;> first | exact hw | exact hw.2
  exact wfB_get this k cs (by simpa using hk)
 | [], _, _, _, hk => by simp at hk
theorem wfL_mem {h : List Blk} : ∀ {xs : List V}, wfL h xs → ∀ {x : V}, x ∈ xs → wfV h x
 | y :: r, hw, x, hx => by
  rcases yL.1 hx with rfl | hx
  ·exact hw.1
  ·exact wfL_mem hw.2 hx
 | [], _, _, hx => by simp at hx
theorem wfB_tail {h : List Blk} {b : Blk} {r : List Blk} (hw : wfB h (b :: r)) : wfB h r := by cases b <;> first | exact hw | exact hw.2
theorem wfB_arv {h : List Blk} : ∀ {l : List Blk}, wfB h l → ∀ (k : Nat) (sz : Nat) (els : List (List V)), l[k]? = some (Blk.arv sz els) → wfL h els.flatten
 | b :: r, hw, 0, sz, els, hk => by
  simp only [yI, yA] at hk
  subst hk
  exact hw.1
 | b :: r, hw, k + 1, sz, els, hk => wfB_arv (wfB_tail hw) k sz els (by simpa using hk)
 | [], _, _, _, _, hk => by simp at hk
theorem wfB_map {h : List Blk} : ∀ {l : List Blk}, wfB h l → ∀ (k : Nat) (es : List (Value × V × Nat)) (c : Nat), l[k]? = some (Blk.map es c) → wfL h (es.map (·.2.1))
 | b :: r, hw, 0, sz, els, hk => by
  simp only [yI, yA] at hk
  subst hk
  exact hw.1
 | b :: r, hw, k + 1, sz, els, hk => wfB_map (wfB_tail hw) k sz els (by simpa using hk)
 | [], _, _, _, _, hk => by simp at hk
theorem wfB_it {h : List Blk} : ∀ {l : List Blk}, wfB h l → ∀ (k : Nat) (m : V) (s : Nat) (sn : List Nat) (c : Nat), l[k]? = some (Blk.it m s sn c) → wfV h m
 | b :: r, hw, 0, m, s, sn, c, hk => by
  simp only [yI, yA] at hk
  subst hk
  exact hw.1
 | b :: r, hw, k + 1, m, s, sn, c, hk => wfB_it (wfB_tail hw) k m s sn c (by simpa using hk)
 | [], _, _, _, _, _, _, hk => by simp at hk
theorem wfB_rcd {h : List Blk} : ∀ {l : List Blk}, wfB h l → ∀ (k : Nat) (t : RS) (e : Env), l[k]? = some (Blk.rcd t e) → wfE h e
 | b :: r, hw, 0, t, e, hk => by
  simp only [yI, yA] at hk
  subst hk
  exact hw.1
 | b :: r, hw, k + 1, t, e, hk => wfB_rcd (wfB_tail hw) k t e (by simpa using hk)
 | [], _, _, _, _, hk => by simp at hk
theorem drop_fr {ρ : Nat → Loc} {w : World} {p : List Blk} : Fr ρ w (dropLoc ρ p) w := ⟨rfl, rfl, rfl, yD _, fun _ _ ho => ⟨rfl, fun h => ho (dropLoc_own h)⟩⟩
theorem dropRep {ρ : Nat → Loc} {w : World} {h p : List Blk} (hr : Rep ρ X w h) (hl : leH h p) (hw : wfB p p) : Rep (dropLoc ρ p) X w p := by
 have hreal : ∀ k, (dropLoc ρ p k).real = true → liveP p k := by
  intro k hk
  unfold dropLoc at hk
  unfold liveP
  cases hb : p[k]? with
  | none => rw [hb] at hk; cases hk
  | some B => rw [hb] at hk; cases B <;> first | trivial | cases hk
 refine ⟨?_, ?_, ?_, ?_, ?_, hr.xlt⟩
 ·intro i j hij hi hj
  have h1 := hreal i hi
  have h2 := hreal j hj
  rw [live_loc h1] at hi ⊢
  rw [live_loc h2] at hj ⊢
  exact hr.inj i j hij hi hj
 ·intro k hk
  have : p[k]? = none := by simpa using hk
  simp [dropLoc, this]
 ·intro k B hB
  obtain ⟨A, hA, hAB⟩ := leH_get hl k B hB
  have hrA := hr.blk k A hA
  cases B with
  | dead => simp [RepB, dropLoc, hB]
  | arr sz els =>
   have hAB' : A = .arr sz els := hAB
   subst hAB'
   have hlive : liveP p k := by simp [liveP, hB]
   simp only [RepB] at hrA ⊢
   rw [live_loc hlive]
   refine ⟨hrA.1, hrA.2.imp id ?_⟩
   rintro ⟨h1, c, T, h2, h3, h4, h5⟩
   exact ⟨h1, c, T, h2, h3, h4, RepEls_mono drop_sta sz _ rfl _ _ h5⟩
  | var ys =>
   cases A with
   | var xs =>
    have hlive : liveP p k := by simp [liveP, hB]
    simp only [RepB] at hrA ⊢
    rw [live_loc hlive]
    obtain ⟨h1, c, T, h2, h3⟩ := hrA
    exact ⟨h1, c, T, h2, drops_rep _ _ (wfB_get hw k ys hB) (leVs_rep hAB h3.1), h3.2⟩
   | _ => exact hAB.elim
  | arv sz els =>
   have hAB' : A = .arv sz els := hAB
   subst hAB'
   have hlive : liveP p k := by simp [liveP, hB]
   simp only [RepB] at hrA ⊢
   rw [live_loc hlive]
   obtain ⟨h0, h1, c, T, h2, h3, h4, h5⟩ := hrA
   refine ⟨h0, h1, c, T, h2, h3, h4, fun i e he => ⟨(h5 i e he).1, fun f x hx => ?_⟩⟩
   obtain ⟨u, h6, h7⟩ := (h5 i e he).2 f x hx
   exact ⟨u, h6, drop_rep _ _ (wfL_mem (wfB_arv hw k sz els hB) (List.mem_flatten.2 ⟨e, yM he, yM hx⟩)) h7⟩
  | map es cl =>
   have hAB' : A = .map es cl := hAB
   subst hAB'
   have hlive : liveP p k := by simp [liveP, hB]
   simp only [RepB] at hrA ⊢
   rw [live_loc hlive]
   obtain ⟨h1, arr, h2, h3, h4⟩ := hrA
   exact ⟨h1, arr, h2, h3, drops_rep _ _ (wfB_map hw k es cl hB) h4⟩
  | it m s sn l =>
   have hAB' : A = .it m s sn l := hAB
   subst hAB'
   have hlive : liveP p k := by simp [liveP, hB]
   simp only [RepB] at hrA ⊢
   rw [live_loc hlive]
   obtain ⟨h1, x, h2, h3⟩ := hrA
   exact ⟨h1, x, h2, drop_rep _ _ (wfB_it hw k m s sn l hB) h3⟩
  | rcd t p' =>
   cases A with
   | rcd t' e =>
    obtain ⟨rfl, hle⟩ : t' = t ∧ (e = p' ∨ leE e p') := hAB
    have hlive : liveP p k := by simp [liveP, hB]
    simp only [RepB] at hrA ⊢
    rw [live_loc hlive]
    refine ⟨hrA.1, fun i => ?_⟩
    have hwf := wfE_get (wfB_rcd hw k t' p' hB) i
    rcases hle with rfl | hle
    ·exact drop_rep _ _ hwf (hrA.2 i)
    rcases le_get hle i with hg | hg
    ·rw [hg]; trivial
    ·exact drop_rep _ _ hwf (by rw [hg]; exact hrA.2 i)
   | _ => exact hAB.elim
 ·rintro b ho hx
  exact hr.disj b (dropLoc_own ho) hx
 ·intro k hk
  have hl' := hreal k hk
  rw [live_loc hl'] at hk ⊢
  exact hr.lt k hk
theorem Good.le {s p : St} {a : Act} {w : World} (h : Good ρ0 X w0 fx N s a w) (hl : leS fx s p) : Good ρ0 X w0 fx N p a w := by
 obtain ⟨ρ, ⟨⟨hf, h1⟩, hk⟩, ⟨hr, he⟩, h5, h5m⟩ := h
 obtain ⟨l1, l2, l3, l4, l5⟩ := hl
 refine ⟨dropLoc ρ p.h, ⟨⟨hf.trans drop_fr, fun k hk' => by rw [live_loc (keepP_get l3 k hk')]; exact h1 k hk'⟩, l3⟩, ⟨dropRep hr l2 l5, fun i => ?_⟩, h5, h5m.fr drop_fr⟩
 have hwf := wfE_get l4 i
 rcases le_get l1 i with hg | hg
 ·rw [hg]; trivial
 ·exact drop_rep _ _ hwf (by rw [hg]; exact he i)
theorem leVs_refl : ∀ xs : List V, leVs xs xs
 | [] => trivial
 | x :: xs => ⟨by unfold leV; split <;> trivial, leVs_refl xs⟩
theorem leB_refl (b : Blk) : leB b b := by
 cases b with
 | dead => trivial
 | var xs => exact leVs_refl xs
 | rcd t e => exact ⟨rfl, .inl rfl⟩
 | _ => rfl
theorem leH_refl : ∀ h : List Blk, leH h h
 | [] => trivial
 | b :: h => ⟨leB_refl b, leH_refl h⟩
theorem leH_dead : ∀ (h : List Blk) (n : Nat) (B : Blk), leH (h.set n B) (h.set n .dead)
 | [], _, _ => trivial
 | b :: h, 0, B => ⟨trivial, leH_refl h⟩
 | b :: h, n + 1, B => ⟨leB_refl b, leH_dead h n B⟩
theorem Good.leH {s : St} {p : List Blk} {a : Act} {w : World} (h : Good ρ0 X w0 fx N s a w) (l2 : leH s.h p) (l3 : keepP fx p) (l4 : wfE p s.e) (l5 : wfB p p) : Good ρ0 X w0 fx N { s with h := p } a w := by
 obtain ⟨ρ, ⟨⟨hf, h1⟩, hk⟩, ⟨hr, he⟩, h5, h5m⟩ := h
 exact ⟨dropLoc ρ p, ⟨⟨hf.trans drop_fr, fun k hk' => by rw [live_loc (keepP_get l3 k hk')]; exact h1 k hk'⟩, l3⟩, ⟨dropRep hr l2 l5, fun i => drop_rep _ _ (wfE_get l4 i) (he i)⟩, h5, h5m.fr drop_fr⟩
theorem Good.give {s : St} {M : Nat → Bool} {a : Act} {w : World} (h : Good ρ0 X w0 fx N s a w) (hM : ∀ k ∈ fx, M k = false) : Good ρ0 X w0 fx N (s.give M) a w := by
 obtain ⟨ρ, ⟨⟨g1, g2⟩, g3⟩, ⟨g4, g5⟩, g6⟩ := h
 exact ⟨gvLoc ρ M, ⟨⟨g1.trans gv_fr, fun j hj => by rw [gv_ne (by rw [hM j hj]; simp)]; exact g2 j hj⟩, keepP_mk fun j hj => live_give (keepP_get g3 j hj) (hM j hj)⟩,
  ⟨giveRep g4, fun i => by show RepV _ _ _ (get (gvE M s.h s.e) i) _; rw [get_gvE]; exact gv_rep g4 _ _ (g5 i)⟩, g6.1, g6.2.fr gv_fr⟩
theorem nil_cell {ρ : Nat → Loc} {w : World} {x y : V} {val : Value} (hc : nilCell x y) (h : RepV ρ X w x val) : RepV ρ X w y val := by
 rcases hc with rfl | ⟨rfl, k, rfl⟩
 ·exact h
 ·have : val = .slice none 0 0 := h
  subst this
  exact ⟨0, yD _, Nat.zero_le _, .inl ⟨rfl, none, rfl⟩⟩
theorem nil_row {ρ : Nat → Loc} {w : World} : ∀ {xs ys : List V} {vs : List Value}, nilRow xs ys → RepL ρ X w xs vs → RepL ρ X w ys vs
 | [], ys, [], hr, h => by
  have : ys = [] := List.eq_nil_of_length_eq_zero hr.1
  subst this; trivial
 | x :: xs, [], v :: vs, hr, h => by have := hr.1; simp at this
 | x :: xs, y :: ys, v :: vs, hr, h =>
  ⟨nil_cell (hr.2 0 x y rfl rfl) h.1, nil_row (xs := xs) (ys := ys) ⟨by simpa using hr.1, fun i a b h1 h2 => hr.2 (i + 1) a b (by simpa using h1) (by simpa using h2)⟩ h.2⟩
 | [], _, _ :: _, _, h => h.elim
 | _ :: _, _, [], _, h => h.elim
theorem RepB_ext {ρ ρ' : Nat → Loc} {w : World} (hf : Fr ρ w ρ' w) (hag : ∀ k, (ρ k).real = true → ρ' k = ρ k) {k : Nat} (hk : ρ' k = ρ k) {B : Blk} (h : RepB ρ X w k B) : RepB ρ' X w k B := by
 cases B with
 | dead => simp only [RepB] at h ⊢; rw [hk]; exact h
 | arr s es =>
  simp only [RepB] at h ⊢
  rw [hk]
  refine ⟨h.1, h.2.imp id ?_⟩
  rintro ⟨h1, c, T, h2, h3, h4, h5⟩
  exact ⟨h1, c, T, h2, h3, h4, RepEls_mono hf.sta s _ rfl _ _ h5⟩
 | var cs =>
  simp only [RepB] at h ⊢
  rw [hk]
  obtain ⟨h1, c, T, h2, h3⟩ := h
  exact ⟨h1, c, T, h2, RepL_mono hf hag _ _ h3.1, h3.2⟩
 | arv s es =>
  simp only [RepB] at h ⊢
  rw [hk]
  obtain ⟨h0, h1, c, T, h2, h3, h4, h5⟩ := h
  exact ⟨h0, h1, c, T, h2, h3, h4, fun i e he => ⟨(h5 i e he).1, fun f x hx => by obtain ⟨u, h6, h7⟩ := (h5 i e he).2 f x hx; exact ⟨u, h6, RepV_mono hf hag _ _ h7⟩⟩⟩
 | map es cl =>
  simp only [RepB] at h ⊢
  rw [hk]
  obtain ⟨h1, arr, h2, h3, h4⟩ := h
  exact ⟨h1, arr, h2, h3, RepL_mono hf hag _ _ h4⟩
 | it m s sn l =>
  simp only [RepB] at h ⊢
  rw [hk]
  obtain ⟨h1, x, h2, h3⟩ := h
  exact ⟨h1, x, h2, RepV_mono hf hag _ _ h3⟩
 | rcd t e =>
  simp only [RepB] at h ⊢
  rw [hk]
  exact ⟨h.1, fun i => RepV_mono hf hag _ _ (h.2 i)⟩
theorem Good.setB {s : St} {a : Act} {w : World} {j : Nat} {B C : Blk} (h : Good ρ0 X w0 fx N s a w) (hb : s.h[j]? = some B) (hl : liveP [C] 0) (hC : ∀ ρ, RepB ρ X w j B → RepB ρ X w j C) : Good ρ0 X w0 fx N { s with h := s.h.set j C } a w := by
 obtain ⟨ρ, ⟨⟨g1, g2⟩, g3⟩, ⟨g4, g5⟩, g6⟩ := h
 have hjl := (yE.1 hb).1
 refine ⟨ρ, ⟨⟨g1, g2⟩, keepP_mk fun k hk => ?_⟩, ⟨⟨g4.inj, fun k hk => g4.out k (by simpa using hk), fun k D hD => ?_, g4.disj, g4.lt, g4.xlt⟩, g5⟩, g6⟩
 ·have := keepP_get g3 k hk
  unfold liveP at this ⊢
  by_cases hkj : j = k
  ·subst hkj
   rw [yN hjl]
   cases C <;> first | exact hl.elim | trivial
  ·rw [yG hkj]; exact this
 ·by_cases hkj : j = k
  ·subst hkj
   rw [yN hjl] at hD
   simp only [yA] at hD
   subst hD
   exact hC ρ (g4.blk j B hb)
  ·rw [yG hkj] at hD
   exact g4.blk k D hD
def virtLoc (ρ : Nat → Loc) (n m sz k : Nat) : Loc := if n ≤ k ∧ k < n + m then { ρ k with real := false, sz := sz } else ρ k
theorem Good.virt {s : St} {a : Act} {w : World} (m sz : Nat) (hz : 0 < sz) (h : Good ρ0 X w0 fx N s a w) : Good ρ0 X w0 fx N { s with h := s.h ++ List.replicate m (.arr sz []) } a w := by
 obtain ⟨ρ, ⟨⟨g1, g2⟩, g3⟩, ⟨g4, g5⟩, g6⟩ := h
 have hreal : ∀ k, (virtLoc ρ s.h.length m sz k).real = true → (ρ k).real = true ∧ virtLoc ρ s.h.length m sz k = ρ k := by
  intro k hk
  unfold virtLoc at hk ⊢
  split at hk
  ·cases hk
  ·rename_i hn; rw [if_neg hn]; exact ⟨hk, rfl⟩
 have hag : ∀ k, (ρ k).real = true → virtLoc ρ s.h.length m sz k = ρ k := by
  intro k hk
  unfold virtLoc
  rw [if_neg]
  rintro ⟨h1, _⟩
  rw [g4.out k h1] at hk
  cases hk
 have hown : ∀ b, Own (virtLoc ρ s.h.length m sz) b → Own ρ b := by
  rintro b ⟨k, h1, h2⟩
  have := hreal k h1
  rw [this.2] at h2
  exact ⟨k, this.1, h2⟩
 have hf : Fr ρ w (virtLoc ρ s.h.length m sz) w := ⟨rfl, rfl, rfl, yD _, fun _ _ ho => ⟨rfl, fun h => ho (hown _ h)⟩⟩
 have hlt : ∀ k, k < s.h.length → virtLoc ρ s.h.length m sz k = ρ k := fun k hk => by unfold virtLoc; rw [if_neg (by omega)]
 refine ⟨virtLoc ρ s.h.length m sz, ⟨⟨g1.trans hf, fun k hk => ?_⟩, keepP_mk fun k hk => ?_⟩, ⟨⟨?_, fun k hk => ?_, fun k D hD => ?_, fun b ho => g4.disj b (hown b ho), fun k hk => ?_, g4.xlt⟩, fun i => RepV_mono hf hag _ _ (g5 i)⟩, g6.1, g6.2.fr hf⟩
 ·have hl := keepP_get g3 k hk
  have : k < s.h.length := by
   unfold liveP at hl
   cases hb : s.h[k]? with
   | none => rw [hb] at hl; exact hl.elim
   | some B => exact (yE.1 hb).1
  rw [hlt k this]; exact g2 k hk
 ·have hl := keepP_get g3 k hk
  unfold liveP at hl ⊢
  cases hb : s.h[k]? with
  | none => rw [hb] at hl; exact hl.elim
  | some B =>
   show (match (s.h ++ List.replicate m (Blk.arr sz []))[k]? with | some Blk.dead => False | some _ => True | none => False)
   rw [yK (yE.1 hb).1]
   rw [hb] at hl ⊢
   exact hl
 ·intro i j hij hi hj
  have h1 := hreal i hi
  have h2 := hreal j hj
  rw [h1.2, h2.2]
  exact g4.inj i j hij h1.1 h2.1
 ·simp only [List.length_append, List.length_replicate] at hk
  have := g4.out k (by omega)
  unfold virtLoc
  split
  ·rfl
  ·exact this
 ·by_cases hkl : k < s.h.length
  ·rw [yK hkl] at hD
   exact RepB_ext hf hag (hlt k hkl) (g4.blk k D hD)
  ·rw [vA (by omega), List.getElem?_replicate] at hD
   split at hD
   ·rename_i hm
    simp only [yA] at hD
    subst hD
    simp only [RepB, virtLoc]
    rw [if_pos (by omega)]
    exact ⟨⟨rfl, hz⟩, .inl ⟨rfl, trivial⟩⟩
   ·cases hD
 ·have h1 := hreal k hk
  rw [h1.2]; exact g4.lt k h1.1
theorem Good.virtAt {s : St} {a : Act} {w : World} (k sz : Nat) (hz : 0 < sz) (hk : s.h[k]? = some .dead) (h : Good ρ0 X w0 fx N s a w) : Good ρ0 X w0 fx N { s with h := s.h.set k (.arr sz []) } a w := by
 obtain ⟨ρ, ⟨⟨g1, g2⟩, g3⟩, ⟨g4, g5⟩, g6⟩ := h
 have hkl := (yE.1 hk).1
 have hkd : (ρ k).real = false := by simpa [RepB] using g4.blk k _ hk
 have hne : ∀ j, j ≠ k → upd ρ k { ρ k with sz := sz } j = ρ j := fun j hj => upd_other _ _ hj
 have hreal : ∀ j, (upd ρ k { ρ k with sz := sz } j).real = (ρ j).real := by
  intro j
  by_cases hj : j = k
  ·subst hj; rw [upd_same]
  ·rw [hne j hj]
 have hag : ∀ j, (ρ j).real = true → upd ρ k { ρ k with sz := sz } j = ρ j := by
  intro j hj
  refine hne j fun e => ?_
  rw [e, hkd] at hj; cases hj
 have hown : ∀ b, Own (upd ρ k { ρ k with sz := sz }) b → Own ρ b := by
  rintro b ⟨j, h1, h2⟩
  rw [hreal] at h1
  rw [hag j h1] at h2
  exact ⟨j, h1, h2⟩
 have hf : Fr ρ w (upd ρ k { ρ k with sz := sz }) w := ⟨rfl, rfl, rfl, yD _, fun _ _ ho => ⟨rfl, fun h => ho (hown _ h)⟩⟩
 have hnf : ∀ j ∈ fx, j ≠ k := by
  intro j hj e
  have := keepP_get g3 j hj
  rw [e] at this
  unfold liveP at this
  rw [hk] at this
  exact this
 refine ⟨_, ⟨⟨g1.trans hf, fun j hj => (hne j (hnf j hj)).trans (g2 j hj)⟩, keepP_mk fun j hj => ?_⟩, ⟨⟨?_, fun j hj => ?_, fun j D hD => ?_, fun b ho => g4.disj b (hown b ho), fun j hj => ?_, g4.xlt⟩, fun i => RepV_mono hf hag _ _ (g5 i)⟩, g6.1, g6.2.fr hf⟩
 ·have := keepP_get g3 j hj
  unfold liveP at this ⊢
  rw [yG (fun e => hnf j hj e.symm)]; exact this
 ·intro a b hab ha hb
  rw [hreal] at ha hb
  rw [hag a ha, hag b hb]
  exact g4.inj a b hab ha hb
 ·rw [hreal]
  exact g4.out j (by simpa using hj)
 ·by_cases hkj : k = j
  ·subst hkj
   rw [yN hkl] at hD
   simp only [yA] at hD
   subst hD
   simp only [RepB, upd_same]
   exact ⟨⟨trivial, hz⟩, .inl ⟨hkd, trivial⟩⟩
  ·rw [yG hkj] at hD
   exact RepB_ext hf hag (hne j fun e => hkj e.symm) (g4.blk j D hD)
 ·rw [hreal] at hj
  rw [hag j hj]; exact g4.lt j hj
theorem Good.mv {s : St} {a : Act} {w : World} (i j : Nat) (B : Blk) (hij : i ≠ j) (hi : s.h[i]? = some .dead) (hj : s.h[j]? = some B) (hjf : j ∉ fx) (h : Good ρ0 X w0 fx N s a w) :
  Good ρ0 X w0 fx N { s with e := mvE i j s.e, h := ((s.h.map (mvB i j)).set i (mvB i j B)).set j .dead } a w := by
 obtain ⟨ρ, ⟨⟨g1, g2⟩, g3⟩, ⟨g4, g5⟩, g6⟩ := h
 have hid : (ρ i).real = false := by simpa [RepB] using g4.blk i _ hi
 have hnf : ∀ k ∈ fx, k ≠ i ∧ k ≠ j := by
  intro k hk
  refine ⟨fun e => ?_, fun e => hjf (e ▸ hk)⟩
  have := keepP_get g3 k hk
  rw [e] at this
  unfold liveP at this
  rw [hi] at this
  exact this
 refine ⟨mvLoc ρ i j, ⟨⟨g1.trans (mv_fr hid), fun k hk => ?_⟩, keepP_mk fun k hk => ?_⟩, ⟨mvRep g4 hij hi hj, fun t => ?_⟩, g6.1, g6.2.fr (mv_fr hid)⟩
 ·have := hnf k hk
  unfold mvLoc
  rw [if_neg this.1, if_neg this.2]; exact g2 k hk
 ·have h1 := hnf k hk
  have := keepP_get g3 k hk
  unfold liveP at this ⊢
  rw [yG (fun e => h1.2 e.symm), yG (fun e => h1.1 e.symm), List.getElem?_map]
  cases hb : s.h[k]? with
  | none => rw [hb] at this; exact this.elim
  | some C => rw [hb] at this; cases C <;> first | exact this.elim | trivial
 ·show RepV _ _ _ (get (mvE i j s.e) t) _
  rw [get_mvE]; exact mv_rep hid _ _ (g5 t)
theorem Good.ghost {s s' : St} {a : Act} {w : World} (hg : Ghost fx s s') (h : Good ρ0 X w0 fx N s a w) : Good ρ0 X w0 fx N s' a w := by
 induction hg with
 | refl s => exact h
 | le hl _ ih => exact ih (h.le hl)
 | give M hM _ ih => exact ih (h.give hM)
 | virtAt k sz hz hk _ ih => exact ih (h.virtAt k sz hz hk)
 | mv i j B hij hi hj hf _ ih => exact ih (h.mv i j B hij hi hj hf)
 | virt n sz hz _ ih => exact ih (h.virt n sz hz)
 | nilE i k hn _ ih =>
  refine ih ?_
  obtain ⟨ρ, g1, ⟨g4, g5⟩, g6⟩ := h
  refine ⟨ρ, g1, ⟨g4, fun j => ?_⟩, g6⟩
  show RepV ρ X w (if j = i then .sl k 0 0 else get _ j) _
  by_cases hj : j = i
  ·subst hj
   rw [if_pos rfl]
   exact nil_cell (.inr ⟨rfl, k, rfl⟩) (hn ▸ g5 j)
  ·rw [if_neg hj]; exact g5 j
 | nilB j xs ys hb hr _ ih =>
  refine ih (h.setB hb trivial fun ρ hB => ?_)
  simp only [RepB] at hB ⊢
  obtain ⟨h1, c, T, h2, h3⟩ := hB
  exact ⟨h1, c, T, h2, nil_row hr h3.1, h3.2⟩
 | nilW j sz xs ys hb hr _ ih =>
  refine ih (h.setB hb trivial fun ρ hB => ?_)
  simp only [RepB] at hB ⊢
  obtain ⟨h0, h1, c, T, h2, h3, h4, h5⟩ := hB
  refine ⟨h0, h1, c, T, h2, h3, by rw [hr.1]; exact h4, fun i e he => ?_⟩
  have hil : i < xs.length := by rw [← hr.1]; exact (yE.1 he).1
  have hx : xs[i]? = some xs[i] := vB hil
  have hrow := hr.2 i _ _ hx he
  obtain ⟨h6, h7⟩ := h5 i _ hx
  refine ⟨hrow.1.trans h6, fun f y hy => ?_⟩
  have hfl : f < xs[i].length := by rw [← hrow.1]; exact (yE.1 hy).1
  have hxf : xs[i][f]? = some xs[i][f] := vB hfl
  obtain ⟨u, h8, h9⟩ := h7 f _ hxf
  exact ⟨u, h8, nil_cell (hrow.2 f _ _ hxf hy) h9⟩
 | opn j sz els hb hn _ ih =>
  refine ih (h.setB hb trivial fun ρ hB => ?_)
  simp only [RepB] at hB ⊢
  obtain ⟨h0, ⟨_, h1⟩ | ⟨h1, c, T, h2, h3, h4, h5⟩⟩ := hB
  ·exact absurd h1 hn
  refine ⟨h0, h1, c, T, h2, h3, h4, fun i e he => ?_⟩
  obtain ⟨q1, q2⟩ := RepEls_get h5 he
  refine ⟨q1, fun f x hx => ?_⟩
  obtain ⟨u, q3, q4⟩ := RepCs_get q2 hx
  exact ⟨u, by simpa [World.cell?, h2] using q3, RepV_of_D q4⟩
 | cls j sz els hb hd _ ih =>
  refine ih (h.setB hb trivial fun ρ hB => ?_)
  simp only [RepB] at hB ⊢
  obtain ⟨h0, h1, c, T, h2, h3, h4, h5⟩ := hB
  refine ⟨h0, .inr ⟨h1, c, T, h2, h3, h4, RepEls_mk fun i e he => ?_⟩⟩
  obtain ⟨q1, q2⟩ := h5 i e he
  refine ⟨q1, RepCs_mk fun f x hx => ?_⟩
  obtain ⟨u, q3, q4⟩ := q2 f x hx
  exact ⟨u, by simpa [World.cell?, h2] using q3, RepD_of_V (yH.1 (hd e (yM he)) x (yM hx)) q4⟩
 | shr j sz n els hb _ ih =>
  refine ih (h.setB hb trivial fun ρ hB => ?_)
  simp only [RepB] at hB ⊢
  obtain ⟨h0, ⟨h1, h2⟩ | ⟨h1, c, T, h2, h3, h4, h5⟩⟩ := hB
  ·exact ⟨h0, .inl ⟨h1, by rw [h2]; simp⟩⟩
  ·refine ⟨h0, .inr ⟨h1, c, T, h2, h3, Nat.le_trans (Nat.add_le_add_left (Nat.mul_le_mul_right _ (by rw [List.length_take]; omega)) _) h4, ?_⟩⟩
   have := RepEls_view (i := 0) (n := n) h5
   simpa using this
theorem Good.leG {s p : St} {a : Act} {w : World} (h : Good ρ0 X w0 fx N s a w) (hl : leG fx s p) : Good ρ0 X w0 fx N p a w := by
 obtain ⟨s', h1, h2⟩ := hl
 exact (h.ghost h1).le h2
theorem frzP_good {a : Act} {w : World} {K : St → Prop} : ∀ (xs : List Nat) (s : St), frzP fx xs s K → Good ρ0 X w0 fx N s a w → ∃ s', K s' ∧ Good ρ0 X w0 fx N s' a w
 | [], s, h, hg => ⟨s, h, hg⟩
 | x :: r, s, h, hg => by
  simp only [frzP] at h
  split at h
  ·rename_i k i n hx
   unfold frz1 at h
   split at h
   ·rename_i sz els hb
    obtain ⟨hk, h⟩ := h
    have hb' : s.h[k]? = some (.arr sz els) := by
     unfold blk at hb
     rw [List.getD_eq_getElem?_getD] at hb
     cases hk : s.h[k]? with
     | none => simp [hk] at hb
     | some B => rw [hk] at hb; simpa using hb
    refine frzP_good r _ h ?_
    obtain ⟨ρ, ⟨⟨g1, g2⟩, g3⟩, ⟨g4, g5⟩, g6⟩ := hg
    have hne : ∀ j ∈ fx, j ≠ k := fun j hj e => hk (e ▸ hj)
    exact ⟨lessLoc ρ k, ⟨⟨g1.trans less_fr, fun j hj => by rw [less_ne (hne j hj)]; exact g2 j hj⟩, keepP_mk fun j hj => live_frz (keepP_get g3 j hj) (hne j hj)⟩,
     ⟨frzRep g4 hb', fun i => by rw [get_frzE]; exact frz_rep g4 hb' _ _ (g5 i)⟩, g6.1, g6.2.fr less_fr⟩
   ·exact frzP_good r s h hg
  ·exact frzP_good r s h hg
theorem brV_inv {c : V} {A B : Prop} (h : brV c A B) : ∃ t, c = .v (.bool t) ∧ (t = true → A) ∧ (t = false → B) := by
 unfold brV at h
 split at h
 ·exact ⟨_, rfl, h⟩
 ·exact h.elim
end
end Go.Fx
namespace Go.Fx
open Go.RowKit
def FR (r : Option Nat) : Fence := { Fence.wide with round := r }
section
variable {P : Program} {r : Option Nat}
theorem callsFR {n : Nat} {f : FuncId} {args : Array Value} {w : World} {R : Ending → World → Prop} (h : Calls P f args w R) : CallsIn (FR r) n P f args w R := (callsIn_wide (n := n)).2 h
theorem rowsFR {n : Nat} {row : String} {args : Array Value} {w : World} {R : Value → World → Prop} (h : Rows P row args w R) : RowsIn (FR r) n P row args w R :=
 fun c cs _ => let ⟨v, w', hr, hs⟩ := h c cs; ⟨v, w', hr, stepsIn_wide.2 hs⟩
theorem operIn {o : Oper} (hd : r = none ∨ notDefer o = true) {Q : Exit → Act → World → Prop} {a : Act} {w : World} {next : Act → World → Prop} (h : o.wp P a w next Q) : o.wpIn (FR r) 0 P a w next Q := by
 refine ⟨fun _ _ => trivial, ?_⟩
 have hs : o.semAt (FR r).round a.eval = execOp a.eval o := by
  rcases hd with rfl | hd
  ·rfl
  ·exact Oper.semAt_eq _ _ _ fun c hc => by simp [notDefer, hc] at hd
 rw [hs]
 unfold Oper.wp at h
 generalize (execOp a.eval o).run P w = res at h ⊢
 unfold Oper.upon at h
 split at h
 ·exact h
 ·exact h
 ·exact h
 ·refine ⟨fun h => (by cases h), callsFR (h.mono ?_)⟩
  rintro e w' he
  cases e <;> exact he
 ·exact ⟨fun h => (by cases h), rowsFR h⟩
 ·exact h
 ·exact h.elim
theorem opIn {ops : Array Oper} (hd : r = none ∨ ∀ (i : Nat) (o : Oper), ops[i]? = some o → notDefer o = true) {Q : Exit → Act → World → Prop} (hQ : ¬ LetsOut Q) {i : Nat} {K : Act → World → Prop} {a : Act} {w : World} (h : wpOp P ops Q i K a w) :
  wpOpIn (FR r) 0 P ops Q i K a w := by
 unfold wpOp at h
 unfold wpOpIn
 split at h
 ·rename_i ho; simp only [ho]; exact h
 ·rename_i o ho
  simp only [ho]
  split at h
  ·rename_i hw
   rw [if_pos hw]
   rcases h with h | h
   ·exact operIn (hd.imp id fun h => h i o ho) h
   ·exact absurd h.2 hQ
  ·rename_i hw
   rw [if_neg hw]
   exact ⟨fun _ _ => trivial, h⟩
theorem anyIn {ops : Array Oper} (hd : r = none ∨ ∀ (i : Nat) (o : Oper), ops[i]? = some o → notDefer o = true) {Q : Exit → Act → World → Prop} (hQ : ¬ LetsOut Q) {md : Region.Mode} :
  ∀ (fuel : Nat) (listed : Array Bool) (a : Act) (w : World), wpAny P md ops Q fuel listed a w → wpAnyIn (FR r) 0 P md ops Q fuel listed a w
 | 0, _, _, _, h => h
 | fuel + 1, _, _, _, h => ⟨h.1, fun i hi => wpOpIn_mono (fun a w => anyIn hd hQ fuel _ a w) (opIn hd hQ (h.2 i hi))⟩
theorem listIn {ops : Array Oper} {Q : Exit → Act → World → Prop} (hQ : ¬ LetsOut Q) : ∀ (os : List Oper), (r = none ∨ ∀ o ∈ os, notDefer o = true) → ∀ (a : Act) (w : World), wpList P ops Q os a w → wpListIn (FR r) 0 P ops Q os a w
 | [], _, _, _, h => h
 | o :: os, hd, a, w, h => by
  unfold wpList at h
  unfold wpListIn
  have hd' : r = none ∨ ∀ o ∈ os, notDefer o = true := hd.imp id fun h o ho => h o (yC _ ho)
  split at h
  ·rename_i hw
   rw [if_pos hw]
   rcases h with h | h
   ·exact Oper.wpIn_mono (fun a w => listIn hQ os hd' a w) (operIn (hd.imp id fun h => h o yF) h)
   ·exact absurd h.2 hQ
  ·rename_i hw
   rw [if_neg hw]
   exact ⟨fun _ _ => trivial, listIn hQ os hd' _ _ h⟩
theorem anyIn_of_seq {ops : Array Oper} {Q : Exit → Act → World → Prop} {md : Region.Mode} : ∀ (l : List Oper) (k : Nat) (listed : Array Bool) (a : Act) (w : World), (∀ j, l[j]? = ops[k + j]?) →
  Region.seqB md ops l.length k listed = true → wpListIn (FR r) 0 P ops Q l a w → wpAnyIn (FR r) 0 P md ops Q l.length listed a w
 | [], _, _, _, _, _, hB, h => ⟨by simpa [Region.seqB] using hB, h⟩
 | o :: l, k, listed, a, w, hl, hB, h => by
  have h0 : ops[k]? = some o := by simpa using (hl 0).symm
  simp only [List.length_cons, Region.seqB, yB, decide_eq_true_eq] at hB
  refine ⟨fun h1 => (by rw [hB.1] at h1; cases h1), fun i hi => ?_⟩
  rw [hB.1] at hi
  obtain rfl : i = k := by simpa using hi
  have hw : wpOpIn (FR r) 0 P ops Q i (wpListIn (FR r) 0 P ops Q l) a w := by unfold wpOpIn; simp only [h0]; exact h
  exact wpOpIn_mono (fun a' w' h' => anyIn_of_seq l (i + 1) _ a' w' (fun j => by have := hl (j + 1); simpa [Nat.add_assoc, Nat.add_comm 1 j] using this) hB.2 h') hw
theorem anyIn_of_head {ops : Array Oper} {Q : Exit → Act → World → Prop} (hQ : ¬ LetsOut Q) {md : Region.Mode} {w : World} {n g : Nat} {L : Array Bool → Act → Prop} (hL : ∀ listed a, L listed a → wpAnyIn (FR none) 0 P md ops Q g listed a w) :
  ∀ (f : Nat) (listed : Array Bool) (a : Act), wpAnyL P md ops w n L f listed a → wpAnyIn (FR none) 0 P md ops Q (f + g) listed a w
 | 0, listed, a, h => by rw [Nat.zero_add]; exact hL _ _ h
 | f + 1, listed, a, h => by
  rw [show f + 1 + g = (f + g) + 1 by omega]
  exact ⟨fun h0 => absurd h0 h.1, fun i hi => opIn (.inl rfl) hQ (wpOp_of_stOp (fun a' h' => anyIn_of_head hQ hL f _ a' h') (h.2 i hi).2)⟩
end
end Go.Fx
namespace Go.Fx
open Go.RowKit
section
variable {P : Program} {X : Nat → Prop} {ρ : Nat → Loc} {w w' : World}
theorem rep_dead {h : List Blk} (hr : Rep ρ X w h) : Rep ρ X w (h ++ [.dead]) := by
 refine ⟨hr.inj, fun k hk => hr.out k (by simp at hk; omega), fun k B hB => ?_, hr.disj, hr.lt, hr.xlt⟩
 rcases yO k h.length with hlt | hge
 ·rw [yK hlt] at hB
  exact hr.blk k B hB
 ·rw [vA hge] at hB
  have : B = .dead := by
   cases hk : k - h.length with
   | zero => rw [hk] at hB; simpa using hB.symm
   | succ m => rw [hk] at hB; simp at hB
  subst this
  exact hr.out k hge
theorem set_last (h : List Blk) (A B : Blk) : (h ++ [A]).set h.length B = h ++ [B] := by
 rw [List.set_append_right _ _ (yD _)]; simp
theorem get_last (h : List Blk) (A : Blk) : (h ++ [A])[h.length]? = some A := by simp
theorem new_rec {h : List Blk} (hr : Rep ρ X w h) {lp : Loop} (hm : Made w w' (.loop { lp with state := .ready, pending := none })) {e : Env} (he : RepE ρ X w e lp.tmps) :
  ∃ ρ', Fr ρ w ρ' w' ∧ (∀ j, j ≠ h.length → ρ' j = ρ j) ∧ (∀ j, (ρ j).real = true → ρ' j = ρ j) ∧ Rep ρ' X w' (h ++ [.rcd .ready e]) ∧ ρ' h.length = ⟨true, w.heap.size, 0, 0, 0, lp⟩ := by
 have hkr : (ρ h.length).real = false := hr.out _ (yD _)
 have hf : Fr ρ w (upd ρ h.length ⟨true, w.heap.size, 0, 0, 0, lp⟩) w' := new_fr hm (k := h.length) rfl
 have hag := new_ag hkr ⟨true, w.heap.size, 0, 0, 0, lp⟩
 refine ⟨_, hf, fun j hj => upd_other _ _ hj, hag, ?_, upd_same _ _ _⟩
 have := new_rep (rep_dead hr) hm (get_last h .dead) (l := ⟨true, w.heap.size, 0, 0, 0, lp⟩) rfl (B := .rcd .ready e) (by
  simp only [RepB, upd_same]
  exact ⟨⟨⟨rfl, rfl, rfl⟩, hm.new⟩, RepE_mono hf hag he⟩)
 rwa [set_last] at this
theorem new_ghost {h : List Blk} (hr : Rep ρ X w h) {e : Env} {t : Array Value} (he : RepE ρ X w e t) :
  ∃ ρ', Fr ρ w ρ' w ∧ Fr ρ' w ρ w ∧ (∀ j, j ≠ h.length → ρ' j = ρ j) ∧ (∀ j, (ρ j).real = true → ρ' j = ρ j) ∧ Rep ρ' X w (h ++ [.rcd .ghost e]) ∧ (ρ' h.length).lp.tmps = t := by
 have hkr : (ρ h.length).real = false := hr.out _ (yD _)
 let L : Loc := { ρ h.length with real := false, lp := { (default : Loop) with tmps := t } }
 have hag : ∀ j, (ρ j).real = true → upd ρ h.length L j = ρ j := new_ag hkr L
 have hre : ∀ j, (upd ρ h.length L j).real = true → (ρ j).real = true ∧ upd ρ h.length L j = ρ j := by
  intro j hj
  by_cases hjn : j = h.length
  ·subst hjn; rw [upd_same] at hj; cases hj
  ·rw [upd_other _ _ hjn] at hj ⊢; exact ⟨hj, rfl⟩
 have hown : ∀ b, Own (upd ρ h.length L) b ↔ Own ρ b := by
  intro b
  constructor
  ·rintro ⟨j, h1, h2⟩
   have := hre j h1
   rw [this.2] at h2
   exact ⟨j, this.1, h2⟩
  ·rintro ⟨j, h1, h2⟩
   exact ⟨j, by rw [hag j h1]; exact h1, by rw [hag j h1]; exact h2⟩
 have hf : Fr ρ w (upd ρ h.length L) w := ⟨rfl, rfl, rfl, yD _, fun b _ ho => ⟨rfl, fun h => ho ((hown b).1 h)⟩⟩
 have hf' : Fr (upd ρ h.length L) w ρ w := ⟨rfl, rfl, rfl, yD _, fun b _ ho => ⟨rfl, fun h => ho ((hown b).2 h)⟩⟩
 refine ⟨upd ρ h.length L, hf, hf', fun j hj => upd_other _ _ hj, hag, ⟨?_, ?_, ?_, fun b ho => hr.disj b ((hown b).1 ho), ?_, hr.xlt⟩, by rw [upd_same]⟩
 ·intro i j hij hi hj
  have h1 := hre i hi
  have h2 := hre j hj
  rw [h1.2, h2.2]
  exact hr.inj i j hij h1.1 h2.1
 ·intro k hk
  have : k ≠ h.length := by simp at hk; omega
  rw [upd_other _ _ this]
  exact hr.out k (by simp at hk; omega)
 ·intro k B hB
  rcases yO k h.length with hlt | hge
  ·rw [yK hlt] at hB
   exact RepB_ext hf hag (upd_other _ _ (by omega)) (hr.blk k B hB)
  ·have hk : k = h.length := by
    have := (yE.1 hB).1
    simp at this; omega
   subst hk
   rw [get_last] at hB
   simp only [yA] at hB
   subst hB
   simp only [RepB, upd_same]
   exact ⟨rfl, RepE_mono hf hag he⟩
 ·intro k hk
  have := hre k hk
  rw [this.2]
  exact hr.lt k this.1
theorem putObj_fr {k : Nat} (hk : (ρ k).real = true) (o : Obj) : Fr ρ w ρ (w.putObj (ρ k).blk o) := turn_fr hk o rfl rfl rfl rfl
theorem rec_turn {h : List Blk} (hr : Rep ρ X w h) {k : Nat} {t t' : RS} {e : Env} (hb : h[k]? = some (.rcd t e)) (hk : (ρ k).real = true) {o : Obj} (ho : recOk (w.putObj (ρ k).blk o) (ρ k) t') :
  Rep ρ X (w.putObj (ρ k).blk o) (h.set k (.rcd t' e)) := by
 have hB := hr.blk k _ hb
 simp only [RepB] at hB
 refine turn_rep hr hk (o := o) (putObj_fr hk o) rfl ?_
 simp only [RepB]
 exact ⟨ho, RepE_mono (putObj_fr hk o) (fun _ _ => rfl) hB.2⟩
theorem putObj_same {k : Nat} (hk : (ρ k).real = true) {h : List Blk} (hr : Rep ρ X w h) (o : Obj) : (w.putObj (ρ k).blk o).heap[(ρ k).blk]? = some o := World.putObj_heap_same (hr.lt k hk)
theorem enter_ok {h : List Blk} (hr : Rep ρ X w h) {w0 : World} (h0 : w0.heap.size ≤ w.heap.size) {ds : List Deferred} (hM : Marks ρ w0 w ds) (r : Option Nat) (hrd : ∀ l0, r = some l0 → ∃ r0, w.heap[l0]? = some (.loop r0))
  (fn : FuncId) (tmps : Array Value) (ps : Array Tmp) (asg body : Code) {e : Env} (he : RepE ρ X w e tmps) :
  ∃ (l : Nat) (mark : List Deferred) (w1 : World) (lp : Loop) (ρ' : Nat → Loc), (Instr.enterLoop fn tmps ps asg body r).run P w = .ok (l, mark) w1 ∧
   (lp.fn = fn ∧ lp.tmps = tmps ∧ lp.params = ps ∧ lp.assign = asg ∧ lp.body = body) ∧ Fr ρ w ρ' w1 ∧ (∀ j, j ≠ h.length → ρ' j = ρ j) ∧ (∀ j, (ρ j).real = true → ρ' j = ρ j) ∧ Rep ρ' X w1 (h ++ [.rcd .ready e]) ∧
   ρ' h.length = ⟨true, l, 0, 0, 0, lp⟩ ∧ Marks ρ' w0 w1 (mark ++ ds) := by
 cases r with
 | none =>
  have hm1 : Made w (w.alloc (.deferred (some []))) (.deferred (some [])) := Made.alloc _ _
  have hf1 : Fr ρ w ρ (w.alloc (.deferred (some []))) := ⟨rfl, rfl, rfl, by rw [hm1.size]; omega, fun b hb ho => ⟨hm1.old hb, ho⟩⟩
  have hr1 : Rep ρ X (w.alloc (.deferred (some []))) h :=
   ⟨hr.inj, hr.out, fun k B hB => RepB_mono hf1 (fun _ _ => rfl) rfl (fun hk => hm1.old (hr.lt k hk)) (hr.blk k B hB), hr.disj, fun k hk => yP (hr.lt k hk) hf1.size, fun b hb => yP (hr.xlt b hb) hf1.size⟩
  let lp : Loop := { state := .ready, pending := none, fn, tmps, params := ps, assign := asg, body, defers := w.heap.size }
  obtain ⟨ρ', g1, g2, g3, g4, g5⟩ := new_rec hr1 (lp := lp) (Made.alloc _ _) (RepE_mono hf1 (fun _ _ => rfl) he)
  refine ⟨_, _, _, lp, ρ', run_enterLoop_outer fn tmps ps asg body, ⟨rfl, rfl, rfl, rfl, rfl⟩, hf1.trans g1, g2, g3, g4, by rw [g5, hm1.size], ?_⟩
  obtain ⟨Ds, ⟨h1, h2⟩, h3⟩ := hM.fr (hf1.trans g1)
  refine ⟨w.heap.size :: Ds, ⟨by rw [h1]; rfl, yU.2 ⟨fun hD => ?_, h2⟩⟩, fun D hD => ?_⟩
  ·obtain ⟨Ds', ⟨h1', _⟩, h3'⟩ := hM
   have : Ds = Ds' := by
    have hinj : ∀ (xs ys : List Nat), xs.map markOf = ys.map markOf → xs = ys := by
     intro xs
     induction xs with
     | nil => intro ys h; cases ys with | nil => rfl | cons _ _ => simp at h
     | cons x xs ih =>
      intro ys h
      cases ys with
      | nil => simp at h
      | cons y ys =>
       simp only [yV, yQ, markOf, Deferred.mk.injEq, Target.collected.injEq, and_true] at h
       rw [h.1, ih ys h.2]
    exact hinj _ _ (h1.symm.trans h1')
   subst this
   have := (h3' _ hD).1.2
   omega
  ·rcases yL.1 hD with rfl | hD
   ·refine ⟨⟨h0, yP (by rw [hm1.size]; omega) g1.size⟩, ?_, ?_⟩
    ·rintro ⟨j, hj1, hj2⟩
     by_cases hjn : j = h.length
     ·subst hjn; rw [g5] at hj2; simp only [hm1.size] at hj2; omega
     ·rw [g2 j hjn] at hj1 hj2
      have := hr.lt j hj1
      omega
    ·rw [(Made.alloc (w.alloc (.deferred (some []))) _).old (by rw [hm1.size]; omega)]
     exact hm1.new
   ·exact h3 D hD
 | some l0 =>
  obtain ⟨r0, hr0⟩ := hrd l0 rfl
  let lp : Loop := { state := .ready, pending := none, fn, tmps, params := ps, assign := asg, body, defers := r0.defers }
  obtain ⟨ρ', g1, g2, g3, g4, g5⟩ := new_rec hr (lp := lp) (Made.alloc _ _) he
  exact ⟨_, _, _, lp, ρ', run_enterLoop_inner hr0 fn tmps ps asg body, ⟨rfl, rfl, rfl, rfl, rfl⟩, g1, g2, g3, g4, g5, hM.fr g1⟩
end
end Go.Fx
namespace Go.Fx
open Go.RowKit
section
variable {P : Program} {ρ0 : Nat → Loc} {X : Nat → Prop} {w0 : World} {N : Nat}
theorem rlOsY_cons {ops : Array Oper} {N : Nat} {o : Oper} {os : List Oper} {ls0 : List LOper} {l : LOper} {ls : List LOper} (h : rlOsY P ops N (o :: os) ls0 = some (l :: ls)) :
  ∃ l0 r0 op g, ls0 = l0 :: r0 ∧ rlY P o.op l0.op = some op ∧ gOk ops N o.guard = some g ∧ (∀ d, o.dst = some d → d < N) ∧ l = ⟨o.dst, op, g⟩ ∧ rlOsY P ops N os r0 = some ls := by
 cases ls0 with
 | nil => simp [rlOsY] at h
 | cons l0 r0 =>
  simp only [rlOsY] at h
  split at h
  ·rename_i op g r h1 h2 h3 h4
   simp only [yA, yQ] at h
   obtain ⟨rfl, rfl⟩ := h
   refine ⟨l0, r0, op, g, rfl, h1, h2, fun d hd => ?_, rfl, h4⟩
   simpa [dOk, hd] using h3
  ·cases h
theorem rlOsY_nil {ops : Array Oper} {N : Nat} {os : List Oper} {ls0 : List LOper} (h : rlOsY P ops N os ls0 = some []) : os = [] := by
 cases os with
 | nil => rfl
 | cons o os =>
  cases ls0 with
  | nil => simp [rlOsY] at h
  | cons l0 r0 =>
   simp only [rlOsY] at h
   split at h <;> simp at h
theorem rlY_cases {op : Op} {l0 l : LOp} (h : rlY P op l0 = some l) : (∃ f c, l = .yld f c.args.toList ∧ op = .call c ∧ c.callee = .value f) ∨ (rl P op l0 = some l ∧ ∀ f xs, l ≠ .yld f xs) := by
 unfold rlY at h
 split at h
 ·split at h
  ·rename_i c
   split at h
   ·rename_i f hf
    simp only [yA] at h
    exact .inl ⟨f, c, h.symm, rfl, hf⟩
   ·cases h
  ·cases h
 ·split at h
  ·cases h
  ·rename_i hn
   exact .inr ⟨h, fun f xs e => hn f xs (by rw [h, e])⟩
theorem yield_in {cx : Cx} {o : Oper} {c : Call} {f : Operand} (hop : o.op = .call c) (hcal : c.callee = .value f) {a : Act} {s : St} {ρ : Nat → Loc} {w : World} {K : V → St → Prop} {Q : Exit → Act → World → Prop}
  (hf : Fr ρ0 w0 ρ w ∧ ∀ j ∈ cx.fx, ρ j = ρ0 j) (hk : keepP cx.fx s.h) (hr : Rep ρ X w s.h) (he : RepE ρ X w s.e a.tmps) (hy : ∀ k, YOk P ρ0 X w0 cx.fx k (cx.y k)) (h : yieldP cx f c.args.toList s K) :
  o.wpIn (FR none) 0 P a w (fun a' w' => ∃ val, a' = a.put o.dst val ∧ Sound cx.fx [] ρ X w a.tmps K val w') Q := by
 unfold yieldP at h
 split at h
 ·rename_i k hev
  have hv := ev_rep he f
  rw [hev] at hv
  obtain ⟨_, hv⟩ := hv
  obtain ⟨fn, tm, asg, body, hy1, hy2⟩ := hy k ρ w s a.tmps _ _ K hf hk hr he (map_ev_rep he c.args.toList) h
  refine ⟨fun _ _ => trivial, ?_⟩
  show o.uponIn (FR none) 0 P a _ Q ((execOp a.eval o).run P w)
  have ha : (c.args.map a.eval) = (c.args.toList.map a.eval).toArray := by apply Array.ext'; simp
  have hrun : (execOp a.eval o).run P w = .ok (.round (ρ k).blk fn tm asg body) w := by
   unfold execOp
   simp only [hop, resolve, hcal, ha, hv, Deferred.ofValue, Sem.run_bind, Sem.run_pure, Result.andThen_ok, invoke, Array.empty_append, Array.append_empty]
   exact hy1
  rw [hrun, Oper.uponIn_round]
  refine ⟨fun h => (by cases h), hy2.mono ?_⟩
  rintro e w' ⟨val, rfl, hs⟩
  exact ⟨val, rfl, hs⟩
 ·exact h.elim
theorem aOpsY_sound {cx : Cx} (hcx : cx.ok P) (hy : ∀ k, YOk P ρ0 X w0 cx.fx k (cx.y k)) {ops : Array Oper} {Q : Exit → Act → World → Prop} {K : St → Prop} (hQ : ∀ s a w, K s → Good ρ0 X w0 cx.fx N s a w → Q .normal a w) :
  ∀ (os : List Oper) (ls0 ls : List LOper) (s : St) (a : Act) (w : World), rlOsY P ops N os ls0 = some ls → Good ρ0 X w0 cx.fx N s a w → aOpsY cx ls s K → wpListIn (FR none) 0 P ops Q os a w
 | os, ls0, [], s, a, w, hm, hg, h => by
  have := rlOsY_nil hm
  subst this
  exact hQ s a w h hg
 | [], ls0, l :: ls, s, a, w, hm, hg, h => by
  cases ls0 <;> simp [rlOsY] at hm
 | o :: os, ls0, l :: ls, s, a, w, hm, hg, h => by
  obtain ⟨l0, r0, op, g, rfl, h1, h2, hd, rfl, h4⟩ := rlOsY_cons hm
  obtain ⟨ρ, hpre, ⟨hr, he⟩, hN, hdf⟩ := hg
  simp only [aOpsY] at h
  unfold wpListIn
  have key : ∀ (A : St → (V → St → Prop) → Prop) (K' : St → Prop), (∀ s' a' w', K' s' → Good ρ0 X w0 cx.fx N s' a' w' → wpListIn (FR none) 0 P ops Q os a' w') →
    (∀ e', RepE ρ X w e' a.tmps → A { s with e := e' } (fun x s' => K' (s'.put o.dst x)) →
     o.wpIn (FR none) 0 P a w (fun a' w' => ∃ val, a' = a.put o.dst val ∧ Sound cx.fx [] ρ X w a.tmps (fun x s' => K' (s'.put o.dst x)) val w') Q) → gP g o.dst A s K' →
    if Region.wanted o (yielded ops a.tmps) then o.wpIn (FR none) 0 P a w (wpListIn (FR none) 0 P ops Q os) Q
     else (∀ f, o.about P w a.eval = some f → (FR none).fn f) ∧ wpListIn (FR none) 0 P ops Q os (a.put o.dst undef) w := by
   intro A K' hK' hA h
   rcases guard_casesG hN h2 he h with ⟨hw, e', _, he', h'⟩ | ⟨hw, e', _, he', h'⟩
   ·rw [if_pos hw]
    refine Oper.wpIn_mono ?_ (hA e' he' h')
    rintro a' w' ⟨val, rfl, hs⟩
    obtain ⟨x, s', hK, hgood⟩ := Good.sound (s := s) hpre ⟨hN, hdf⟩ hd hs
    exact hK' _ _ _ hK hgood
   ·rw [if_neg (by rw [hw]; exact Bool.false_ne_true)]
    have hh : (St.put { s with e := e' } o.dst (.v (.tuple #[]))).h = s.h := by cases o.dst <;> rfl
    refine ⟨fun _ _ => trivial, hK' _ _ _ h' ⟨ρ, ⟨hpre.1, by rw [hh]; exact hpre.2⟩, ⟨by rw [hh]; exact hr, ?_⟩, by rw [size_put]; exact hN, by rw [defers_put]; exact hdf⟩⟩
    exact RepE_put (e := e') (x := .v (.tuple #[])) (val := undef) he' rfl (fun n hn => by rw [hN]; exact hd n hn) _ rfl
  have hrest : ∀ s' a' w', aOpsY cx ls s' K → Good ρ0 X w0 cx.fx N s' a' w' → wpListIn (FR none) 0 P ops Q os a' w' := fun s' a' w' hK hg' => aOpsY_sound hcx hy hQ os r0 ls s' a' w' h4 hg' hK
  by_cases hyl : ∃ f xs, op = .yld f xs
  ·obtain ⟨f, xs, rfl⟩ := hyl
   rcases rlY_cases h1 with ⟨f', c, hl, hop, hcal⟩ | h1
   ·simp only [LOp.yld.injEq] at hl
    obtain ⟨rfl, rfl⟩ := hl
    refine key (yieldP cx f c.args.toList) _ hrest (fun e' he' h' => ?_) h
    exact yield_in hop hcal (s := { s with e := e' }) hpre.1 hpre.2 hr he' hy h'
   ·exact absurd rfl (h1.2 f xs)
  ·have h1' : rl P o.op l0.op = some op := by
    rcases rlY_cases h1 with ⟨f', c, hl, _, _⟩ | h1
    ·exact absurd ⟨f', _, hl⟩ hyl
    ·exact h1.1
   refine key (aOp cx op) _ hrest (fun e' he' h' => ?_) ?_
   ·refine operIn (.inl rfl) (Oper.wp_mono ?_ (aOp_sound hcx h1' (s := { s with e := e' }) hr he' hpre.2 h'))
    rintro a' w' ⟨val, rfl, x, s', ρ', g1, ⟨g2, g3, _⟩, g4⟩
    exact ⟨val, rfl, x, s', ρ', g1, ⟨g2, g3, fun _ h => by simp at h⟩, g4⟩
   ·have : aOperY cx ⟨o.dst, op, g⟩ s (fun s' => aOpsY cx ls s' K) = aOper cx ⟨o.dst, op, g⟩ s (fun s' => aOpsY cx ls s' K) := by
     unfold aOperY
     split
     ·rename_i f xs hop
      exact absurd ⟨f, xs, hop⟩ hyl
     ·rfl
    rw [this] at h
    cases g <;> exact h
end
end Go.Fx
namespace Go.Fx
open Go.RowKit
section
variable {P : Program}
def ROk (r : Option Nat) (cx : Cx) (ρ0 : Nat → Loc) : Prop :=
 match r, cx.rk with
 | none, none => True
 | some l, some k => k ∈ cx.fx ∧ (ρ0 k).blk = l
 | _, _ => False
theorem rcdK_inv {h : List Blk} {k : Nat} {K : RS → Env → Prop} (hk : rcdK h k K) : ∃ t e, h[k]? = some (.rcd t e) ∧ K t e := by
 unfold rcdK at hk
 split at hk
 ·exact ⟨_, _, by assumption, hk⟩
 ·exact hk.elim
theorem setPs_get : ∀ (ps : List Nat) (xs : List V) (vs : List Value) (e : Env) (t : Array Value) {ρ : Nat → Loc} {X : Nat → Prop} {w : World}, (∀ p ∈ ps, p < t.size) → xs.length = ps.length → RepL ρ X w xs vs → RepE ρ X w e t →
  RepE ρ X w (setPs ps xs e) ((ps.zip vs).foldl (fun t (p, v) => t.setIfInBounds p v) t)
 | [], [], [], _, _, _, _, _, _, _, _, he => he
 | p :: ps, x :: xs, v :: vs, e, t, ρ, X, w, hp, hl, hx, he => by
  simp only [setPs, List.zip_cons_cons, List.foldl_cons]
  refine setPs_get ps xs vs _ _ (fun q hq => by simpa using hp q (yC _ hq)) (by simpa using hl) hx.2 ?_
  intro i
  rw [get_put]
  split
  ·rename_i hi
   subst hi
   have := hp i yF
   rw [yS, Array.getElem?_setIfInBounds_self_of_lt this]
   exact hx.1
  ·rename_i hi
   rw [yS, Array.getElem?_setIfInBounds_ne (Ne.symm hi), ← yS]
   exact he i
 | [], _ :: _, _, _, _, _, _, _, _, hl, _, _ => by simp at hl
 | _ :: _, [], _, _, _, _, _, _, _, hl, _, _ => by simp at hl
 | _ :: _, _ :: _, [], _, _, _, _, _, _, _, hx, _ => hx.elim
 | [], [], _ :: _, _, _, _, _, _, _, _, hx, _ => hx.elim
theorem foldl_size : ∀ (l : List (Nat × Value)) (t : Array Value), (l.foldl (fun t (p, v) => t.setIfInBounds p v) t).size = t.size
 | [], _ => rfl
 | (p, v) :: l, t => by rw [List.foldl_cons, foldl_size l]; simp
theorem LetsOut_then {Q : Exit → Act → World → Prop} {K : Act → World → Prop} (h : ¬ LetsOut Q) : ¬ LetsOut (Exit.then K Q) := fun ⟨a, w, hq⟩ => h ⟨a, w, hq⟩
end
end Go.Fx
namespace Go.Fx
open Go.RowKit
section
variable {P : Program} {ρ0 : Nat → Loc} {X : Nat → Prop} {w0 : World} {N : Nat} {r : Option Nat}
theorem noDef {ops : Array Oper} (h : ops.toList.all notDefer = true) : ∀ (i : Nat) (o : Oper), ops[i]? = some o → notDefer o = true :=
 fun i o ho => yH.1 h o (by rw [Array.mem_toList_iff]; exact Array.mem_of_getElem? ho)
theorem tree_in (hP : P.follows .mixedOrders = true) {cx : Cx} (hcx : cx.ok P) {ops : Array Oper} {id : Nat} {Q : Exit → Act → World → Prop} (hQo : ¬ LetsOut Q) {K : St → Prop} (hQ : ∀ s a w, K s → Good ρ0 X w0 cx.fx N s a w → Q .normal a w)
  (hd : r = none ∨ ops.toList.all notDefer = true) {p0 p : LPlan} {s : St} {a : Act} {w : World} (hm : rlT P N ops p0 = some p) (hg : Good ρ0 X w0 cx.fx N s a w) (h : awP cx p [] K s) : (Code.region id ops true).wpIn (FR r) 0 P Q a w := by
 unfold rlT at hm
 split at hm
 ·rename_i hs
  refine wpIn_mono (Q := NoPan Q) ?_ (fun e a w he => ?_)
  ·refine wpIn_region_any hP (anyIn (Q := NoPan Q) (hd.imp (fun h => h) noDef) (fun ⟨a, w, hq⟩ => hQo ⟨a, w, hq⟩) _ _ _ _ ?_)
   obtain ⟨ρ, hG⟩ := Good.drew hg
   exact wpAny_of_G _ _ _ _ _ ((awP_sound (Q := NoPan Q) hcx rfl hs (fun _ _ _ h => h) (fun s a w hK hg => hQ s a w hK hg) p0 p _ _ _ hm [] (fun _ => False) ρ s a _ (fun b hb => hb.elim) hG h).1 rfl)
  ·cases e <;> first | exact he | exact he.elim
 ·cases hm
theorem rlOsY_split {ops : Array Oper} : ∀ (m : Nat) (os : List Oper) (ls0 ls : List LOper), rlOsY P ops N os ls0 = some ls →
  rlOsY P ops N (os.take m) (ls0.take m) = some (ls.take m) ∧ rlOsY P ops N (os.drop m) (ls0.drop m) = some (ls.drop m)
 | 0, os, ls0, ls, h => by simp [rlOsY, h]
 | m + 1, [], ls0, ls, h => by
  cases ls0 with
  | nil => simp [rlOsY] at h; subst h; simp [rlOsY]
  | cons _ _ => simp [rlOsY] at h
 | m + 1, o :: os, ls0, ls, h => by
  cases ls with
  | nil => have := rlOsY_nil h; cases this
  | cons l ls =>
   obtain ⟨l0, r0, op, g, rfl, h1, h2, hd, rfl, h4⟩ := rlOsY_cons h
   obtain ⟨h5, h6⟩ := rlOsY_split m os r0 ls h4
   refine ⟨?_, by simpa using h6⟩
   have hd' : dOk N o.dst = true := by
    cases hdst : o.dst with
    | none => rfl
    | some d => simpa [dOk, hdst] using hd d hdst
   simp [rlOsY, h1, h2, hd', h5]
theorem rlOsY_quiet {ops : Array Oper} : ∀ (os : List Oper) (ls0 ls : List LOper), rlOsY P ops N os ls0 = some ls → (∀ l ∈ ls, quietOp l.op = true) → rlOs P ops N os ls0 = some ls
 | [], ls0, ls, h, _ => by
  cases ls0 with
  | nil => simpa [rlOsY, rlOs] using h
  | cons _ _ => simp [rlOsY] at h
 | o :: os, ls0, ls, h, hq => by
  cases ls with
  | nil => have := rlOsY_nil h; cases this
  | cons l ls =>
   obtain ⟨l0, r0, op, g, rfl, h1, h2, hd, rfl, h4⟩ := rlOsY_cons h
   have h5 := rlOsY_quiet os r0 ls h4 (fun l hl => hq l (yC _ hl))
   have hd' : dOk N o.dst = true := by
    cases hdst : o.dst with
    | none => rfl
    | some d => simpa [dOk, hdst] using hd d hdst
   have h1' : rl P o.op l0.op = some op := by
    rcases rlY_cases h1 with ⟨f, c, hl, _, _⟩ | h1
    ·have := hq _ yF
     rw [hl] at this
     simp [quietOp] at this
    ·exact h1.1
   simp [rlOs, h1', h2, hd', h5]
theorem aOpsY_quiet {cx : Cx} : ∀ (l1 l2 : List LOper) (s : St) (K : St → Prop), (∀ l ∈ l1, quietOp l.op = true) → aOpsY cx (l1 ++ l2) s K = aOps cx l1 s fun s' => aOpsY cx l2 s' K
 | [], _, _, _, _ => rfl
 | o :: r, l2, s, K, hq => by
  simp only [List.cons_append, aOps, aOpsY]
  have : aOperY cx o = aOper cx o := by
   funext s K
   unfold aOperY
   split
   ·rename_i f xs hop
    have := hq o yF
    rw [hop] at this
    simp [quietOp] at this
   ·rfl
  rw [this]
  congr 1
  funext s'
  exact aOpsY_quiet r l2 s' K (fun l hl => hq l (yC _ hl))
theorem yreg_in (hP : P.follows .mixedOrders = true) {cx : Cx} (hcx : cx.ok P) (hy : ∀ k, YOk P ρ0 X w0 cx.fx k (cx.y k)) {ops : Array Oper} {id : Nat} {Q : Exit → Act → World → Prop} (hQo : ¬ LetsOut Q) {K : St → Prop}
  (hQ : ∀ s a w, K s → Good ρ0 X w0 cx.fx N s a w → Q .normal a w) {m : Nat} {ls0 ls : List LOper} {s : St} {a : Act} {w : World} (hm : rlOsY P ops N ops.toList ls0 = some ls) (hq : (ls.take m).all (fun l => quietOp l.op) = true)
  (hB : Region.lexTailB .any ops m = true) (hg : Good ρ0 X w0 cx.fx N s a w) (h : aOpsY cx ls s K) : (Code.region id ops true).wpIn (FR none) 0 P Q a w := by
 obtain ⟨ρ, hpre, ⟨hr, he⟩, hN, hdf⟩ := Good.drew hg
 obtain ⟨h1, h2⟩ := rlOsY_split m _ _ _ hm
 have hqs : ∀ l ∈ ls.take m, quietOp l.op = true := fun l hl => yH.1 hq l hl
 have hops : ops = ops.toList.toArray := by simp
 refine wpIn_region_any hP ?_
 rw [← List.take_append_drop m ls, aOpsY_quiet _ _ _ _ hqs] at h
 have hst : wpStill P ops { w with drawn := w.drawn + 1 } (fun a' => wpListIn (FR none) 0 P ops Q (ops.toList.drop m) a' { w with drawn := w.drawn + 1 }) (ops.toList.take m) a := by
  refine wpStill_of (fx := cx.fx) (cx := cx) (ρ := ρ) (K := fun s' => aOpsY cx (ls.drop m) s' K) ?_ _ _ _ s a (rlOsY_quiet _ _ _ h1 hqs) hqs hr hpre.2 he hN rfl h
  intro s' a' hK he' hN' hdf' hr' hk'
  exact aOpsY_sound hcx hy hQ _ _ _ s' a' _ h2 ⟨ρ, ⟨hpre.1, hk'⟩, ⟨hr', he'⟩, hN', by rw [hdf']; exact hdf⟩ hK
 simp only [Region.lexTailB, yB, decide_eq_true_eq] at hB
 obtain ⟨⟨⟨⟨hsel, hn⟩, hs⟩, hc⟩, hlex⟩ := hB
 have htl : (ops.toList.take m).length = m := by simp; omega
 have hdl : (ops.toList.drop m).length = ops.size - m := by simp
 have inv0 : HeadInv .any ops m (yJ ops.size false) :=
  ⟨by simp, fun j oj _ hl => (by rw [getD_replicate_false] at hl; cases hl), fun t _ ht => getD_in (by simpa using ht) (getD_replicate_false _ _)⟩
 have H := wpAnyL_lex (md := .any) (g := ops.size - m) hsel hs hc hn (ops.toList.take m) 0 _ a (fun j hj => by
  have hj' : j < m := by rw [htl] at hj; exact hj
  simp [hj']) (by simpa using htl) inv0 (by rw [htl]; exact hlex) hst
 have := anyIn_of_head (P := P) (Q := Q) hQo (g := ops.size - m) (fun listed a' hL => by
  have := anyIn_of_seq (P := P) (r := none) (md := .any) (Q := Q) (ops.toList.drop m) m listed a' { w with drawn := w.drawn + 1 } (fun j => by simp [List.getElem?_drop]) (by rw [hdl]; exact hL.1) hL.2
  rwa [hdl] at this) _ _ _ H
 rw [htl, show m + (ops.size - m) = ops.size by omega] at this
 exact this
end
end Go.Fx
namespace Go.Fx
open Go.RowKit
section
variable {P : Program} {X : Nat → Prop} {N : Nat}
def SndA (P : Program) (X : Nat → Prop) (N : Nat) (c : Code) (rd : Prop) (A : Cx → (St → Prop) → (Nat → St → Prop) → (St → Prop) → St → Prop) : Prop :=
 ∀ (r : Option Nat) (cx : Cx) (ρ0 : Nat → Loc) (w0 : World), cx.ok P → (r = none ∨ rd) → ROk r cx ρ0 → (∀ k, YOk P ρ0 X w0 cx.fx k (cx.y k)) →
  ∀ (Q : Exit → Act → World → Prop) (Nn : St → Prop) (Xx : Nat → St → Prop) (Rr : St → Prop), ¬ LetsOut Q →
   (∀ s a w, Nn s → Good ρ0 X w0 cx.fx N s a w → Q .normal a w) → (∀ j s a w, Xx j s → Good ρ0 X w0 cx.fx N s a w → Q (.exit j) a w) → (∀ s a w, Rr s → Good ρ0 X w0 cx.fx N s a w → Q .ret a w) →
   ∀ s a w, A cx Nn Xx Rr s → Good ρ0 X w0 cx.fx N s a w → c.wpIn (FR r) 0 P Q a w
def SndC (P : Program) (X : Nat → Prop) (N : Nat) (c : Code) : Prop :=
 ∀ (l0 l : LCode), rlC P N c l0 = some l → SndA P X N c (codeRd c = true ∧ inRd l = true) (fun cx => aw cx l)
theorem YOk_none {ρ0 : Nat → Loc} {w0 : World} {fx : List Nat} {k : Nat} : YOk P ρ0 X w0 fx k (fun _ _ _ => False) := fun _ _ _ _ _ _ _ _ _ _ _ _ h => h.elim
theorem Good.rcd {ρ0 : Nat → Loc} {w0 : World} {fx : List Nat} {s : St} {a : Act} {w : World} {k : Nat} {t t' : RS} {e : Env} (hg : Good ρ0 X w0 fx N s a w) (hk : k ∈ fx) (hb : s.h[k]? = some (.rcd t e)) (hreal : (ρ0 k).real = true) {o : Obj}
  (ho : recOk (w.putObj (ρ0 k).blk o) (ρ0 k) t') : Good ρ0 X w0 fx N { s with h := s.h.set k (.rcd t' e) } a (w.putObj (ρ0 k).blk o) := by
 obtain ⟨ρ, ⟨⟨hf, h1⟩, hkp⟩, ⟨hr, he⟩, h5, h5m⟩ := hg
 have hρ := h1 k hk
 rw [← hρ] at ho hreal ⊢
 have hf1 := putObj_fr (w := w) hreal o
 refine ⟨ρ, ⟨⟨hf.trans hf1, h1⟩, keepP_mono hkp (live_set (by simp))⟩, ⟨rec_turn hr hb hreal ho, RepE_mono hf1 (fun _ _ => rfl) he⟩, h5, h5m.fr hf1⟩
theorem round_okA {asg body : Code} {rda rdb : Prop} {Aa Ab : Cx → (St → Prop) → (Nat → St → Prop) → (St → Prop) → St → Prop} (ha : SndA P X N asg rda Aa) (hb : SndA P X N body rdb Ab) (hra : rda) (hrb : rdb)
  {cx : Cx} (hcx : cx.ok P) {ρ1 : Nat → Loc} {w1 : World} {n : Nat} {fx : List Nat} (hcf : cx.fx = fx) {lp : Loop} {l : Nat} (hn : ρ1 n = ⟨true, l, 0, 0, 0, lp⟩) {ps : Array Tmp} (hlp : lp.params = ps ∧ lp.assign = asg ∧ lp.body = body)
  (hps : ∀ p ∈ ps.toList, p < N) (hsz : lp.tmps.size = N) :
  YOk P ρ1 X w1 (n :: fx) n (fun xs sI K => rcdK sI.h n fun t e => t = .ready ∧ xs.length = ps.toList.length ∧
     Aa { cx with fx := sI.h.length :: n :: cx.fx, y := fun _ _ _ _ => False, rk := some n }
      (begRd n fun s1 => Ab { cx with fx := sI.h.length :: n :: cx.fx, y := fun _ _ _ _ => False, rk := some n }
       (endRd n sI.h.length sI.b K true .ready) (fun j => endRd n sI.h.length sI.b K false (.out (some j))) (endRd n sI.h.length sI.b K false (.out none)) s1)
      (fun _ _ => False) (fun _ => False) ⟨setPs ps.toList xs e, sI.h ++ [.rcd .ghost sI.e], sI.b⟩) := by
 subst hcf
 intro ρ w s tmps xs vals K hfr hkp hr he hx h
 obtain ⟨t, e, hbn, rfl, hlen, h⟩ := rcdK_inv h
 have hρn : ρ n = ⟨true, l, 0, 0, 0, lp⟩ := (hfr.2 n yF).trans hn
 have hB := hr.blk n _ hbn
 simp only [RepB, hρn] at hB
 have hl : w.heap[l]? = some (.loop { lp with state := .ready, pending := none }) := hB.1.2
 have hnl : n < s.h.length := (yE.1 hbn).1
 have hvl := RepL_len hx
 rw [hρn]
 have hy := run_yield (P := P) (args := vals.toArray) hl (by simp [hlp.1]; simpa [← hvl] using hlen)
 refine ⟨_, _, _, _, hy, ?_⟩
 simp only [hlp.2.1, hlp.2.2]
 -- what is kept of the iterator's frame
 obtain ⟨ρ2, f2, f2', o2, ag2, hr2, ht2⟩ := new_ghost hr he
 have hρ2n : ρ2 n = ⟨true, l, 0, 0, 0, lp⟩ := by rw [o2 n (by omega)]; exact hρn
 have hzip : (Array.zip lp.params vals.toArray).foldl (fun tmps (t, a) => tmps.setIfInBounds t a) lp.tmps = (ps.toList.zip vals).foldl (fun t (p, v) => t.setIfInBounds p v) lp.tmps := by
  rw [hlp.1, ← Array.foldl_toList]; simp [Array.toList_zip]
 show RoundIn Fence.wide 0 P l lp.fn ((Array.zip lp.params vals.toArray).foldl (fun tmps (t, a) => tmps.setIfInBounds t a) lp.tmps) asg body w _
 rw [hzip]
 refine roundIn_of_wpIn trivial ?_
 have hgood : Good ρ2 X w (s.h.length :: n :: cx.fx) N ⟨setPs ps.toList xs e, s.h ++ [.rcd .ghost s.e], s.b⟩ { tmps := (ps.toList.zip vals).foldl (fun t (p, v) => t.setIfInBounds p v) lp.tmps, defers := [] } w := by
  refine ⟨ρ2, ⟨⟨Fr.refl _ _, fun _ _ => rfl⟩, keepP_mk fun j hj => ?_⟩, ⟨hr2, ?_⟩, ?_, Marks.nil⟩
  ·rcases yL.1 hj with rfl | hj
   ·simp [liveP]
   ·have := keepP_get hkp j hj
    unfold liveP at this ⊢
    cases hb : s.h[j]? with
    | none => rw [hb] at this; exact this.elim
    | some B => rw [yK (yE.1 hb).1, hb]; rw [hb] at this; exact this
  ·refine setPs_get _ _ _ _ _ (fun p hp => by rw [hsz]; exact hps p hp) hlen (RepL_mono f2 ag2 _ _ hx) (RepE_mono f2 ag2 hB.2)
  ·rw [foldl_size]; exact hsz
 have hcx' : Cx.ok { cx with fx := s.h.length :: n :: cx.fx, y := fun _ _ _ _ => False, rk := some n } P := hcx
 have hro : ROk (some l) { cx with fx := s.h.length :: n :: cx.fx, y := fun _ _ _ _ => False, rk := some n } ρ2 := ⟨by simp, by rw [hρ2n]⟩
 have hgo : ∀ (b : Bool) (t' : RS) (j : Option Code) (s2 : St) (a2 : Act) (w2 : World), endRd n s.h.length s.b K b t' s2 → Good ρ2 X w (s.h.length :: n :: cx.fx) N s2 a2 w2 →
   (∀ w', w'.heap[l]? = some (.loop { lp with state := if j.isNone then .ready else .done, pending := j }) → recOk w' ⟨true, l, 0, 0, 0, lp⟩ t') → t' ≠ .ghost → b = j.isNone →
   ∃ v w', (Instr.endRound l j).run P w2 = .ok v w' ∧ ∃ val, Ending.returned v = .returned val ∧ Sound (n :: cx.fx) [] ρ X w tmps K val w' := by
  intro b t' j s2 a2 w2 hend hg2 hrec hgh hbj
  obtain ⟨t2, e2, hb2, rfl, hend⟩ := rcdK_inv hend
  obtain ⟨t3, eI, hb3, rfl, hK⟩ := rcdK_inv hend
  have hg2' := hg2
  obtain ⟨ρ3, ⟨⟨g1, g2⟩, g3⟩, ⟨g4, g5⟩, g6⟩ := hg2
  have h3n : ρ3 n = ⟨true, l, 0, 0, 0, lp⟩ := (g2 n (by simp)).trans hρ2n
  have hB2 := g4.blk n _ hb2
  simp only [RepB, h3n] at hB2
  have hl2 : w2.heap[l]? = some (.loop { lp with state := .busy, pending := none }) := hB2.1.2
  have hrun := run_endRound (P := P) j hl2
  refine ⟨_, _, hrun, _, rfl, ?_⟩
  have hput : ∀ o : Obj, (w2.putObj (ρ3 n).blk o).heap[(ρ3 n).blk]? = some o := fun o => putObj_same (by rw [h3n]) g4 o
  have hwb : (ρ3 n).blk = l := by rw [h3n]
  generalize ho : Obj.loop { ({ lp with state := .busy, pending := none } : Loop) with state := if j.isNone then .ready else .done, pending := j } = o
  have hf3 : Fr ρ3 w2 ρ3 (w2.putObj l o) := by have := putObj_fr (w := w2) (k := n) (ρ := ρ3) (by rw [h3n]) o; rwa [hwb] at this
  have hr3 : Rep ρ3 X (w2.putObj l o) (s2.h.set n (.rcd t' e2)) := by
   have := rec_turn g4 hb2 (by rw [h3n]) (o := o) (t' := t') (by
    rw [h3n]; exact hrec _ (by have := hput o; rw [hwb] at this; rw [this, ← ho]))
   rwa [hwb] at this
  have hne : s.h.length ≠ n := by omega
  have hb3' : (s2.h.set n (.rcd t' e2))[s.h.length]? = some (.rcd .ghost eI) := by rw [yG (Ne.symm hne)]; exact hb3
  have hBg := hr3.blk _ _ hb3'
  simp only [RepB] at hBg
  have h3g : ρ3 s.h.length = ρ2 s.h.length := g2 _ (by simp)
  have hdead : Rep ρ3 X (w2.putObj l o) ((s2.h.set n (.rcd t' e2)).set s.h.length .dead) := by
   refine ⟨hr3.inj, fun k hk => hr3.out k (by simpa using hk), fun k B hB => ?_, hr3.disj, hr3.lt, hr3.xlt⟩
   by_cases hkn : k = s.h.length
   ·subst hkn
    rw [yN (yE.1 hb3').1] at hB
    simp only [yA] at hB
    subst hB
    exact hBg.1
   ·rw [yG (Ne.symm hkn)] at hB
    exact hr3.blk k B hB
  subst hbj
  refine ⟨.b j.isNone, _, ρ3, hK, ⟨keepP_mk fun k hk => ?_, fun k hk => ?_, fun k hk => by simp at hk⟩, (f2.trans g1).trans hf3, hdead, ?_, rfl⟩
  ·have hlk := keepP_get g3 k (yC _ hk)
   have hkl := keepP_get hkp k hk
   have hks : k ≠ s.h.length := by
    intro e
    unfold liveP at hkl
    rw [e, yW (yD _)] at hkl
    exact hkl
   have := live_set (B := Blk.rcd t' e2) (k := n) (by simp) k hlk
   unfold liveP at this ⊢
   rw [yG (Ne.symm hks)]
   exact this
  ·have hkl := keepP_get hkp k hk
   have hks : k ≠ s.h.length := by
    intro e
    unfold liveP at hkl
    rw [e, yW (yD _)] at hkl
    exact hkl
   rw [g2 k (yC _ hk), o2 k hks]
  ·have := hBg.2
   rw [h3g, ht2] at this
   exact this
 refine ha (some l) _ ρ2 w hcx' (.inr hra) hro (fun _ => YOk_none) _ _ _ _ (fun ⟨a, w, hq⟩ => hq) ?_ (fun _ _ _ _ h _ => h.elim) (fun _ _ _ h _ => h.elim) _ _ _ h hgood
 intro s1 a1 wA hbeg hg1
 obtain ⟨t1, e1, hb1, rfl, hbody⟩ := rcdK_inv hbeg
 have hl1 : wA.heap[l]? = some (.loop { lp with state := .ready, pending := none }) := by
  obtain ⟨ρ3, ⟨⟨g1, g2⟩, g3⟩, ⟨g4, g5⟩, g6⟩ := hg1
  have h3n : ρ3 n = ⟨true, l, 0, 0, 0, lp⟩ := (g2 n (by simp)).trans hρ2n
  have hB2 := g4.blk n _ hb1
  simp only [RepB, h3n] at hB2
  exact hB2.1.2
 refine ⟨_, run_beginRound hl1 rfl, ?_⟩
 have hlt : l < wA.heap.size := (yX.1 hl1).1
 have hgB := hg1.rcd (t' := .busy) (k := n) (by simp) hb1 (by rw [hρ2n]) (o := .loop { lp with state := .busy, pending := none }) (by
  rw [hρ2n]; exact ⟨⟨rfl, rfl, rfl⟩, World.putObj_heap_same hlt⟩)
 rw [hρ2n] at hgB
 refine hb (some l) _ ρ2 w hcx' (.inr hrb) hro (fun _ => YOk_none) (roundPost P l _) _ _ _ (fun ⟨a, w, hq⟩ => hq) ?_ ?_ ?_ _ _ _ hbody hgB
 ·intro s2 a2 w2 hend hg2
  exact hgo true .ready none s2 a2 w2 hend hg2 (fun w' hw' => ⟨⟨rfl, rfl, rfl⟩, hw'⟩) (by simp) rfl
 ·intro j s2 a2 w2 hend hg2
  exact hgo false (.out (some j)) (some (.exit j)) s2 a2 w2 hend hg2 (fun w' hw' => ⟨⟨rfl, rfl, rfl⟩, hw'⟩) (by simp) rfl
 ·intro s2 a2 w2 hend hg2
  exact hgo false (.out none) (some .ret) s2 a2 w2 hend hg2 (fun w' hw' => ⟨⟨rfl, rfl, rfl⟩, hw'⟩) (by simp) rfl
end
end Go.Fx
namespace Go.Fx
open Go.RowKit
section
variable {P : Program} {X : Nat → Prop} {N : Nat}
theorem rfn_okA {g : Operand} {ps : Array Tmp} {asg body : Code} {rda rdb : Prop} {Aa Ab : Cx → (St → Prop) → (Nat → St → Prop) → (St → Prop) → St → Prop} (ha : SndA P X N asg rda Aa) (hb : SndA P X N body rdb Ab) (hra : rda) (hrb : rdb)
  (hps' : ∀ p ∈ ps.toList, p < N) : SndA P X N (.rangeFunc g ps asg body) True (fun cx Nn Xx Rr s =>
  match ev s.e g with
  | .clo gf caps => inRdP cx.rk s.h ∧ cx.it gf (.itr s.h.length :: caps) (s.h.length :: cx.fx) s.h.length
    (fun xs sI K => rcdK sI.h s.h.length fun t e => t = .ready ∧ xs.length = ps.toList.length ∧
     Aa { cx with fx := sI.h.length :: s.h.length :: cx.fx, y := fun _ _ _ _ => False, rk := some s.h.length }
      (begRd s.h.length fun s1 => Ab { cx with fx := sI.h.length :: s.h.length :: cx.fx, y := fun _ _ _ _ => False, rk := some s.h.length }
       (endRd s.h.length sI.h.length sI.b K true .ready) (fun j => endRd s.h.length sI.h.length sI.b K false (.out (some j))) (endRd s.h.length sI.h.length sI.b K false (.out none)) s1)
      (fun _ _ => False) (fun _ => False) ⟨setPs ps.toList xs e, sI.h ++ [.rcd .ghost sI.e], sI.b⟩)
    (s.h ++ [.rcd .ready s.e]) (endLp s.h.length Nn Xx Rr)
  | _ => False) := by
 intro r cx ρ0 w0 hcx hrd hro hy Q Nn Xx Rr hQo hN hX hR s a w h hg
 split at h
 ·rename_i gf caps hev
  obtain ⟨hrk, hit⟩ := h
  obtain ⟨hcall, hiter⟩ := hcx.2 _ _ _ _ _ _ _ hit
  obtain ⟨ρ, ⟨⟨hf, hfx⟩, hkp⟩, ⟨hr, he⟩, hsz, hM⟩ := hg
  have hgv := ev_rep he g
  rw [hev] at hgv
  obtain ⟨arr, hgv, hcaps⟩ := hgv
  have hrd0 : ∀ l0, r = some l0 → ∃ r0, w.heap[l0]? = some (.loop r0) := by
   rintro l0 rfl
   unfold ROk at hro
   split at hro
   ·rename_i h1 _; cases h1
   ·rename_i l1 k h1 h2
    simp only [yA] at h1
    subst h1
    rw [h2] at hrk
    obtain ⟨t, e, hb1, rfl⟩ := rcdK_inv hrk
    have hB := hr.blk k _ hb1
    simp only [RepB] at hB
    rw [hfx k hro.1] at hB
    exact ⟨_, by rw [← hro.2]; exact hB.1.2⟩
   ·exact hro.elim
  refine wpIn_rangeFunc ?_
  intro fn _
  obtain ⟨l, mark, w1, lp, ρ1, hen, hlp, f1, o1, ag1, hr1, hn1, hM1⟩ := enter_ok hr hf.size hM r hrd0 fn a.tmps ps asg body he
  refine ⟨l, mark, w1, { target := .fn (.func gf) arr, args := #[.func (.yield l) #[] #[]] }, w1, gf, #[.func (.yield l) #[] #[]] ++ arr, w1, hen, ?_, fun _ _ => trivial, ?_, fun h => (by cases h), ?_⟩
  ·simp only [resolve, hgv]
   simp [go_sem]
  ·simp [invoke, go_sem, callFunc_run hcall]
  ·refine callsFR ?_
   have hkp1 : keepP (s.h.length :: cx.fx) (s.h ++ [.rcd .ready s.e]) := keepP_mk fun j hj => by
    rcases yL.1 hj with rfl | hj
    ·simp [liveP]
    ·have := keepP_get hkp j hj
     unfold liveP at this ⊢
     cases hb : s.h[j]? with
     | none => rw [hb] at this; exact this.elim
     | some B => rw [yK (yE.1 hb).1, hb]; rw [hb] at this; exact this
   have hargs : RepL ρ1 X w1 (.itr s.h.length :: caps) ((Value.func (.yield l) #[] #[]) :: arr.toList) := ⟨⟨by rw [hn1], by rw [hn1]⟩, RepL_mono f1 ag1 _ _ hcaps⟩
   have hyok := round_okA (w1 := w1) ha hb hra hrb hcx rfl hn1 ⟨hlp.2.2.1, hlp.2.2.2.1, hlp.2.2.2.2⟩ hps' (by rw [hlp.2.1]; exact hsz)
   have hcalls := hiter ρ1 X w1 _ hr1 hargs hkp1 hyok
   have hvals : ((Value.func (.yield l) #[] #[]) :: arr.toList).toArray = #[.func (.yield l) #[] #[]] ++ arr := by apply Array.ext'; simp
   rw [hvals] at hcalls
   refine hcalls.mono ?_
   rintro e w2 ⟨val, h', ρ2, rfl, hK, ⟨f2, hr2⟩, hfx2, hkp2⟩
   obtain ⟨t, e', hbn, ⟨hwf1, hwf2⟩, hK⟩ := rcdK_inv hK
   have h2n : ρ2 s.h.length = ⟨true, l, 0, 0, 0, lp⟩ := (hfx2 _ yF).trans hn1
   have hB := hr2.blk _ _ hbn
   simp only [RepB, h2n] at hB
   -- behind the iterator: the record is spent
   have fin : ∀ (j : Option Code) (rr : Loop), w2.heap[l]? = some (.loop rr) → rr.state ≠ .busy → rr.pending = j →
     (Instr.endLoop l).run P w2 = .ok j (w2.putObj l (.loop { rr with state := .exhausted })) ∧
     Good ρ0 X w0 cx.fx N ⟨e', h'.set s.h.length .dead, 0⟩ { a with defers := mark ++ a.defers } (w2.putObj l (.loop { rr with state := .exhausted })) := by
    intro j rr hrr hnb hj
    refine ⟨by rw [← hj]; exact run_endLoop hrr hnb, ?_⟩
    have hreal : (ρ2 s.h.length).real = true := by rw [h2n]
    have hblk : (ρ2 s.h.length).blk = l := by rw [h2n]
    have hf3 := putObj_fr (w := w2) (k := s.h.length) (ρ := ρ2) hreal (.loop { rr with state := .exhausted })
    have hr3 := rec_turn (t' := .gone) hr2 hbn hreal (o := .loop { rr with state := .exhausted }) (by
     rw [h2n]; exact ⟨⟨rfl, rfl, rfl⟩, _, World.putObj_heap_same (yX.1 hrr).1⟩)
    rw [hblk] at hf3 hr3
    have hfx' : ∀ k ∈ cx.fx, k ≠ s.h.length := by
     intro k hk e
     have := keepP_get hkp k hk
     unfold liveP at this
     rw [e, yW (yD _)] at this
     exact this
    have hkp3 : keepP cx.fx (h'.set s.h.length (.rcd .gone e')) := keepP_mono (keepP_mk fun k hk => keepP_get hkp2 k (yC _ hk)) (live_set (by simp))
    have hg3 : Good ρ0 X w0 cx.fx N ⟨e', h'.set s.h.length (.rcd .gone e'), 0⟩ { a with defers := mark ++ a.defers } (w2.putObj l (.loop { rr with state := .exhausted })) := by
     refine ⟨ρ2, ⟨⟨hf.trans (f1.trans (f2.trans hf3)), fun k hk => ?_⟩, hkp3⟩, ⟨hr3, ?_⟩, hsz, (hM1.fr f2).fr hf3⟩
     ·rw [hfx2 k (yC _ hk), o1 k (hfx' k hk), hfx k hk]
     ·have := RepE_mono hf3 (fun _ _ => rfl) hB.2
      rw [hlp.2.1] at this
      exact this
    refine hg3.leH (leH_dead _ _ _) ?_ hwf1 hwf2
    exact keepP_mk fun k hk => by
     have := keepP_get hkp3 k hk
     unfold liveP at this ⊢
     rw [yG (Ne.symm (hfx' k hk))] at this ⊢
     exact this
   cases t with
   | ready =>
    obtain ⟨h1, h2⟩ := fin none _ hB.1.2 (by simp) rfl
    exact ⟨none, _, h1, hN _ _ _ hK h2⟩
   | out j =>
    cases j with
    | none =>
     obtain ⟨h1, h2⟩ := fin (some .ret) _ hB.1.2 (by simp) rfl
     exact ⟨some .ret, _, h1, wpIn_ret (hR _ _ _ hK h2)⟩
    | some j =>
     obtain ⟨h1, h2⟩ := fin (some (.exit j)) _ hB.1.2 (by simp) rfl
     exact ⟨some (.exit j), _, h1, wpIn_exit (hX _ _ _ _ hK h2)⟩
   | ghost => exact hK.elim
   | busy => exact hK.elim
   | gone => exact hK.elim
 ·exact h.elim
theorem rfn_ok {g : Operand} {ps : Array Tmp} {asg body : Code} (ha : SndC P X N asg) (hb : SndC P X N body) : SndC P X N (.rangeFunc g ps asg body) := by
 intro l0 l hm r cx ρ0 w0 hcx hrd hro hy Q Nn Xx Rr hQo hN hX hR s a w h hg
 cases l0 with
 | rfn g' ps' la0 lb0 =>
  simp only [rlC] at hm
  split at hm
  ·rename_i la lb hma hmb
   split at hm
   ·rename_i hc
    simp only [yB] at hc
    simp only [yA] at hm
    subst hm
    obtain ⟨⟨hps, hcd⟩, hin⟩ := hc
    have hps' : ∀ p ∈ ps.toList, p < N := fun p hp => by simpa using yH.1 hps p hp
    exact rfn_okA (ha la0 la hma) (hb lb0 lb hmb) ⟨(by simpa using hcd : _ ∧ _).1, (by simpa using hin : _ ∧ _).1⟩ ⟨(by simpa using hcd : _ ∧ _).2, (by simpa using hin : _ ∧ _).2⟩ hps' r cx ρ0 w0 hcx (hrd.imp id fun _ => trivial) hro hy Q Nn Xx Rr hQo hN hX hR s a w h hg
   ·cases hm
  ·cases hm
 | _ => simp [rlC] at hm
end
end Go.Fx
namespace Go.Fx
open Go.RowKit
section
variable {P : Program} {md : Region.Mode} {ops : Array Oper} {Q : Exit → Act → World → Prop} {Γ : Type} {G : Nat → Γ → World → Γ → World → Prop} {L : Array Bool → Act → World → Prop} {m : Nat}
def wpAnyGT (P : Program) (md : Region.Mode) (ops : Array Oper) (Q : Exit → Act → World → Prop) (L : Array Bool → Act → World → Prop) (G : Nat → Γ → World → Γ → World → Prop) : Nat → Array Bool → Γ → Act → World → Prop
 | 0, listed, _, a, w => L listed a w
 | fuel + 1, listed, g, a, w =>
  Region.ready md ops listed ≠ [] ∧
  ∀ i ∈ Region.ready md ops listed, wpOp P ops Q i (fun a' w' => ∃ g', G i g w g' w' ∧ wpAnyGT P md ops Q L G fuel (listed.setIfInBounds i true) g' a' w') a w
theorem anyIn_of_GT (hQ : ¬ LetsOut Q) {n : Nat} (hL : ∀ listed a w, L listed a w → wpAnyIn (FR none) 0 P md ops Q n listed a w) : ∀ (fuel : Nat) (listed : Array Bool) (g : Γ) (a : Act) (w : World),
  wpAnyGT P md ops Q L G fuel listed g a w → wpAnyIn (FR none) 0 P md ops Q (fuel + n) listed a w
 | 0, listed, _, a, w, h => by rw [Nat.zero_add]; exact hL _ _ _ h
 | f + 1, listed, g, a, w, h => by
  rw [show f + 1 + n = (f + n) + 1 by omega]
  exact ⟨fun h0 => absurd h0 h.1, fun i hi => wpOpIn_mono (fun a' w' ⟨g', _, h'⟩ => anyIn_of_GT hQ hL f _ g' a' w' h') (opIn (.inl rfl) hQ (h.2 i hi))⟩
theorem wpAnyGT_weak {g g2 : Γ} {w : World} (h : ∀ i g' w', G i g2 w g' w' → G i g w g' w') : ∀ (fuel : Nat) (listed : Array Bool) (a : Act), wpAnyGT P md ops Q L G fuel listed g2 a w → wpAnyGT P md ops Q L G fuel listed g a w
 | 0, _, _, hh => hh
 | _ + 1, _, _, hh => ⟨hh.1, fun i hi => wpOp_mono (fun _ w' ⟨g', h1, h2⟩ => ⟨g', h i g' w' h1, h2⟩) (hh.2 i hi)⟩
theorem wpAnyGT_first (hL : ∀ listed a w, L listed a w → Region.ready md ops listed = [m]) {i : Nat} {oi : Oper} {v : Value} (hi : ops[i]? = some oi) (hsel : ∀ (j : Nat) (o : Oper) cs b, ops[j]? = some o → o.op ≠ .select cs b)
  (hQ : ∀ c a w, Q (.panic c) (a.put oi.dst v) w → Q (.panic c) a w) {D : Nat → Prop} (hmD : D m) (hD : ∀ j oj, D j → ops[j]? = some oj → ∃ e ∈ oj.after, Region.binds md e = true ∧ (e.on = i ∨ D e.on))
  {Inv : Γ → World → Prop} (hGi : ∀ g w, Inv g w → G i g w g w) :
  ∀ (fuel : Nat) (listed : Array Bool) (g : Γ) (a : Act) (w : World),
   (∀ j oj, ops[j]? = some oj → j ≠ i → listed.getD j true = false → (∀ e ∈ oj.after, Region.binds md e = true → e.on ≠ i) → oi.apart ops oj = true) →
   (∀ j, D j → listed.getD j false = false) →
   (∀ j oj, ops[j]? = some oj → j ≠ i → ¬ D j → listed.getD j true = false → ∀ g w g' w', G j g w g' w' → Inv g w → Inv g' w') →
   i ∈ Region.ready md ops listed → YieldsIf P ops (fun w => ∃ g, Inv g w) oi v a → Inv g w →
   wpAnyGT P md ops Q L G fuel (listed.setIfInBounds i true) g (a.put oi.dst v) w → wpAnyGT P md ops Q L G (fuel + 1) listed g a w := by
 intro fuel
 induction fuel with
 | zero =>
  intro listed g a w hfree hun _ hr hy hS H
  refine ⟨fun h => (by rw [h] at hr; cases hr), fun j hj => ?_⟩
  by_cases hji : j = i
  ·subst hji; exact hy.wpOp hi ⟨g, hS⟩ ⟨g, hGi g w hS, H⟩
  ·exfalso
   have hjm := ready_mono hj hji
   rw [hL _ _ _ H] at hjm
   obtain rfl : j = m := by simpa using hjm
   obtain ⟨hjun, oj, hoj, hall⟩ := mem_ready.1 hj
   have hiun : listed.getD i false = false := by
    have h0 := (mem_ready.1 hr).1
    rcases yO i listed.size with h' | h'
    ·simpa [h'] using h0
    ·simp [vC h']
   obtain ⟨e, he, hb, h2⟩ := hD j oj hmD hoj
   have h3 := hall e he hb
   rcases h2 with h2 | h2
   ·rw [h2, hiun] at h3; cases h3
   ·rw [hun _ h2] at h3; cases h3
 | succ fuel ih =>
  intro listed g a w hfree hun hinv hr hy hS H
  refine ⟨fun h => (by rw [h] at hr; cases hr), fun j hj => ?_⟩
  by_cases hji : j = i
  ·subst hji; exact hy.wpOp hi ⟨g, hS⟩ ⟨g, hGi g w hS, H⟩
  ·have h1 := H.2 j (ready_mono hj hji)
   obtain ⟨hjun, oj, hoj, hall⟩ := mem_ready.1 hj
   have hiun : listed.getD i false = false := by
    have h0 := (mem_ready.1 hr).1
    rcases yO i listed.size with h' | h'
    ·simpa [h'] using h0
    ·simp [vC h']
   have hnot : ∀ e ∈ oj.after, Region.binds md e = true → e.on ≠ i := fun e he hb heq => by
    have h1 := hall e he hb
    rw [heq, hiun] at h1
    cases h1
   have hnD : ¬ D j := fun hd => by
    obtain ⟨e, he, hb, h2⟩ := hD j oj hd hoj
    have h3 := hall e he hb
    rcases h2 with h2 | h2
    ·rw [h2, hiun] at h3; cases h3
    ·rw [hun _ h2] at h3; cases h3
   have h2 := wpOp_putIf hoj (hfree j oj hoj hji hjun hnot) (fun cs b => hsel i oi cs b hi) (fun cs b => hsel j oj cs b hoj) hQ hy h1
   have hset : ∀ k, (listed.setIfInBounds j true).getD k true = false → listed.getD k true = false := fun k hk => by
    by_cases hjk : j = k
    ·subst hjk; exact hjun
    ·rw [getD_set_ne true hjk] at hk; exact hk
   have hfree' : ∀ k ok, ops[k]? = some ok → k ≠ i → (listed.setIfInBounds j true).getD k true = false →
     (∀ e ∈ ok.after, Region.binds md e = true → e.on ≠ i) → oi.apart ops ok = true := fun k ok hk hki hu hno => hfree k ok hk hki (hset k hu) hno
   have hun' : ∀ k, D k → (listed.setIfInBounds j true).getD k false = false := fun k hk => by
    have hne : j ≠ k := fun e => hnD (e ▸ hk)
    rw [getD_set_ne false hne]
    exact hun k hk
   refine wpOp_mono (fun a' w' h3 => ?_) h2
   obtain ⟨hy', g', hG, h4⟩ := h3
   refine ⟨g', hG, ih (listed.setIfInBounds j true) g' a' w' hfree' hun' (fun k ok hok hki hkD hku => hinv k ok hok hki hkD (hset k hku)) (ready_mono hr (Ne.symm hji)) hy' (hinv j oj hoj hji hnD hjun _ _ _ _ hG hS) ?_⟩
   rw [Array.setIfInBounds_comm _ _ hji]
   exact h4
end
section
variable {P : Program} {ρ0 : Nat → Loc} {X : Nat → Prop} {w0 : World} {fx : List Nat} {N : Nat} {L : Array Bool → Act → World → Prop} {m : Nat}
theorem take_stepT {cx : Cx} {ops : Array Oper} (hLT : ∀ listed a w, L listed a w → Region.ready .any ops listed = [m]) {rs : Nat → Bool} (hs : Region.noSelect ops = true) {Q : Exit → Act → World → Prop} (hQp : ∀ c a w, ¬ Q (.panic c) a w) {i : Nat} {o : Oper} {l0 op : LOp} {g : Option (Nat × Bool)} (ho : ops[i]? = some o)
  (hm : rl P o.op l0 = some op) (hg : gOk ops N o.guard = some g) (hd : dOk N o.dst = true) {listed : Array Bool} {D : List Nat} (hok : takeOk ops rs listed i D op = true) (hmD : m ∈ D)
  {bn : List Nat} {B : Nat → Prop} {ρ : Nat → Loc} {s : St} {a : Act} {w : World} (hB : BI ρ B bn w)
  (hG : GoodAt ρ0 X w0 fx N ρ s a w) {K : St → Prop} {fuel : Nat} (h : aOper cx ⟨o.dst, op, g⟩ s K)
  (hZ : ∀ B' s' a', K s' → BI ρ B' (rdB op s.e bn) w → GoodAt ρ0 X w0 fx N ρ s' a' w → wpAnyGT P .any ops Q L (GR rs) fuel (listed.setIfInBounds i true) (ρ, B') a' w) :
  wpAnyGT P .any ops Q L (GR rs) (fuel + 1) listed (ρ, B) a w := by
 obtain ⟨hpre, ⟨hrep, he⟩, hN, hdf⟩ := hG
 have hd' : ∀ n, o.dst = some n → n < N := fun n hn => by simpa [dOk, hn] using hd
 simp only [takeOk, yB] at hok
 obtain ⟨⟨⟨hready, hfree⟩, hq⟩, hDl, hres⟩ := hok
 have hready' : i ∈ Region.ready .any ops listed := by simpa using hready
 have hfr := Region.free_spec (md := .any) ho hfree
 have hDc : ∀ j oj, j ∈ D → ops[j]? = some oj → ∃ e ∈ oj.after, Region.binds .any e = true ∧ (e.on = i ∨ e.on ∈ D) := by
  intro j oj hj hoj
  have := yH.1 hDl j hj
  simp only [hoj, yB] at this
  obtain ⟨e, he, hb⟩ := Array.any_eq_true'.1 this.2
  simp only [yB, Bool.or_eq_true, beq_iff_eq, yY] at hb
  exact ⟨e, he, hb.1, hb.2⟩
 have hDu : ∀ j, j ∈ D → listed.getD j false = false := by
  intro j hj
  have := yH.1 hDl j hj
  simp only [yB, yZ] at this
  exact this.1
 have hsel := Region.noSelect_spec hs
 have free : ∀ (v : Value) (B' : Nat → Prop), (YieldsIf P ops (fun _ => True) o v a) → wpAnyGT P .any ops Q L (GR rs) fuel (listed.setIfInBounds i true) (ρ, B') (a.put o.dst v) w → wpAnyGT P .any ops Q L (GR rs) (fuel + 1) listed (ρ, B') a w := by
  intro v B' hy hh
  exact wpAnyGT_first (D := (· ∈ D)) hLT ho hsel (fun c a w h => (hQp _ _ _ h).elim) hmD hDc (Inv := fun _ _ => True) (fun g w _ => GR.refl _ _ _ _) fuel listed _ a w hfr hDu (fun _ _ _ _ _ _ _ _ _ _ _ _ => trivial) hready' (hy.imp (fun ⟨h1, h2⟩ => ⟨h1, fun w _ => h2 w trivial⟩) id) trivial hh
 rcases guard_cases hN hg he h with ⟨hw, e', hEB, he', h'⟩ | ⟨hw, e', _, he', h'⟩
 ·obtain ⟨x, val, h1, h2, h3⟩ := quiet_at (s := { s with e := e' }) hq hm hrep he' h'
  have hh : (St.put { s with e := e' } o.dst x).h = s.h := by cases o.dst <;> rfl
  have hgood : GoodAt ρ0 X w0 fx N ρ (St.put { s with e := e' } o.dst x) (a.put o.dst val) w :=
   ⟨⟨hpre.1, by rw [hh]; exact hpre.2⟩, ⟨by rw [hh]; exact hrep, RepE_put (e := e') he' h2 (fun n hn => by rw [hN]; exact hd' n hn) _ rfl⟩, by rw [size_put]; exact hN, by cases o.dst <;> exact hdf⟩
  by_cases hL : isLoad op = true
  ·have hres' : ∀ j, j ≠ i → j ∉ D → listed.getD j true = false → j < ops.size → rs j = true := by
    intro j hji hjD hjl hlt
    simp only [hL, Bool.not_true, Bool.false_or] at hres
    have := yH.1 hres j (by simpa using hlt)
    simp only [Bool.or_eq_true, beq_iff_eq, hji, false_or, yY, hjD, hjl, Bool.false_eq_true] at this
    exact this
   cases op with
   | load n p =>
    have hpv := ev_rep he' p
    cases hp : ev e' p with
    | ptr k ix f =>
     rw [hp] at hpv
     have hreal := hpv.1
     have hlt := hrep.lt k hreal
     have hrd : rdB (.load n p) s.e bn = k :: bn := by
      have : ev s.e p = .ptr k ix f := by
       rcases ev_envB hEB p with h4 | ⟨b, h4⟩
       ·rw [← h4]; exact hp
       ·rw [h4] at hp; cases hp
      simp only [rdB, this]
     have hB' : BI ρ (fun b => B b ∨ b = (ρ k).blk) (rdB (.load n p) s.e bn) w := by
      rw [hrd]
      rintro b (hb | rfl)
      ·exact ⟨(hB b hb).1, (hB b hb).2.imp (fun ⟨k', hk, hk'⟩ => ⟨k', yC _ hk, hk'⟩) id⟩
      ·exact ⟨hlt, .inl ⟨k, yF, hreal, rfl⟩⟩
     refine wpAnyGT_weak (g2 := (ρ, fun b => B b ∨ b = (ρ k).blk)) (fun j g' w' hj => ⟨hj.1, fun hr => ⟨fun b hb => (hj.2 hr).1 b (.inl hb), fun b hb => (hj.2 hr).2 b (.inl hb)⟩⟩) _ _ _ ?_
     refine wpAnyGT_first (D := (· ∈ D)) hLT ho hsel (fun c a w h => (hQp _ _ _ h).elim) hmD hDc (Inv := Inv (ρ k).blk w.heap[(ρ k).blk]?) (fun g w _ => GR.refl _ _ _ _) fuel listed _ a w hfr hDu
      (fun j oj hoj hji hjD hjl g w g' w' hG hI => Inv.step (hres' j hji hjD hjl (yX.1 hoj).1) hG hI) hready' ?_ ⟨⟨hlt, .inl (.inr rfl)⟩, rfl⟩ (hZ _ _ _ h1 hB' hgood)
     refine .inl ⟨hw, fun w' ⟨g, hI⟩ => h3 w' ?_⟩
     intro b hb
     rw [hp] at hb
     obtain ⟨_, rfl⟩ := hb
     exact fun _ => hI.2
    | rp sz els ix f =>
     have hrd : rdB (.load n p) s.e bn = bn := by
      have : ev s.e p = .rp sz els ix f := by
       rcases ev_envB hEB p with h4 | ⟨b, h4⟩
       ·rw [← h4]; exact hp
       ·rw [h4] at hp; cases hp
      simp only [rdB, this]
     refine wpAnyGT_first (D := (· ∈ D)) hLT ho hsel (fun c a w h => (hQp _ _ _ h).elim) hmD hDc (Inv := fun g w' => ∀ b, b < w.heap.size → ¬ Own ρ b → (b < w'.heap.size ∧ ¬ Own g.1 b) ∧ w'.heap[b]? = w.heap[b]?) (fun g w _ => GR.refl _ _ _ _) fuel listed _ a w hfr hDu
      (fun j oj hoj hji hjD hjl g w1 g' w2 hG hI b hb1 hb2 => ?_) hready' ?_ (fun b hb1 hb2 => ⟨⟨hb1, hb2⟩, rfl⟩) (hZ _ _ _ h1 (by rw [hrd]; exact hB) hgood)
     ·obtain ⟨⟨h4, h5⟩, h6⟩ := hI b hb1 hb2
      have h7 := hG.1.keep b h4 h5
      exact ⟨⟨yP h4 hG.1.size, h7.2⟩, h7.1.trans h6⟩
     ·refine .inl ⟨hw, fun w' ⟨g, hI⟩ => h3 w' ?_⟩
      intro b hb
      rw [hp] at hb
      exact fun _ => (hI b hb.1 hb.2).2
    | _ => exact absurd h' (by simp [aOp, hp, loadP])
   | _ => simp [isLoad] at hL
  ·have hL' : isLoad op = false := by simpa using hL
   have hrun : ∀ w', (execOp a.eval o).run P w' = .ok (.value val) w' := fun w' => h3 w' (by cases op <;> first | trivial | simp [isLoad] at hL')
   refine free val B (.inl ⟨hw, fun w' _ => hrun w'⟩) (hZ B _ _ h1 (by rw [rdB_of hL']; exact hB) hgood)
 ·have hh : (St.put { s with e := e' } o.dst (.v (.tuple #[]))).h = s.h := by cases o.dst <;> rfl
  have hgood : GoodAt ρ0 X w0 fx N ρ (St.put { s with e := e' } o.dst (.v (.tuple #[]))) (a.put o.dst undef) w :=
   ⟨⟨hpre.1, by rw [hh]; exact hpre.2⟩, ⟨by rw [hh]; exact hrep, RepE_put (e := e') (x := .v (.tuple #[])) (val := undef) he' rfl (fun n hn => by rw [hN]; exact hd' n hn) _ rfl⟩, by rw [size_put]; exact hN, by cases o.dst <;> exact hdf⟩
  have hB' : BI ρ B (rdB op s.e bn) w := fun b hb => ⟨(hB b hb).1, (hB b hb).2.imp (fun ⟨k, hk, hk'⟩ => ⟨k, by
   unfold rdB
   split
   ·split
    ·exact yC _ hk
    ·exact hk
   ·exact hk, hk'⟩) id⟩
  exact free undef B (.inr ⟨hw, rfl⟩) (hZ B _ _ h' hB' hgood)
theorem awP_soundT {cx : Cx} (hcx : cx.ok P) (hfxe : cx.fx = fx) {ops : Array Oper} {rs : Nat → Bool} (hs : Region.noSelect ops = true) {Q : Exit → Act → World → Prop} (hQp : ∀ c a w, ¬ Q (.panic c) a w) {K : St → Prop}
  (hL : ∀ listed a w, L listed a w → Region.ready .any ops listed = [m])
  (hQ : ∀ listed s a w, K s → Good ρ0 X w0 fx N s a w → m < ops.size → Region.seqB .any ops (ops.size - m) m listed = true → L listed a w) :
  ∀ (p0 p : LPlan) (listed : Array Bool) (fuel : Nat) (rem : Option (List Nat)), rlPT P N ops rs m p0 listed fuel rem = some p → ∀ (bn : List Nat) (B : Nat → Prop) (ρ : Nat → Loc) (s : St) (a : Act) (w : World),
   BI ρ B bn w → GoodAt ρ0 X w0 fx N ρ s a w → awP cx p bn K s →
   (rem = none → wpAnyGT P .any ops Q L (GR rs) fuel listed (ρ, B) a w) ∧
   (∀ l, rem = some l → ∀ i ∈ l, wpOp P ops Q i (fun a' w' => ∃ g', GR rs i (ρ, B) w g' w' ∧ wpAnyGT P .any ops Q L (GR rs) (fuel - 1) (listed.setIfInBounds i true) g' a' w') a w) := by
 intro p0
 induction p0 with
 | done =>
  intro p listed fuel rem hm bn B ρ s a w hB hG h
  cases rem with
  | some l => simp [rlPT] at hm
  | none =>
   simp only [rlPT] at hm
   split at hm
   ·rename_i hr
    simp only [yA] at hm
    subst hm
    obtain ⟨rfl, hr1, hr2⟩ := hr
    exact ⟨fun _ => hQ listed s a w h ⟨ρ, hG⟩ hr1 hr2, fun l hl => by cases hl⟩
   ·cases hm
 | none =>
  intro p listed fuel rem hm bn B ρ s a w hB hG h
  cases rem with
  | none => simp [rlPT] at hm
  | some l =>
   cases l with
   | nil => exact ⟨fun h => (by cases h), fun l hl i hi => (by cases hl; simp at hi)⟩
   | cons _ _ => simp [rlPT] at hm
 | take i D l p ih =>
  intro p1 listed fuel rem hm bn B ρ s a w hB hG h
  cases rem with
  | some l => cases fuel <;> simp [rlPT] at hm
  | none =>
   cases fuel with
   | zero => simp [rlPT] at hm
   | succ fuel =>
    simp only [rlPT] at hm
    split at hm
    ·rename_i o ho
     split at hm
     ·rename_i op g p' h1 h2 h3 h4
      split at hm
      ·rename_i hok
       simp only [yA] at hm
       subst hm
       simp only [yB, yY] at hok
       refine ⟨fun _ => ?_, fun l hl => by cases hl⟩
       refine take_stepT hL (cx := cx) (K := fun s' => awP cx p' (rdB op s.e bn) K s') hs hQp ho h1 h2 h3 hok.1 hok.2 hB hG h ?_
       intro B' s' a' hK hB' hG'
       exact (ih p' _ _ _ h4 _ _ _ _ _ _ hB' hG' hK).1 rfl
      ·cases hm
     ·cases hm
    ·cases hm
 | alt i l r p q ihp ihq =>
  intro p1 listed fuel rem hm bn B ρ s a w hB hG h
  cases fuel with
  | zero => cases rem <;> simp [rlPT] at hm
  | succ fuel =>
   simp only [rlPT] at hm
   split at hm
   ·rename_i j js o hrem ho
    split at hm
    ·rename_i op g p' q' h1 h2 h3 h4 h5
     split at hm
     ·rename_i hc
      obtain ⟨rfl, hr⟩ := hc
      simp only [yA] at hm
      subst hm
      have hall : ∀ i ∈ j :: js, wpOp P ops Q i (fun a' w' => ∃ g', GR rs i (ρ, B) w g' w' ∧ wpAnyGT P .any ops Q L (GR rs) fuel (listed.setIfInBounds i true) g' a' w') a w := by
       intro i hi
       rcases yL.1 hi with rfl | hi
       ·refine alt_step (K := fun s' => awP cx p' (if r then bn else []) K s') (Z := fun g' a' w' => wpAnyGT P .any ops Q L (GR rs) fuel (listed.setIfInBounds i true) g' a' w') hcx hfxe ho h1 h2 h3 hr hB hG h.1 ?_
        intro ρ' B' s' a' w' hK hB' hG'
        exact (ihp p' _ _ _ h4 _ _ _ _ _ _ hB' hG' hK).1 rfl
       ·exact (ihq q' _ _ _ h5 _ _ _ _ _ _ hB hG h.2).2 js rfl i hi
      refine ⟨fun hn => ?_, fun l hl => ?_⟩
      ·subst hn
       simp only [Option.getD_none] at hrem
       exact ⟨fun h0 => (by rw [hrem] at h0; cases h0), by rw [hrem]; exact hall⟩
      ·subst hl
       simp only [Option.getD_some] at hrem
       subst hrem
       exact hall
     ·cases hm
    ·cases hm
   ·cases hm
theorem ytree_in (hP : P.follows .mixedOrders = true) {cx : Cx} (hcx : cx.ok P) (hy : ∀ k, YOk P ρ0 X w0 cx.fx k (cx.y k)) {ops : Array Oper} {id : Nat} {Q : Exit → Act → World → Prop} (hQo : ¬ LetsOut Q) {K : St → Prop}
  (hQ : ∀ s a w, K s → Good ρ0 X w0 cx.fx N s a w → Q .normal a w) {p0 p : LPlan} {ls0 ls : List LOper} {s : St} {a : Act} {w : World} (hm : rlTY P N ops p0 m = some p) (hmt : rlOsY P ops N (ops.toList.drop m) ls0 = some ls) (hlt : m < ops.size)
  (hg : Good ρ0 X w0 cx.fx N s a w) (h : awP cx p [] (fun s' => aOpsY cx ls s' K) s) : (Code.region id ops true).wpIn (FR none) 0 P Q a w := by
 unfold rlTY at hm
 split at hm
 ·rename_i hs
  refine wpIn_mono (Q := NoPan Q) ?_ (fun e a w he => ?_)
  ·refine wpIn_region_any hP ?_
   obtain ⟨ρ, hG⟩ := Good.drew hg
   have hno : ¬ LetsOut (NoPan Q) := fun ⟨a, w, hq⟩ => hQo ⟨a, w, hq⟩
   have hdl : (ops.toList.drop m).length = ops.size - m := by simp
   have := anyIn_of_GT (P := P) (md := .any) (ops := ops) (Q := NoPan Q) (n := ops.size - m) (G := GR fun j => !(rsOf p0).contains j)
    (L := fun listed a w => (m < ops.size ∧ Region.seqB .any ops (ops.size - m) m listed = true) ∧ wpListIn (FR none) 0 P ops (NoPan Q) (ops.toList.drop m) a w) hno (fun listed a w hL => by
     have := anyIn_of_seq (P := P) (r := none) (md := .any) (Q := NoPan Q) (ops.toList.drop m) m listed a w (fun j => by simp [List.getElem?_drop]) (by rw [hdl]; exact hL.1.2) hL.2
     rwa [hdl] at this) m _ _ _ _
    ((awP_soundT (Q := NoPan Q) (m := m) hcx rfl hs (fun _ _ _ h => h) (fun listed a w hL => by
      obtain ⟨⟨h1, h2⟩, _⟩ := hL
      obtain ⟨q, hq⟩ : ∃ q, ops.size - m = q + 1 := ⟨ops.size - m - 1, by omega⟩
      rw [hq] at h2
      simp only [Region.seqB, yB, decide_eq_true_eq] at h2
      exact h2.1) (fun listed s a w hK hg h1 h2 => ⟨⟨h1, h2⟩, aOpsY_sound (Q := NoPan Q) hcx hy (fun s a w hK hg => hQ s a w hK hg) _ _ _ s a w hmt hg hK⟩) p0 p _ _ _ hm [] (fun _ => False) ρ s a _ (fun b hb => hb.elim) hG h).1 rfl)
   rw [show m + (ops.size - m) = ops.size by omega] at this
   exact this
  ·cases e <;> first | exact he | exact he.elim
 ·cases hm
end
end Go.Fx
namespace Go.Fx
open Go.RowKit
section
variable {P : Program} {X : Nat → Prop} {N : Nat}
theorem frz_in {cx : Cx} {a : Act} {w : World} {K : St → Prop} {ρ0 : Nat → Loc} {w0 : World} (xs : List Nat) (s : St) (h : frzP cx.fx xs s K) (hg : Good ρ0 X w0 cx.fx N s a w) : ∃ s', K s' ∧ Good ρ0 X w0 cx.fx N s' a w := frzP_good xs s h hg
theorem aw_sound (hP : P.follows .mixedOrders = true) : ∀ c : Code, SndC P X N c := by
 intro c
 induction c with
 | skip =>
  intro l0 l hm r cx ρ0 w0 hcx hrd hro hy Q Nn Xx Rr hQo hN hX hR s a w h hg
  simp only [rlC, yA] at hm
  subst hm
  exact wpIn_skip (hN s a w h hg)
 | ret =>
  intro l0 l hm r cx ρ0 w0 hcx hrd hro hy Q Nn Xx Rr hQo hN hX hR s a w h hg
  simp only [rlC, yA] at hm
  subst hm
  exact wpIn_ret (hR s a w h hg)
 | label i =>
  intro l0 l hm r cx ρ0 w0 hcx hrd hro hy Q Nn Xx Rr hQo hN hX hR s a w h hg
  simp only [rlC, yA] at hm
  subst hm
  exact wpIn_label (hN s a w h hg)
 | exit i =>
  intro l0 l hm r cx ρ0 w0 hcx hrd hro hy Q Nn Xx Rr hQo hN hX hR s a w h hg
  simp only [rlC, yA] at hm
  subst hm
  exact wpIn_exit (hX i s a w h hg)
 | region id ops draw =>
  intro l0 l hm r cx ρ0 w0 hcx hrd hro hy Q Nn Xx Rr hQo hN hX hR s a w h hg
  have hd : r = none ∨ ops.toList.all notDefer = true := hrd.imp (fun h => h) fun h => h.1
  simp only [rlC] at hm
  split at hm
  ·split at hm
   ·rename_i x hr
    simp only [yA] at hm
    subst hm
    exact wpIn_region_list (listIn hQo _ (hd.imp (fun h => h) fun h => yH.1 h) _ _ (aOps_sound hcx rfl hN _ _ _ _ a w hr (hg.reserve _ _) h))
   ·cases hm
  ·split at hm
   ·rename_i x hr
    split at hm
    ·rename_i hc
     simp only [yB] at hc
     simp only [yA] at hm
     subst hm
     rcases hrd with rfl | hrd
     ·exact (wpIn_wide (n := 0)).2 (qui_sound hP hN hr hc.1 hc.2 (hg.reserve _ _) h)
     ·exact absurd hrd.2 (by simp [inRd])
    ·cases hm
   ·cases hm
  ·split at hm
   ·rename_i x hr
    split at hm
    ·rename_i hc
     simp only [yB] at hc
     simp only [yA] at hm
     subst hm
     rcases hrd with rfl | hrd
     ·exact (wpIn_wide (n := 0)).2 (tail_sound hP hcx rfl hN hr hc.1 hc.2 (hg.reserve _ _) h)
     ·exact absurd hrd.2 (by simp [inRd])
    ·cases hm
   ·cases hm
  ·split at hm
   ·rename_i x hr
    simp only [yA] at hm
    subst hm
    exact tree_in hP hcx hQo hN hd hr (hg.reserve _ _) h
   ·cases hm
  ·split at hm
   ·rename_i x hr
    split at hm
    ·rename_i hc
     simp only [yA] at hm
     subst hm
     rcases hrd with rfl | hrd
     ·cases draw with
      | false => exact wpIn_region_list (aOpsY_sound hcx hy hN _ _ _ _ a w hr (hg.reserve _ _) h)
      | true =>
       simp only [Bool.not_true, Bool.false_or, yB] at hc
       exact yreg_in hP hcx hy hQo hN hr hc.1 hc.2 (hg.reserve _ _) h
     ·exact absurd hrd.2 (by simp [inRd])
    ·cases hm
   ·cases hm
  ·split at hm
   ·rename_i p' x hp hr
    split at hm
    ·rename_i hlt
     simp only [yA] at hm
     subst hm
     rcases hrd with rfl | hrd
     ·exact ytree_in hP hcx hy hQo hN hp hr hlt (hg.reserve _ _) h
     ·exact absurd hrd.2 (by simp [inRd])
    ·cases hm
   ·cases hm
  ·simp only [yA] at hm
   subst hm
   exact h.elim
  ·cases hm
 | seq a b iha ihb =>
  intro l0 l hm r cx ρ0 w0 hcx hrd hro hy Q Nn Xx Rr hQo hN hX hR s ac w h hg
  simp only [rlC] at hm
  split at hm
  ·split at hm
   ·rename_i x' y' h1 h2
    simp only [yA] at hm
    subst hm
    have hra : r = none ∨ (codeRd a = true ∧ inRd x' = true) := hrd.imp (fun h => h) fun h => by simp only [codeRd, inRd, yB] at h; exact ⟨h.1.1, h.2.1⟩
    have hrb : r = none ∨ (codeRd b = true ∧ inRd y' = true) := hrd.imp (fun h => h) fun h => by simp only [codeRd, inRd, yB] at h; exact ⟨h.1.2, h.2.2⟩
    refine wpIn_seq (iha _ _ h1 r cx ρ0 w0 hcx hra hro hy _ (fun s' => aw cx y' Nn Xx Rr s') Xx Rr (LetsOut_then hQo) ?_ ?_ ?_ s ac w h hg)
    ·intro s' a' w' h' hg'
     exact ihb _ _ h2 r cx ρ0 w0 hcx hrb hro hy Q Nn Xx Rr hQo hN hX hR s' a' w' h' hg'
    ·exact hX
    ·exact hR
   ·cases hm
  ·split at hm
   ·rename_i x' y' h1 h2
    simp only [yA] at hm
    subst hm
    have hra : r = none ∨ (codeRd a = true ∧ inRd x' = true) := hrd.imp (fun h => h) fun h => by simp only [codeRd, inRd, yB] at h; exact ⟨h.1.1, h.2.1⟩
    have hrb : r = none ∨ (codeRd b = true ∧ inRd y' = true) := hrd.imp (fun h => h) fun h => by simp only [codeRd, inRd, yB] at h; exact ⟨h.1.2, h.2.2⟩
    simp only [aw] at h
    obtain ⟨s1, h, hg⟩ := frz_in _ s h hg
    refine wpIn_seq (iha _ _ h1 r cx ρ0 w0 hcx hra hro hy _ (fun s' => aw cx y' Nn Xx Rr s') Xx Rr (LetsOut_then hQo) ?_ ?_ ?_ s1 ac w h hg)
    ·intro s' a' w' h' hg'
     exact ihb _ _ h2 r cx ρ0 w0 hcx hrb hro hy Q Nn Xx Rr hQo hN hX hR s' a' w' h' hg'
    ·exact hX
    ·exact hR
   ·cases hm
  ·simp only [yA] at hm
   subst hm
   exact h.elim
  ·cases hm
 | cond c a b iha ihb =>
  intro l0 l hm r cx ρ0 w0 hcx hrd hro hy Q Nn Xx Rr hQo hN hX hR s ac w h hg
  simp only [rlC] at hm
  split at hm
  ·split at hm
   ·rename_i x' y' h1 h2
    simp only [yA] at hm
    subst hm
    have hra : r = none ∨ (codeRd a = true ∧ inRd x' = true) := hrd.imp (fun h => h) fun h => by simp only [codeRd, inRd, yB] at h; exact ⟨h.1.1, h.2.1⟩
    have hrb : r = none ∨ (codeRd b = true ∧ inRd y' = true) := hrd.imp (fun h => h) fun h => by simp only [codeRd, inRd, yB] at h; exact ⟨h.1.2, h.2.2⟩
    simp only [aw] at h
    obtain ⟨t, ht, hA, hB⟩ := brV_inv h
    have hev : ac.eval c = .bool t := by
     obtain ⟨ρ, _, ⟨_, he⟩, _⟩ := hg
     have := ev_rep he c
     rw [ht] at this
     exact this
    refine wpIn_cond hev ?_
    cases t
    ·exact ihb _ _ h2 r cx ρ0 w0 hcx hrb hro hy Q Nn Xx Rr hQo hN hX hR s ac w (hB rfl) hg
    ·exact iha _ _ h1 r cx ρ0 w0 hcx hra hro hy Q Nn Xx Rr hQo hN hX hR s ac w (hA rfl) hg
   ·cases hm
  ·cases hm
 | block i a iha =>
  intro l0 l hm r cx ρ0 w0 hcx hrd hro hy Q Nn Xx Rr hQo hN hX hR s ac w h hg
  simp only [rlC] at hm
  split at hm
  ·split at hm
   ·rename_i x' h1
    simp only [yA] at hm
    subst hm
    refine wpIn_block (iha _ _ h1 r cx ρ0 w0 hcx hrd hro hy (Exit.inBlock i Q) Nn (fun j s' => if j = i then Nn s' else Xx j s') Rr (fun ⟨a, w, hq⟩ => hQo ⟨a, w, hq⟩) ?_ ?_ ?_ s ac w h hg)
    ·exact hN
    ·intro j s' a' w' h' hg'
     show if j = i then _ else _
     split at h'
     ·rename_i hj; rw [if_pos hj]; exact hN s' a' w' h' hg'
     ·rename_i hj; rw [if_neg hj]; exact hX j s' a' w' h' hg'
    ·exact hR
   ·cases hm
  ·cases hm
 | loop a iha =>
  intro l0 l hm r cx ρ0 w0 hcx hrd hro hy Q Nn Xx Rr hQo hN hX hR s ac w h hg
  simp only [rlC] at hm
  split at hm
  ·split at hm
   ·rename_i x' h1
    simp only [yA] at hm
    subst hm
    obtain ⟨G, pat, I, μ, L, hL, ⟨g, hI, hle⟩, hround⟩ := h
    refine wpIn_loop_ghost (fun n a w => ∃ g, (I g ∧ μ g = n) ∧ Good ρ0 X w0 cx.fx N (pat g) a w) (μ g) ⟨g, ⟨hI, rfl⟩, hg.leG hle⟩ ?_
    rintro n a' w' ⟨g', ⟨hI', rfl⟩, hg'⟩
    refine iha _ _ h1 r cx ρ0 w0 hcx hrd hro hy _ _ Xx Rr (LetsOut_then hQo) ?_ ?_ ?_ (pat g') a' w' (hround g' hI') hg'
    ·rintro s' a'' w'' ⟨g'', ⟨hI'', hlt⟩, hle''⟩ hg''
     exact ⟨μ g'', hlt, g'', ⟨hI'', rfl⟩, hg''.leG (hL _ _ hle'')⟩
    ·exact hX
    ·exact hR
   ·cases hm
  ·cases hm
 | rangeFunc g ps asg body iha ihb => exact rfn_ok iha ihb
 | scope c ih =>
  intro l0 l hm r cx ρ0 w0 hcx hrd hro hy Q Nn Xx Rr hQo hN hX hR s a w h hg
  simp only [rlC] at hm
  rcases hrd with rfl | hrd
  ·exact (wpIn_wide (n := 0)).2 (wp_scope_straight ((wpIn_wide (n := 0)).1 (ih l0 l hm none cx ρ0 w0 hcx (.inl rfl) hro hy (Exit.noGoto Q) Nn Xx Rr (fun ⟨a, w, hq⟩ => hQo ⟨a, w, hq⟩) hN hX hR s a w h hg)))
  ·exact absurd hrd.1 (by simp [codeRd])
 | _ => intro l0 l hm; simp [rlC] at hm
end
end Go.Fx
namespace Go.Fx
open Go.RowKit
section
variable {X : Nat → Prop} {ρ : Nat → Loc} {w w' : World}
mutual
theorem RepD_cell {S S' : Nat → Prop} (hS : ∀ b, S b → S' b) (hc : ∀ b o, w'.cell? ⟨b, o, none⟩ = w.cell? ⟨b, o, none⟩) : ∀ (x : V) (val : Value), RepD S w x val → RepD S' w' x val
 | .v _, _, h => h
 | .ro sz els, val, h => by
  obtain ⟨a, len, cap, h1, h2, h3, h4, h5⟩ := h
  refine ⟨a, len, cap, h1, h2, h3, h4, h5.imp id ?_⟩
  rintro ⟨b, off, h6, h7, h8⟩
  exact ⟨b, off, h6, hS b h7, RepEls_cell hS hc sz b off els h8⟩
 | .any, _, h | .bro _ _, _, h | .full _ _, _, h | .sl _ _ _, _, h | .ptr _ _ _, _, h | .rp _ _ _ _, _, h | .agg _, _, h | .tup _, _, h | .clo _ _, _, h | .mp _, _, h | .itr _, _, h => h.elim
theorem RepEls_cell {S S' : Nat → Prop} (hS : ∀ b, S b → S' b) (hc : ∀ b o, w'.cell? ⟨b, o, none⟩ = w.cell? ⟨b, o, none⟩) (sz b : Nat) : ∀ (off : Nat) (els : List (List V)), RepEls S w sz b off els → RepEls S' w' sz b off els
 | _, [], _ => trivial
 | off, e :: r, h => ⟨⟨h.1.1, RepCs_cell hS hc b off e h.1.2⟩, RepEls_cell hS hc sz b (off + sz) r h.2⟩
theorem RepCs_cell {S S' : Nat → Prop} (hS : ∀ b, S b → S' b) (hc : ∀ b o, w'.cell? ⟨b, o, none⟩ = w.cell? ⟨b, o, none⟩) (b : Nat) : ∀ (off : Nat) (cs : List V), RepCs S w b off cs → RepCs S' w' b off cs
 | _, [], _ => trivial
 | off, x :: r, h => ⟨by obtain ⟨⟨val, h1, h2⟩, _⟩ := h; exact ⟨val, (hc b off).trans h1, RepD_cell hS hc x val h2⟩, RepCs_cell hS hc b (off + 1) r h.2⟩
end
mutual
theorem RepV_cell (hs : w'.heap.size = w.heap.size) (hc : ∀ b o, w'.cell? ⟨b, o, none⟩ = w.cell? ⟨b, o, none⟩) : ∀ (x : V) (val : Value), RepV ρ X w x val → RepV ρ X w' x val
 | .any, _, _ => trivial
 | .v _, _, h => h
 | .ro sz els, val, h => RepD_cell (fun b hb => ⟨hs ▸ hb.1, hb.2⟩) hc (.ro sz els) val h
 | .bro sz els, val, h => by
  obtain ⟨a, len, cap, h1, h2, h3, h4, h5⟩ := h
  refine ⟨a, len, cap, h1, h2, h3, h4, h5.imp id ?_⟩
  rintro ⟨b, off, h6, h7, h8⟩
  exact ⟨b, off, h6, ⟨hs ▸ h7.1, h7.2⟩, RepEls_cell (fun b hb => ⟨hs ▸ hb.1, hb.2⟩) hc sz b off els h8⟩
 | .full sz els, val, h => by
  obtain ⟨a, len, h1, h2, h4, h5⟩ := h
  refine ⟨a, len, h1, h2, h4, h5.imp id ?_⟩
  rintro ⟨b, off, h6, h7, h8⟩
  exact ⟨b, off, h6, ⟨hs ▸ h7.1, h7.2⟩, RepEls_cell (fun b hb => ⟨hs ▸ hb.1, hb.2⟩) hc sz b off els h8⟩
 | .sl _ _ _, _, h => h
 | .ptr _ _ _, _, h => h
 | .rp sz els i f, val, h => by
  obtain ⟨b, off, h6, h7, h8⟩ := h
  exact ⟨b, off, h6, ⟨hs ▸ h7.1, h7.2⟩, RepEls_cell (fun b hb => ⟨hs ▸ hb.1, hb.2⟩) hc sz b off els h8⟩
 | .agg cs, val, h => by
  obtain ⟨arr, h1, h2⟩ := h
  exact ⟨arr, h1, RepL_cell hs hc cs arr.toList h2⟩
 | .tup cs, val, h => by
  obtain ⟨arr, h1, h2⟩ := h
  exact ⟨arr, h1, RepL_cell hs hc cs arr.toList h2⟩
 | .clo f cs, val, h => by
  obtain ⟨arr, h1, h2⟩ := h
  exact ⟨arr, h1, RepL_cell hs hc cs arr.toList h2⟩
 | .mp _, _, h => h
 | .itr _, _, h => h
theorem RepL_cell (hs : w'.heap.size = w.heap.size) (hc : ∀ b o, w'.cell? ⟨b, o, none⟩ = w.cell? ⟨b, o, none⟩) : ∀ (xs : List V) (vs : List Value), RepL ρ X w xs vs → RepL ρ X w' xs vs
 | [], [], _ => trivial
 | x :: r, u :: us, h => ⟨RepV_cell hs hc x u h.1, RepL_cell hs hc r us h.2⟩
 | [], _ :: _, h => h.elim
 | _ :: _, [], h => h.elim
end
theorem RepB_cell (hs : w'.heap.size = w.heap.size) (hc : ∀ b o, w'.cell? ⟨b, o, none⟩ = w.cell? ⟨b, o, none⟩) {k : Nat} (hb : (ρ k).real = true → w'.heap[(ρ k).blk]? = w.heap[(ρ k).blk]?) {B : Blk} (h : RepB ρ X w k B) : RepB ρ X w' k B := by
 cases B with
 | dead => exact h
 | arr sz els =>
  refine ⟨h.1, h.2.imp id ?_⟩
  rintro ⟨h1, c, T, h2, h3, h4, h5⟩
  exact ⟨h1, c, T, (hb h1).trans h2, h3, h4, RepEls_cell (fun b hb => ⟨hs ▸ hb.1, hb.2⟩) hc sz _ _ _ h5⟩
 | var cs =>
  obtain ⟨h1, c, T, h2, h3⟩ := h
  exact ⟨h1, c, T, (hb h1.1).trans h2, RepL_cell hs hc _ _ h3.1, h3.2⟩
 | arv sz els =>
  obtain ⟨h0, h1, c, T, h2, h3, h4, h5⟩ := h
  refine ⟨h0, h1, c, T, (hb h1).trans h2, h3, h4, fun i e he => ⟨(h5 i e he).1, fun f x hx => ?_⟩⟩
  obtain ⟨u, h6, h7⟩ := (h5 i e he).2 f x hx
  exact ⟨u, h6, RepV_cell hs hc _ _ h7⟩
 | map es cl =>
  obtain ⟨h1, arr, h2, h3, h4⟩ := h
  exact ⟨h1, arr, (hb h1.1).trans h2, h3, RepL_cell hs hc _ _ h4⟩
 | it m s sn l =>
  obtain ⟨h1, x, h2, h3⟩ := h
  exact ⟨h1, x, (hb h1.1).trans h2, RepV_cell hs hc _ _ h3⟩
 | rcd t e => exact ⟨recOk_mono hb h.1, fun i => RepV_cell hs hc _ _ (h.2 i)⟩
variable {ρ0 : Nat → Loc} {w0 : World} {fx : List Nat} {N : Nat}
theorem Good.takeD {s : St} {a : Act} {w : World} {D : Nat} {ds : List Deferred} (hg : Good ρ0 X w0 fx N s a w) (hd : a.defers = markOf D :: ds) :
  w.heap[D]? = some (.deferred (some [])) ∧ Good ρ0 X w0 fx N s { a with defers := ds } (w.putObj D (.deferred none)) := by
 obtain ⟨ρ, ⟨⟨hf, h1⟩, hk⟩, ⟨hr, he⟩, h5, Ds, ⟨hDs, hnd⟩, hM⟩ := hg
 rw [hd] at hDs
 cases Ds with
 | nil => simp at hDs
 | cons D' Ds =>
  simp only [yV, yQ, markOf, Deferred.mk.injEq, Target.collected.injEq, and_true] at hDs
  obtain ⟨rfl, hDs⟩ := hDs
  obtain ⟨⟨g1, g2⟩, g3, g4⟩ := hM D yF
  refine ⟨g4, ?_⟩
  have hoth : ∀ b, b ≠ D → (w.putObj D (.deferred none)).heap[b]? = w.heap[b]? := fun b hb => World.putObj_heap_other hb
  have hs : (w.putObj D (.deferred none)).heap.size = w.heap.size := World.putObj_size
  have hc : ∀ b o, (w.putObj D (.deferred none)).cell? ⟨b, o, none⟩ = w.cell? ⟨b, o, none⟩ := by
   intro b o
   by_cases hb : b = D
   ·subst hb
    simp [World.cell?, World.putObj_heap_same g2, g4]
   ·exact cell_of_heap (hoth b hb)
  have hown : ∀ k, (ρ k).real = true → (ρ k).blk ≠ D := fun k hk e => g3 ⟨k, hk, e⟩
  refine ⟨ρ, ⟨⟨⟨hf.os, hf.tape, hf.output, by rw [hs]; exact hf.size, fun b hb ho => ⟨(hoth b (by omega)).trans (hf.keep b hb ho).1, (hf.keep b hb ho).2⟩⟩, h1⟩, hk⟩,
   ⟨⟨hr.inj, hr.out, fun k B hB => RepB_cell hs hc (fun hk => hoth _ (hown k hk)) (hr.blk k B hB), hr.disj, fun k hk => by rw [hs]; exact hr.lt k hk, fun b hb => by rw [hs]; exact hr.xlt b hb⟩, fun i => RepV_cell hs hc _ _ (he i)⟩,
   h5, Ds, ⟨hDs, (yU.1 hnd).2⟩, fun E hE => ?_⟩
  obtain ⟨⟨k1, k2⟩, k3, k4⟩ := hM E (yC _ hE)
  have hne : E ≠ D := fun e => (yU.1 hnd).1 (e ▸ hE)
  exact ⟨⟨k1, by rw [hs]; exact k2⟩, k3, (hoth E hne).trans k4⟩
theorem leaves_of {P : Program} {fn : Func} {R : Ending → World → Prop} {s : St} (hend : ∀ (a : Act) (w : World), Good ρ0 X w0 fx N s a w → ∃ v, (results fn a.tmps).run P w = .ok v w ∧ R (.returned v) w) :
  ∀ (ds : List Deferred) (a : Act) (w : World), a.defers = ds → Good ρ0 X w0 fx N s a w → LeavesInM Fence.wide 0 P fn a.tmps R ds .returning w
 | [], a, w, _, hg => hend a w hg
 | d :: ds, a, w, hd, hg => by
  have hg' := hg
  obtain ⟨ρ, _, _, _, Ds, ⟨hDs, _⟩, _⟩ := hg'
  rw [hd] at hDs
  cases Ds with
  | nil => simp at hDs
  | cons D Ds =>
   simp only [yV, yQ] at hDs
   obtain ⟨rfl, hDs⟩ := hDs
   obtain ⟨h1, h2⟩ := hg.takeD hd
   exact ⟨by simp, .inl ⟨D, _, rfl, run_takeDeferred h1, leaves_of hend ds { a with defers := ds } _ rfl h2⟩⟩
end
end Go.Fx
namespace Go.Fx
open Go.RowKit
def rlRes1 (P : Program) : ResultVar → Option LRes
 | .tmp t => some (.tmp t)
 | .cell a t => match P.info? t, P.underlying t with
  | some i, some d => some (.cell a (if d.isRow then some i.size else none))
  | _, _ => none
def rlRes (P : Program) : List ResultVar → Option (List LRes)
 | [] => some []
 | r :: rs => match rlRes1 P r, rlRes P rs with
  | some x, some xs => some (x :: xs)
  | _, _ => none
def resRun (tmps : Array Value) : ResultVar → Sem Value
 | .tmp t => pure (tmps.getD t undef)
 | .cell a t => do loadVar t (← asAddr (tmps.getD a undef))
def tupU : List Value → Value
 | [u] => u
 | us => .tuple us.toArray
section
variable {P : Program} {ρ : Nat → Loc} {X : Nat → Prop} {w : World}
def ResL (P : Program) (w : World) (tmps : Array Value) : List ResultVar → List Value → Prop
 | [], [] => True
 | r :: rs, u :: us => (resRun tmps r).run P w = .ok u w ∧ ResL P w tmps rs us
 | _, _ => False
theorem results_run {fn : Func} {tmps : Array Value} {us : List Value} (hn : fn.results.toList.length ≤ 4) (h : ResL P w tmps fn.results.toList us) :
  (results fn tmps).run P w = .ok (tupU us) w := by
 have hr : fn.results = fn.results.toList.toArray := by simp
 have hres : results fn tmps = (do
   let vs ← fn.results.toList.toArray.mapM (resRun tmps)
   pure (if h : vs.size = 1 then vs[0] else .tuple vs)) := by
  unfold results
  rw [← hr]
  congr 1
 rw [hres]
 generalize fn.results.toList = l at h hn
 match l, us, h, hn with
 | [], [], _, _ => simp [tupU]
 | [a], [u], ⟨h1, _⟩, _ => simp [h1, tupU]
 | [a, b], [u, v], ⟨h1, h2, _⟩, _ => simp [h1, h2, tupU]
 | [a, b, c], [u, v, x], ⟨h1, h2, h3, _⟩, _ => simp [h1, h2, h3, tupU]
 | [a, b, c, d], [u, v, x, y], ⟨h1, h2, h3, h4, _⟩, _ => simp [h1, h2, h3, h4, tupU]
 | _ :: _ :: _ :: _ :: _ :: _, _, _, hn => simp at hn
 | [], _ :: _, h, _ => exact h.elim
 | [_], [], h, _ => exact h.elim
 | [_], _ :: _ :: _, h, _ => exact h.2.elim
 | [_, _], [], h, _ => exact h.elim
 | [_, _], [_], h, _ => exact h.2.elim
 | [_, _], _ :: _ :: _ :: _, h, _ => exact h.2.2.elim
 | [_, _, _], [], h, _ => exact h.elim
 | [_, _, _], [_], h, _ => exact h.2.elim
 | [_, _, _], [_, _], h, _ => exact h.2.2.elim
 | [_, _, _], _ :: _ :: _ :: _ :: _, h, _ => exact h.2.2.2.elim
 | [_, _, _, _], [], h, _ => exact h.elim
 | [_, _, _, _], [_], h, _ => exact h.2.elim
 | [_, _, _, _], [_, _], h, _ => exact h.2.2.elim
 | [_, _, _, _], [_, _, _], h, _ => exact h.2.2.2.elim
 | [_, _, _, _], _ :: _ :: _ :: _ :: _ :: _, h, _ => exact h.2.2.2.2.elim
theorem resP_run {h : List Blk} {e : Env} {tmps : Array Value} (hr : Rep ρ X w h) (he : RepE ρ X w e tmps) {K : List V → Prop} :
  ∀ (rs : List ResultVar) (ls : List LRes) (acc : List V) (us : List Value), rlRes P rs = some ls → RepL ρ X w acc us → resP h e ls acc K →
   ∃ xs vs, K (acc.reverse ++ xs) ∧ RepL ρ X w xs vs ∧ ResL P w tmps rs vs
 | [], ls, acc, us, hm, ha, hk => by
  simp only [rlRes, yA] at hm
  subst hm
  exact ⟨[], [], by simpa [resP] using hk, trivial, trivial⟩
 | r :: rs, ls, acc, us, hm, ha, hk => by
  simp only [rlRes] at hm
  split at hm
  ·rename_i x xs hx hxs
   simp only [yA] at hm
   subst hm
   cases r with
   | tmp t =>
    simp only [rlRes1, yA] at hx
    subst hx
    obtain ⟨ys, vs, h1, h2, h3⟩ := resP_run hr he rs xs (get e t :: acc) (tmps.getD t undef :: us) hxs ⟨he t, ha⟩ hk
    exact ⟨get e t :: ys, tmps.getD t undef :: vs, by simpa using h1, ⟨he t, h2⟩, rfl, h3⟩
   | cell a t =>
    simp only [rlRes1] at hx
    split at hx
    ·rename_i inf d hi hu
     simp only [yA] at hx
     subst hx
     simp only [resP] at hk
     obtain ⟨y, val, h1, h2, h3⟩ := load_run hr hi hu rfl (he a) hk
     obtain ⟨ys, vs, h4, h5, h6⟩ := resP_run hr he rs xs (y :: acc) (val :: us) hxs ⟨h2, ha⟩ h1
     refine ⟨y :: ys, val :: vs, by simpa using h4, ⟨h2, h5⟩, ?_, h6⟩
     have h7 := h3 w (Ext.refl w)
     have hp := he a
     have hptr : ∃ ad, tmps.getD a undef = .pointer (some ad) := by
      revert hk
      unfold loadP
      split
      ·rename_i k i f hv; intro _; rw [hv] at hp; exact ⟨_, hp.2⟩
      ·rename_i sz els i f hv; intro _; rw [hv] at hp; obtain ⟨b, off, h8, _⟩ := hp; exact ⟨_, h8⟩
      ·intro hk; exact hk.elim
     obtain ⟨ad, had⟩ := hptr
     rw [had] at h7
     simp only [resRun, had, asAddr, Sem.run_bind, Sem.run_pure, Result.andThen_ok]
     simpa [Instr.loadAt, Instr.sureAddr] using h7
    ·cases hx
  ·cases hm
theorem tup_rep {xs : List V} {us : List Value} (h : RepL ρ X w xs us) : RepV ρ X w (tupV xs) (tupU us) := by
 match xs, us, h with
 | [], [], _ => exact ⟨#[], rfl, trivial⟩
 | [x], [u], h => exact h.1
 | x :: y :: r, u :: v :: s, h => exact ⟨(u :: v :: s).toArray, rfl, h⟩
 | [_], _ :: _ :: _, h => exact h.2.elim
 | _ :: _ :: _, [_], h => exact h.2.elim
 | [], _ :: _, h => exact h.elim
 | _ :: _, [], h => exact h.elim
theorem args0_get : ∀ (i : Nat) (xs : List V) (j : Nat), get (args0 i xs) j = if i ≤ j then (xs[j - i]?).getD .any else .any
 | i, [], j => by simp [args0, get]
 | i, x :: r, j => by
  simp only [args0, get]
  by_cases h : j = i
  ·subst h; simp
  ·rw [if_neg h, args0_get (i + 1) r j]
   by_cases h2 : i + 1 ≤ j
   ·rw [if_pos h2, if_pos (by omega)]
    rw [show j - i = (j - (i + 1)) + 1 by omega]
    simp
   ·rw [if_neg h2, if_neg (by omega)]
theorem args0_rep {xs : List V} {vals : List Value} (h : RepL ρ X w xs vals) (n : Nat) : RepE ρ X w (args0 0 xs) (vals.toArray ++ yJ n undef) := by
 intro i
 rw [args0_get]
 simp only [Nat.zero_le, if_true, Nat.sub_zero]
 cases hx : xs[i]? with
 | none => trivial
 | some x =>
  obtain ⟨v, h1, h2⟩ := RepL_get h hx
  have hi : i < vals.length := (yE.1 h1).1
  have : (vals.toArray ++ yJ n undef).getD i undef = v := by
   rw [yS, Array.getElem?_append_left (by simpa using hi)]
   simp [h1]
  rw [this]
  exact h2
theorem Fn_of (hP : P.follows .mixedOrders = true) {cx : Cx} (hcx : cx.ok P) {f : FuncId} {fn : Func} {c : Code} {l0 l : LCode} {rs : List LRes} (hf : P.funcs[f]? = some fn) (hb : fn.body = some c)
  (hm : rlC P fn.ntmps c l0 = some l) (hres : rlRes P fn.results.toList = some rs) (h4 : fn.results.toList.length ≤ 4) {args : List V} {h0 : List Blk} {mv : List Nat} {R : V → List Blk → Prop}
  (hlen : args.length ≤ fn.ntmps) (hfx : keepP cx.fx h0) (hmv : ∀ k, k < h0.length → k ∉ mv → k ∈ cx.fx)
  (h : aw cx l (retP cx.fx h0.length rs R) (fun _ _ => False) (retP cx.fx h0.length rs R) ⟨args0 0 args, h0, 0⟩) (hy : cx.y = fun _ _ _ _ => False := by rfl) (hk : cx.rk = none := by rfl) : Fn P f args h0 mv R := by
 intro ρ X w vals hr ha
 have hvl := RepL_len ha
 refine (callsIn_wide (n := 0)).1 (callsIn_of_wp_marks hf hb trivial ?_)
 have hg : Good ρ X w cx.fx fn.ntmps ⟨args0 0 args, h0, 0⟩ { tmps := vals.toArray ++ yJ (fn.ntmps - vals.toArray.size) undef, defers := [] } w :=
  ⟨ρ, ⟨⟨Fr.refl _ _, fun _ _ => rfl⟩, hfx⟩, ⟨hr, args0_rep ha _⟩, by simp; omega, Marks.nil⟩
 have hend : ∀ s, retP cx.fx h0.length rs R s → ∀ a w', Good ρ X w cx.fx fn.ntmps s a w' → ∃ v, (results fn a.tmps).run P w' = .ok v w' ∧ ∃ val r h' ρ', Ending.returned v = .returned val ∧ (R r h' ∧ h0.length ≤ h'.length) ∧ Fr ρ w ρ' w' ∧ Rep ρ' X w' h' ∧ RepV ρ' X w' r val ∧
   ∀ k, k < h0.length → k ∉ mv → ρ' k = ρ k := by
  intro s hret a w' hgood
  obtain ⟨ρ', ⟨⟨hf1, hfx1⟩, hk1⟩, ⟨hr1, he1⟩, hN1, hd1⟩ := hgood
  obtain ⟨xs, vs, h5, h6, h7⟩ := resP_run hr1 he1 fn.results.toList rs [] [] hres trivial hret
  obtain ⟨p, ⟨h8, h9, h10, h11, h12⟩, h13⟩ := h5
  refine ⟨tupU vs, results_run h4 h7, _, _, p, dropLoc ρ' p, rfl, ⟨h13, h10⟩, hf1.trans drop_fr, dropRep hr1 h8 h12, ?_, fun k hk hkm => ?_⟩
  ·exact drop_rep _ _ h11 (tup_rep (by simpa using h6))
  ·have hkf := hmv k hk hkm
   rw [live_loc (keepP_get h9 k hkf)]
   exact hfx1 k hkf
 refine aw_sound (P := P) (X := X) (N := fn.ntmps) hP c l0 l hm none cx ρ w hcx (.inl rfl) (by unfold ROk; rw [hk]; trivial) (fun k => by rw [hy]; exact YOk_none) _ (retP cx.fx h0.length rs R) (fun _ _ => False) (retP cx.fx h0.length rs R) ?_ ?_ (fun _ _ _ _ hx _ => hx.elim) ?_ _ _ _ h hg
 ·rintro ⟨a, w', val, _, _, _, hq, _⟩
  cases hq
 ·intro s a w' hret hgood
  exact leaves_of (hend s hret) a.defers a w' rfl hgood
 ·intro s a w' hret hgood
  exact leaves_of (hend s hret) a.defers a w' rfl hgood
theorem Iter_of (hP : P.follows .mixedOrders = true) {cx : Cx} (hcx : cx.ok P) {f : FuncId} {fn : Func} {c : Code} {l0 l : LCode} (hf : P.funcs[f]? = some fn) (hb : fn.body = some c)
  (hm : rlC P fn.ntmps c l0 = some l) (hres : rlRes P fn.results.toList = some []) {args : List V} {h0 : List Blk} {k : Nat} {Y : Yt} {K : List Blk → Prop}
  (hlen : args.length ≤ fn.ntmps) (h : aw cx l (fun s => K s.h) (fun _ _ => False) (fun s => K s.h) ⟨args0 0 args, h0, 0⟩) (hy : cx.y = fun k' xs s Z => k' = k ∧ Y xs s Z) (hk : cx.rk = none := by rfl) : Iter P f args cx.fx k Y h0 K := by
 intro ρ X w vals hr ha hfx hY
 have hvl := RepL_len ha
 have hnil : fn.results.toList = [] := by
  cases hl : fn.results.toList with
  | nil => rfl
  | cons r rs =>
   rw [hl] at hres
   simp only [rlRes] at hres
   split at hres <;> simp at hres
 refine (callsIn_wide (n := 0)).1 (callsIn_of_wp_marks hf hb trivial ?_)
 have hg : Good ρ X w cx.fx fn.ntmps ⟨args0 0 args, h0, 0⟩ { tmps := vals.toArray ++ yJ (fn.ntmps - vals.toArray.size) undef, defers := [] } w :=
  ⟨ρ, ⟨⟨Fr.refl _ _, fun _ _ => rfl⟩, hfx⟩, ⟨hr, args0_rep ha _⟩, by simp; omega, Marks.nil⟩
 have hend : ∀ s, K s.h → ∀ a w', Good ρ X w cx.fx fn.ntmps s a w' → ∃ v, (results fn a.tmps).run P w' = .ok v w' ∧ ∃ val h' ρ', Ending.returned v = .returned val ∧ K h' ∧ (Fr ρ w ρ' w' ∧ Rep ρ' X w' h') ∧ (∀ j ∈ cx.fx, ρ' j = ρ j) ∧ keepP cx.fx h' := by
  intro s hK a w' hgood
  obtain ⟨ρ', ⟨⟨hf1, hfx1⟩, hk1⟩, ⟨hr1, he1⟩, hN1, hd1⟩ := hgood
  exact ⟨tupU [], results_run (us := []) (by rw [hnil]; simp) (by rw [hnil]; trivial), _, s.h, ρ', rfl, hK, ⟨hf1, hr1⟩, hfx1, hk1⟩
 refine aw_sound (P := P) (X := X) (N := fn.ntmps) hP c l0 l hm none cx ρ w hcx (.inl rfl) (by unfold ROk; rw [hk]; trivial) (fun k' => ?_) _ (fun s => K s.h) (fun _ _ => False) (fun s => K s.h) ?_ ?_ (fun _ _ _ _ hx _ => hx.elim) ?_ _ _ _ h hg
 ·rw [hy]
  intro ρ1 w1 s tmps xs vs Z h1 h2 h3 h5 h6 h7
  obtain ⟨rfl, h7⟩ := h7
  exact hY ρ1 w1 s tmps xs vs Z h1 h2 h3 h5 h6 h7
 ·rintro ⟨a, w', val, _, _, hq, _⟩
  cases hq
 ·intro s a w' hret hgood
  exact leaves_of (hend s hret) a.defers a w' rfl hgood
 ·intro s a w' hret hgood
  exact leaves_of (hend s hret) a.defers a w' rfl hgood
def rlF (P : Program) (f : FuncId) (l0 : LCode) : Option (LCode × List LRes × Nat) :=
 match P.funcs[f]? with
 | some fn => match fn.body, rlRes P fn.results.toList, decide (fn.results.toList.length ≤ 4) && !(fn.name == "runtime.NumGoroutine") with
  | some c, some rs, true => (rlC P fn.ntmps c l0).map fun l => (l, rs, fn.ntmps)
  | _, _, _ => none
 | none => none
theorem rlF_callable {P : Program} {f : FuncId} {l0 l : LCode} {rs : List LRes} {nt : Nat} (h : rlF P f l0 = some (l, rs, nt)) : Callable P f := by
 unfold rlF at h
 split at h
 ·rename_i fn hf
  split at h
  ·rename_i c rs' hb hr ht
   simp only [yB, yZ, decide_eq_true_eq] at ht
   exact ⟨fn, hf, ht.2, by simp [hb]⟩
  ·cases h
 ·cases h
theorem Fn_rl {P : Program} (hP : P.follows .mixedOrders = true) {cx : Cx} (hcx : cx.ok P) {f : FuncId} {l0 l : LCode} {rs : List LRes} {nt : Nat} (hl : rlF P f l0 = some (l, rs, nt))
  {args : List V} {h0 : List Blk} {mv : List Nat} {R : V → List Blk → Prop} (hlen : args.length ≤ nt) (hfx : keepP cx.fx h0) (hmv : ∀ k, k < h0.length → k ∉ mv → k ∈ cx.fx)
  (h : aw cx l (retP cx.fx h0.length rs R) (fun _ _ => False) (retP cx.fx h0.length rs R) ⟨args0 0 args, h0, 0⟩) (hy : cx.y = fun _ _ _ _ => False := by rfl) (hk : cx.rk = none := by rfl) : Fn P f args h0 mv R := by
 unfold rlF at hl
 split at hl
 ·rename_i fn hf
  split at hl
  ·rename_i c rs' hb hr ht
   simp only [yB, yZ, decide_eq_true_eq] at ht
   cases hm : rlC P fn.ntmps c l0 with
   | none => simp [hm] at hl
   | some l1 =>
    simp only [hm, Option.map_some, yA, Prod.mk.injEq] at hl
    obtain ⟨rfl, rfl, rfl⟩ := hl
    exact Fn_of hP hcx hf hb hm hr ht.1 hlen hfx hmv h hy hk
  ·cases hl
 ·cases hl
theorem Iter_rl {P : Program} (hP : P.follows .mixedOrders = true) {cx : Cx} (hcx : cx.ok P) {f : FuncId} {l0 l : LCode} {nt : Nat} (hl : rlF P f l0 = some (l, [], nt))
  {args : List V} {h0 : List Blk} {k : Nat} {Y : Yt} {K : List Blk → Prop} (hlen : args.length ≤ nt)
  (h : aw cx l (fun s => K s.h) (fun _ _ => False) (fun s => K s.h) ⟨args0 0 args, h0, 0⟩) (hy : cx.y = fun k' xs s Z => k' = k ∧ Y xs s Z) (hk : cx.rk = none := by rfl) : Iter P f args cx.fx k Y h0 K := by
 unfold rlF at hl
 split at hl
 ·rename_i fn hf
  split at hl
  ·rename_i c rs' hb hr ht
   cases hm : rlC P fn.ntmps c l0 with
   | none => simp [hm] at hl
   | some l1 =>
    simp only [hm, Option.map_some, yA, Prod.mk.injEq] at hl
    obtain ⟨rfl, rfl, rfl⟩ := hl
    exact Iter_of hP hcx hf hb hm hr hlen h hy hk
  ·cases hl
 ·cases hl
end
end Go.Fx
namespace Go.Fx
open Go.RowKit Go.ChangeShapes Go.WideShapes
def WfV : T → V → Prop
 | .st fs, x => ∃ cs, WfTs fs cs ∧ x = .agg cs
 | .int k, x => WfT (.int k) [x]
 | .bool, x => WfT .bool [x]
 | .str, x => WfT .str [x]
 | .sl sz e, x => WfT (.sl sz e) [x]
def WfA : List T → List V → Prop
 | [], xs => xs = []
 | t :: ts, xs => ∃ x r, xs = x :: r ∧ WfV t x ∧ WfA ts r
def tysA (P : Program) : List TypeId → Option (List T)
 | [] => some []
 | t :: ts => match tyOf P 20 t, tysA P ts with
  | some x, some r => some (x :: r)
  | _, _ => none
def rho0 : Nat → Loc := fun _ => ⟨false, 0, 0, 0, 0, default⟩
theorem rho0_own (b : Nat) : ¬ Own rho0 b := fun ⟨_, h, _⟩ => by simp [rho0] at h
theorem rho0_rep (w : World) : Rep rho0 (fun _ => False) w [] :=
 ⟨fun j k _ h => by simp [rho0] at h, fun _ _ => rfl, fun k b h => by simp at h, fun _ h => (rho0_own _ h).elim, fun k h => by simp [rho0] at h, fun _ h => h.elim⟩
section
variable {P : Program} {w : World} {ρ : Nat → Loc} {X : Nat → Prop}
theorem RepD_V : ∀ {x : V} {u : Value}, RepD (Sta ρ X w) w x u → RepV ρ X w x u
 | .v _, _, h => h.1
 | .ro _ _, _, h => h
 | .any, _, h | .bro _ _, _, h | .full _ _, _, h | .sl _ _ _, _, h | .ptr _ _ _, _, h | .rp _ _ _ _, _, h | .agg _, _, h | .tup _, _, h | .clo _ _, _, h | .mp _, _, h | .itr _, _, h => h.elim
theorem RepDs_L : ∀ {xs : List V} {us : List Value}, RepDs (Sta ρ X w) w xs us → RepL ρ X w xs us
 | [], [], _ => trivial
 | _ :: _, _ :: _, h => ⟨RepD_V h.1, RepDs_L h.2⟩
 | [], _ :: _, h => h.elim
 | _ :: _, [], h => h.elim
theorem cells_one {v u : Value} (h : v.cells.toList = [u]) (hn : ∀ cs, v ≠ .agg cs) : u = v := by
 cases v <;> simp_all [Value.cells]
variable {H : Type} {enc : TypeId × Value → H} {base : Nat} {spare : Nat → Bool} {held : Bool}
theorem arg_rep {n : Nat} {t : TypeId} {ty : T} {v : Value} {r : Reach} {b : Nat} {d : DataW H} {p : List MemPlace} (hS : ∀ b, b < w.heap.size → Sta ρ X w b) (ht : tyOf P n t = some ty)
  (hok : Value.okWide P w r b t v) (h : DataW.Trod enc P w base spare held t v d p) : ∃ x, WfV ty x ∧ RepV ρ X w x v := by
 obtain ⟨fuel, h⟩ := h
 obtain ⟨xs, h1, h2⟩ := trod_rep hS fuel n t ty _ _ ht h
 cases n with
 | zero => simp [tyOf] at ht
 | succ n =>
  unfold Value.okWide at hok
  simp only [tyOf] at ht
  split at ht
  ·rename_i hu
   simp only [yA] at ht
   subst ht
   obtain ⟨c, rfl⟩ := h1
   have hl := RepDs_len h2
   obtain ⟨u, hu'⟩ : ∃ u, v.cells.toList = [u] := yT.1 hl.symm
   have hv := cells_one hu' (fun cs hc => by subst hc; simp [hu, Cell.okWide, Cell.ok] at hok)
   subst hv
   rw [hu'] at h2
   exact ⟨_, ⟨c, rfl⟩, RepD_V h2.1⟩
  ·rename_i k hu
   simp only [yA] at ht
   subst ht
   obtain ⟨c, rfl, hc⟩ := h1
   have hl := RepDs_len h2
   obtain ⟨u, hu'⟩ : ∃ u, v.cells.toList = [u] := yT.1 hl.symm
   have hv := cells_one hu' (fun cs hc => by subst hc; simp [hu, Cell.okWide, Cell.ok] at hok)
   subst hv
   rw [hu'] at h2
   exact ⟨_, ⟨c, rfl, hc⟩, RepD_V h2.1⟩
  ·rename_i hu
   simp only [yA] at ht
   subst ht
   obtain ⟨c, rfl, hc⟩ := h1
   have hl := RepDs_len h2
   obtain ⟨u, hu'⟩ : ∃ u, v.cells.toList = [u] := yT.1 hl.symm
   have hv := cells_one hu' (fun cs hc => by subst hc; simp [hu, Cell.okWide, Cell.ok] at hok)
   subst hv
   rw [hu'] at h2
   exact ⟨_, ⟨c, rfl, hc⟩, RepD_V h2.1⟩
  ·rename_i e hu
   split at ht
   ·rename_i te _
    split at ht
    ·simp only [yA] at ht
     subst ht
     obtain ⟨c, rfl, hc⟩ := h1
     have hl := RepDs_len h2
     obtain ⟨u, hu'⟩ : ∃ u, v.cells.toList = [u] := yT.1 hl.symm
     have hv := cells_one hu' (fun cs hc => by subst hc; simp [hu, Cell.okWide, Cell.ok] at hok)
     subst hv
     rw [hu'] at h2
     exact ⟨_, ⟨c, rfl, hc⟩, RepD_V h2.1⟩
    ·cases ht
   ·cases ht
  ·rename_i fs hu
   split at ht
   ·split at ht
    ·simp only [yA] at ht
     subst ht
     simp only [hu] at hok
     obtain ⟨cs, rfl, _⟩ := hok
     exact ⟨.agg xs, ⟨xs, h1, rfl⟩, cs, rfl, RepDs_L (by simpa [Value.cells] using h2)⟩
    ·cases ht
   ·cases ht
  ·rename_i m e hu
   split at ht
   ·split at ht
    ·simp only [yA] at ht
     subst ht
     simp only [hu] at hok
     obtain ⟨cs, rfl, _⟩ := hok
     exact ⟨.agg xs, ⟨xs, h1, rfl⟩, cs, rfl, RepDs_L (by simpa [Value.cells] using h2)⟩
    ·cases ht
   ·cases ht
  ·cases ht
theorem args_rep (hS : ∀ b, b < w.heap.size → Sta ρ X w b) : ∀ (ts : List TypeId) (tys : List T) (vs : List Value) (ds : List (DataW H)) (p : List MemPlace), tysA P ts = some tys →
  (∀ (j : Nat) t v, ts[j]? = some t → vs[j]? = some v → Value.okWide P w .any base t v) → DataW.TrodAll enc P w 0 spare held ts vs ds p → ∃ xs, WfA tys xs ∧ RepL ρ X w xs vs ∧ ds.length = tys.length
 | [], tys, vs, ds, p, ht, hok, h => by
  simp only [tysA, yA] at ht
  subst ht
  obtain ⟨rfl, rfl, rfl⟩ := trodAll_nil h
  exact ⟨[], rfl, trivial, rfl⟩
 | t :: ts, tys, vs, ds, p, ht, hok, h => by
  simp only [tysA] at ht
  split at ht
  ·rename_i ty tr h1 h2
   simp only [yA] at ht
   subst ht
   obtain ⟨v, vs1, d, ds1, a, b, rfl, rfl, rfl, h3, h4⟩ := trodAll_cons h
   obtain ⟨x, h5, h6⟩ := arg_rep hS h1 (hok 0 t v rfl rfl) h3
   obtain ⟨xs, h7, h8, h9⟩ := args_rep hS ts tr vs1 ds1 b h2 (fun j t v h1 h2 => hok (j + 1) t v (by simpa using h1) (by simpa using h2)) h4
   exact ⟨x :: xs, ⟨x, xs, rfl, h5, h7⟩, ⟨h6, h8⟩, by simp [h9]⟩
  ·cases ht
theorem trodAll_stays (hl : laidOutB P = true) {W W' : World} (hb : Below W.heap.size W W') : ∀ (ts : List TypeId) (vs : List Value) (ds : List (DataW H)) (p : List MemPlace), (∀ t ∈ ts, P.readableRec t = true ∧ t < P.types.size) →
  DataW.TrodAll enc P W 0 (fun _ => true) true ts vs ds p → (∀ x ∈ p, x.block < W.heap.size) → DataW.TrodAll enc P W' 0 (fun b => decide (b < W.heap.size)) true ts vs ds p
 | [], vs, ds, p, _, h, _ => by
  obtain ⟨rfl, rfl, rfl⟩ := trodAll_nil h
  rfl
 | t :: ts, vs, ds, p, hr, h, hlt => by
  obtain ⟨v, vs1, d, ds1, a, b, rfl, rfl, rfl, h3, h4⟩ := trodAll_cons h
  exact trodAll_cons_mk (Below.trod hl (hr t yF).1 (hr t yF).2 h3 hb (fun x hx => hlt x (vD _ hx)))
   (trodAll_stays hl hb ts vs1 ds1 b (fun t ht => hr t (yC _ ht)) h4 (fun x hx => hlt x (vE _ hx)))
theorem trodAll_true (hl : laidOutB P = true) {W W' : World} (hb : Below W.heap.size W W') : ∀ (ts : List TypeId) (vs : List Value) (ds : List (DataW H)) (p : List MemPlace), (∀ t ∈ ts, P.readableRec t = true ∧ t < P.types.size) →
  DataW.TrodAll enc P W 0 (fun _ => true) true ts vs ds p → (∀ x ∈ p, x.block < W.heap.size) → DataW.TrodAll enc P W' 0 (fun _ => true) true ts vs ds p
 | [], vs, ds, p, _, h, _ => by
  obtain ⟨rfl, rfl, rfl⟩ := trodAll_nil h
  rfl
 | t :: ts, vs, ds, p, hr, h, hlt => by
  obtain ⟨v, vs1, d, ds1, a, b, rfl, rfl, rfl, h3, h4⟩ := trodAll_cons h
  exact trodAll_cons_mk (WideElems.Trod_stays hl (hr t yF).1 (hr t yF).2 h3 (fun x hx => hb.same (hlt x (vD _ hx))) (fun _ _ => rfl))
   (trodAll_true hl hb ts vs1 ds1 b (fun t ht => hr t (yC _ ht)) h4 (fun x hx => hlt x (vE _ hx)))
theorem law_contract {f : FuncId} {fn : Func} {s : ChangeSpec} {tys : List T} {tb : TypeId} {apart fresh handsOn again : Bool}
  (hl : laidOutB P = true) (ht : tysA P fn.params.toList = some tys) (hread : (fn.params.toList.all fun t => P.readableRec t && decide (t < P.types.size)) = true)
  (hres : fn.resultTypes = #[tb]) (hb : P.underlying tb = some .bool) (hvars : s.vars = [])
  (hspec : ∀ (H : Type) (ds : List (DataW H)), ds.length = tys.length → s.fn H ds = { results := [.lit (.bool true)], args := ds })
  (hfn : ∀ zas, WfA tys zas → Fn P f zas [] [] (fun r _ => r = .b true))
  (W : World) (base : Nat) (args : Array Value) (ds gs : List (DataW H)) (before : List MemPlace)
  (hval : ∀ (j : Nat) t v, fn.params[j]? = some t → args[j]? = some v → Value.okWide P W .any base t v)
  (hW : DataW.Whole enc P fn.params.toList s.vars apart W args.toList ds gs before) :
  Calls P f args W fun e W' => ∃ v, e = .returned v ∧ s.post enc P fn apart fresh handsOn again W args v W' := by
 have hW' := hW
 obtain ⟨p, q, hA, hV, rfl, hfz, hnd⟩ := hW
 have hpl := hW'.lt
 have hV0 : gs = [] ∧ q = [] := by
  rw [hvars] at hV
  cases gs with
  | nil => exact ⟨rfl, hV⟩
  | cons _ _ => exact hV.elim
 obtain ⟨rfl, rfl⟩ := hV0
 obtain ⟨xs, h1, h2, h3⟩ := args_rep (ρ := rho0) (X := fun _ => False) (fun b hb => ⟨hb, rho0_own b, fun h => h⟩) fn.params.toList tys args.toList ds p ht (fun j t v h1 h2 => hval j t v (by simpa using h1) (by simpa using h2)) hA
 have hc := hfn xs h1 rho0 (fun _ => False) W args.toList (rho0_rep W) h2
 have harr : args.toList.toArray = args := by simp
 rw [harr] at hc
 refine hc.mono fun e W' ⟨val, r, h', ρ', he, ⟨hr, _⟩, hF, hR, hv, _⟩ => ?_
 subst hr
 have hv : val = .bool true := hv
 subst hv
 refine ⟨_, he, ?_⟩
 have hbel : Below W.heap.size W W' := ⟨hF.os, hF.tape, hF.output, hF.size, fun k hk => (hF.keep k hk (rho0_own k)).1⟩
 have hsz : fn.resultTypes.size = 1 := by rw [hres]; rfl
 have hrl : (Value.bool true).resultList fn.resultTypes.size = [.bool true] := by rw [hsz]; rfl
 have hsp : s.fn H (ds ++ []) = { results := [.lit (.bool true)], args := ds } := by rw [List.append_nil]; exact hspec H ds h3
 have hrd : ∀ t ∈ fn.params.toList, P.readableRec t = true ∧ t < P.types.size := by
  intro t ht
  have := yH.1 hread t ht
  simpa using this
 have hplt : ∀ x ∈ p, x.block < W.heap.size := fun x hx => hpl x (by simpa using hx)
 have hok : ∀ (j : Nat) (t : TypeId) (r : Value), fn.resultTypes[j]? = some t → ((Value.bool true).resultList fn.resultTypes.size)[j]? = some r → Value.okWide P W' .any 0 t r := by
  intro j t r h4 h5
  rw [hrl] at h5
  rw [hres] at h4
  cases j with
  | zero =>
   simp only [yI, yA] at h5
   simp only [List.getElem?_toArray, yI, yA] at h4
   subst h4 h5
   simp [Value.okWide, hb, Cell.okWide, Cell.ok]
  | succ j => simp at h5
 have hrt : ∀ (b : Nat) (sp : Nat → Bool) (hd : Bool), DataW.TrodAll enc P W' b sp hd fn.resultTypes.toList ((Value.bool true).resultList fn.resultTypes.size) [.lit (.bool true)] [] := by
  intro b sp hd
  rw [hrl, hres]
  exact ⟨[], [], ⟨1, by simp [DataW.trod, Value.cells, hb]⟩, rfl, rfl⟩
 refine ⟨ds, [], p ++ [], [], p, [], hW', ?_, ?_, ?_, hbel.frame _, fun _ => ⟨hok, ds.cons (.lit (.bool true)), [], p ++ [], ?_, fun x hx _ => hx⟩⟩
 ·rw [hsp]; exact hrt _ _ _
 ·rw [hsp]; exact trodAll_stays hl hbel _ _ _ _ hrd hA hplt
 ·rw [hsp, hvars]; rfl
 ·refine ⟨p, [], ?_, by rw [hvars]; rfl, rfl, ?_, hnd⟩
  ·have h6 := trodAll_true hl hbel _ _ _ _ hrd hA hplt
   have h7 := trodAll_append h6 (hrt 0 (fun _ => true) true)
   simpa using h7
  ·intro b off hp
   have h8 := hfz b off hp
   rw [World.frozen?_of_block (w := W) (hbel.block b (hpl _ hp))]
   exact h8
end
end Go.Fx
namespace Go.Fx
inductive Tr where
 | lf
 | nd (v : V) (l r : Tr)
 deriving Inhabited
def Tr.get : Tr → Nat → V
 | .lf, _ => .any
 | .nd v l r, i => match i with
  | 0 => v
  | j + 1 => if j % 2 = 0 then l.get (j / 2) else r.get (j / 2)
def Tr.put : Nat → Tr → Nat → V → Tr
 | 0, t, _, _ => t
 | n + 1, .lf, i, x => match i with
  | 0 => .nd x .lf .lf
  | j + 1 => if j % 2 = 0 then .nd .any (Tr.put n .lf (j / 2) x) .lf else .nd .any .lf (Tr.put n .lf (j / 2) x)
 | n + 1, .nd v l r, i, x => match i with
  | 0 => .nd x l r
  | j + 1 => if j % 2 = 0 then .nd v (Tr.put n l (j / 2) x) r else .nd v l (Tr.put n r (j / 2) x)
def Tr.kill (M : List Nat) : Tr → Tr
 | .lf => .lf
 | .nd v l r => .nd (Fx.kill M v) (l.kill M) (r.kill M)
theorem Tr.get_put : ∀ (n : Nat) (t : Tr) (i : Nat) (x : V) (j : Nat), i < n → (Tr.put n t i x).get j = if j = i then x else t.get j
 | 0, _, _, _, _, h => by omega
 | n + 1, .lf, 0, x, j, _ => by cases j <;> simp [Tr.put, Tr.get]
 | n + 1, .nd v l r, 0, x, j, _ => by cases j <;> simp [Tr.put, Tr.get]
 | n + 1, .lf, i + 1, x, j, h => by
  simp only [Tr.put]
  split
  ·rename_i hi
   cases j with
   | zero => simp [Tr.get]
   | succ j =>
    simp only [Tr.get]
    by_cases hj : j % 2 = 0
    ·rw [if_pos hj, Tr.get_put n _ _ _ _ (by omega)]
     by_cases e : j = i
     ·subst e; simp
     ·rw [if_neg (by omega), if_neg (by omega)]; simp [Tr.get]
    ·rw [if_neg hj, if_neg (by omega)]
  ·rename_i hi
   cases j with
   | zero => simp [Tr.get]
   | succ j =>
    simp only [Tr.get]
    by_cases hj : j % 2 = 0
    ·rw [if_pos hj, if_neg (by omega)]
    ·rw [if_neg hj, Tr.get_put n _ _ _ _ (by omega)]
     by_cases e : j = i
     ·subst e; simp
     ·rw [if_neg (by omega), if_neg (by omega)]; simp [Tr.get]
 | n + 1, .nd v l r, i + 1, x, j, h => by
  simp only [Tr.put]
  split
  ·rename_i hi
   cases j with
   | zero => simp [Tr.get]
   | succ j =>
    simp only [Tr.get]
    by_cases hj : j % 2 = 0
    ·rw [if_pos hj, Tr.get_put n _ _ _ _ (by omega), if_pos hj]
     by_cases e : j = i
     ·subst e; simp
     ·rw [if_neg (by omega), if_neg (by omega)]
    ·rw [if_neg hj, if_neg (by omega), if_neg hj]
  ·rename_i hi
   cases j with
   | zero => simp [Tr.get]
   | succ j =>
    simp only [Tr.get]
    by_cases hj : j % 2 = 0
    ·rw [if_pos hj, if_neg (by omega), if_pos hj]
    ·rw [if_neg hj, Tr.get_put n _ _ _ _ (by omega), if_neg hj]
     by_cases e : j = i
     ·subst e; simp
     ·rw [if_neg (by omega), if_neg (by omega)]
def liveB (h : List Blk) (k : Nat) : Bool :=
 match h[k]? with
 | some .dead => false
 | some _ => true
 | none => false
mutual
def wfVB (h : List Blk) : V → Bool
 | .sl k _ _ => liveB h k
 | .ptr k _ _ => liveB h k
 | .mp k => liveB h k
 | .itr k => liveB h k
 | .agg cs => wfLB h cs
 | .tup cs => wfLB h cs
 | .clo _ cs => wfLB h cs
 | _ => true
def wfLB (h : List Blk) : List V → Bool
 | [] => true
 | x :: r => wfVB h x && wfLB h r
end
instance (n : Nat) (l u m : Option Int) : Decidable (slcOk n l u m) := by unfold slcOk; infer_instance
structure Res where
 x : V
 E : Tr
 h : List Blk
def one (E : Tr) (x : V) (h : List Blk) : Option (List Res) := some [⟨x, E, h⟩]
end Go.Fx
namespace Go.Fx
open Go.RowKit
section
end
section
end
end Go.Fx
namespace Go.Fx
open Go.RowKit
def gone (h : List Blk) : List Nat → List Nat
 | [] => []
 | k :: r => if liveB h k then gone h r else k :: gone h r
def Tr.wf (h : List Blk) : Tr → Bool
 | .lf => true
 | .nd v l r => wfVB h v && (l.wf h && r.wf h)
mutual
def renK (g : Nat → Option Nat) : V → V
 | .sl k i n => match g k with
  | some j => .sl j i n
  | none => .any
 | .ptr k i f => match g k with
  | some j => .ptr j i f
  | none => .any
 | .mp k => match g k with
  | some j => .mp j
  | none => .any
 | .itr k => match g k with
  | some j => .itr j
  | none => .any
 | .agg cs => .agg (rensK g cs)
 | .tup cs => .tup (rensK g cs)
 | .clo f cs => .clo f (rensK g cs)
 | x => x
def rensK (g : Nat → Option Nat) : List V → List V
 | [] => []
 | x :: r => renK g x :: rensK g r
end
def Tr.ren (g : Nat → Option Nat) : Tr → Tr
 | .lf => .lf
 | .nd v l r => .nd (renK g v) (l.ren g) (r.ren g)
section
end
section
end
end Go.Fx
namespace Go.Fx.J
open Go Go.Fx
abbrev MA (n x : Nat) : LOper := ⟨some n,.mov (.tmp x),none⟩
abbrev LA (n x : Nat) : LOper := ⟨some n,.load none (.tmp x),none⟩
abbrev FA (n k x : Nat) : LOper := ⟨some n,.fld k (.tmp x),none⟩
abbrev SA (n k x : Nat) : LOper := ⟨some n,.load (some k) (.tmp x),none⟩
abbrev XA (n k x y : Nat) : LOper := ⟨some n,.idx k (.tmp x) (.tmp y),none⟩
abbrev CA (n : Nat) (x : Int) : LOper := ⟨some n,.mov (.const (.int .i64 x)),none⟩
abbrev WA (k x y : Nat) : LOper := ⟨none,.store k (.tmp x) (.tmp y),none⟩
abbrev UA (n : Nat) (x : LOp) : LOper := ⟨some n,x,none⟩
abbrev GA (n : Nat) (x : LOp) (a : Nat) (b : Bool) : LOper := ⟨some n,x,some (a,b)⟩
open Go.Operand renaming tmp → t, const → k
open Go.Value renaming int → i, bool → y
open Go.IntKind renaming i64 → j
open Option renaming some → s, none → o
open Go.Fx.LOp renaming mov → m, load → l, fld → f, bin → b, idx → x, store → w, pick → p, len → n, box → u
open Go.Fx.LCode renaming seq → q, reg → r, cond → c, block → z
open Go.Fx.LPlan renaming take → v, alt → h
open Bool renaming false → g, true → d
def c3 : LCode :=
 (q (r 1 [UA 4 (u 0 (t 0)),UA 8 (m (k (y g)))]) (q (r 0 [SA 18 2 4,UA 19 (.call 8 [(t 18)]),MA 9 19]) (q (q (r 0 [MA 20 9,UA 21 (.not (t 20)),MA 22 21,
 (GA 23 (m (t 1)) 22 g),GA 24 (.lens (t 23)) 22 g,GA 25 (b .gtr g (t 24) (k (i j 5000))) 22 g,UA 26 (p (t 22) (k (y d)) (t 25)),MA 27 26,GA 28 (m (t 3)) 27 g,GA 29 (n (t 28)) 27 g,
 (GA 30 (b .gtr g (t 29) (k (i j 8))) 27 g),UA 31 (p (t 27) (k (y d)) (t 30))]) (c (t 31) (q (r 0 [UA 32 (.call 9 []),MA 8 32]) .ret) .skip)) (q (r 1 [SA 34 2 4,MA 35 1,
 (MA 36 2),MA 37 3,UA 38 (.call 10 [(t 34),(t 35),(t 36),(t 37)]),MA 33 38,UA 39 (.ext (t 33) 0),UA 40 (.ext (t 33) 1),UA 41 (.ext (t 33) 2),UA 10 (.alloc 0 (.agg #[i j 0,.slice o 0 0])),
 (WA 2 10 39),MA 11 40,MA 12 41]) (q (r 1 [SA 42 2 4,MA 43 1,MA 44 2,MA 45 3,UA 46 (.call 11 [(t 42),(t 43),(t 44),(t 45)]),
 (UA 13 (.alloc 0 (.agg #[i j 0,.slice o 0 0,.slice o 0 0,.slice o 0 0,.slice o 0 0,i j 0]))),WA 6 13 46]) (q (q (r 0 [MA 47 12,FA 48 5 13,LA 49 48,UA 50 (b .neq g (t 47) (t 49)),
 (MA 51 50),GA 52 (l (s 2) (t 10)) 51 g,GA 53 (f 0 (t 13)) 51 g,GA 54 (l (s 2) (t 53)) 51 g,GA 55 (.call 12 [(t 52),(t 54)]) 51 g,GA 56 (.not (t 55)) 51 g,UA 57 (p (t 51) (k (y d)) (t 56)),
 (MA 58 57),GA 59 (m (t 11)) 58 g,GA 60 (f 3 (t 13)) 58 g,GA 61 (l o (t 60)) 58 g,GA 62 (.call 13 [(t 59),(t 61)]) 58 g,GA 63 (.not (t 62)) 58 g,UA 64 (p (t 58) (k (y d)) (t 63)),
 (MA 65 64),GA 66 (l (s 2) (t 10)) 65 g,GA 67 (.call 14 [(t 66)]) 65 g,GA 68 (.not (t 67)) 65 g,UA 69 (p (t 65) (k (y d)) (t 68))]) (c (t 69) (q (r 0 [UA 8 (m (k (y g)))])
 .ret) .skip)) (q (r 1 [SA 71 2 4,MA 72 1,MA 73 2,UA 74 (.call 15 [(t 71),(t 72),(t 73)]),MA 70 74,UA 75 (.ext (t 70) 0),UA 76 (.ext (t 70) 1),UA 77 (.ext (t 70) 2),
 (UA 14 (.alloc 0 (.agg #[i j 0,.slice o 0 0]))),WA 2 14 75,MA 15 76,MA 16 77]) (q (r 1 [SA 78 2 4,MA 79 1,MA 80 2,UA 81 (.call 16 [(t 78),(t 79),(t 80)]),
 (UA 17 (.alloc 0 (.agg #[i j 0,.slice o 0 0,.slice o 0 0,.slice o 0 0,.slice o 0 0,i j 0]))),WA 6 17 81]) (q (r 0 [UA 82 (.call 9 []),MA 83 82,GA 84 (m (t 16)) 83 d,GA 85 (f 5 (t 17)) 83 d,
 (GA 86 (l o (t 85)) 83 d),GA 87 (b .eql g (t 84) (t 86)) 83 d,UA 88 (p (t 83) (t 87) (k (y g))),MA 89 88,GA 90 (l (s 2) (t 14)) 89 d,GA 91 (f 0 (t 17)) 89 d,GA 92 (l (s 2) (t 91)) 89 d,
 (GA 93 (.call 12 [(t 90),(t 92)]) 89 d),UA 94 (p (t 89) (t 93) (k (y g))),MA 95 94,GA 96 (m (t 15)) 95 d,GA 97 (f 4 (t 17)) 95 d,GA 98 (l o (t 97)) 95 d,GA 99 (.call 17 [(t 96),(t 98)]) 95 d,
 (UA 100 (p (t 95) (t 99) (k (y g)))),MA 101 100,GA 102 (l (s 2) (t 14)) 101 d,GA 103 (.call 14 [(t 102)]) 101 d,UA 104 (p (t 101) (t 103) (k (y g))),MA 8 104]) .ret)))))))))
 
def c4 : LCode :=
 (q (r 1 [UA 4 (u 0 (t 0)),UA 8 (m (k (y g)))]) (q (r 0 [SA 20 2 4,UA 21 (.call 8 [(t 20)]),MA 9 21]) (q (q (r 0 [MA 22 9,UA 23 (.not (t 22)),MA 24 23,
 (GA 25 (m (t 1)) 24 g),GA 26 (.lens (t 25)) 24 g,GA 27 (b .gtr g (t 26) (k (i j 100))) 24 g,UA 28 (p (t 24) (k (y d)) (t 27)),MA 29 28,GA 30 (m (t 3)) 29 g,GA 31 (n (t 30)) 29 g,
 (GA 32 (b .gtr g (t 31) (k (i j 8))) 29 g),UA 33 (p (t 29) (k (y d)) (t 32))]) (c (t 33) (q (r 0 [UA 34 (.call 9 []),MA 8 34]) .ret) .skip)) (q (r 1 [SA 36 2 4,MA 37 1,
 (MA 38 2),MA 39 3,UA 40 (.call 18 [(t 36),(t 37),(t 38),(t 39)]),MA 35 40,UA 41 (.ext (t 35) 0),UA 42 (.ext (t 35) 1),UA 43 (.ext (t 35) 2),UA 44 (.ext (t 35) 3),
 (UA 10 (.alloc 0 (.agg #[i j 0,.slice o 0 0]))),WA 2 10 41,MA 11 42,MA 12 43,MA 13 44]) (q (r 1 [SA 45 2 4,MA 46 1,MA 47 2,
 (MA 48 3),UA 49 (.call 19 [(t 45),(t 46),(t 47),(t 48)]),UA 14 (.alloc 0 (.agg #[i j 0,.slice o 0 0,.slice o 0 0,.slice o 0 0,.slice o 0 0,i j 0])),WA 6 14 49]) (q (q (r 0 [MA 50 13,
 (FA 51 5 14),LA 52 51,UA 53 (b .neq g (t 50) (t 52)),MA 54 53,GA 55 (l (s 2) (t 10)) 54 g,GA 56 (f 0 (t 14)) 54 g,GA 57 (l (s 2) (t 56)) 54 g,GA 58 (.call 12 [(t 55),(t 57)]) 54 g,
 (GA 59 (.not (t 58)) 54 g),UA 60 (p (t 54) (k (y d)) (t 59)),MA 61 60,GA 62 (m (t 11)) 61 g,GA 63 (f 2 (t 14)) 61 g,GA 64 (l o (t 63)) 61 g,GA 65 (.call 17 [(t 62),(t 64)]) 61 g,
 (GA 66 (.not (t 65)) 61 g),UA 67 (p (t 61) (k (y d)) (t 66)),MA 68 67,GA 69 (m (t 12)) 68 g,GA 70 (f 3 (t 14)) 68 g,GA 71 (l o (t 70)) 68 g,GA 72 (.call 13 [(t 69),(t 71)]) 68 g,
 (GA 73 (.not (t 72)) 68 g),UA 74 (p (t 68) (k (y d)) (t 73)),MA 75 74,GA 76 (l (s 2) (t 10)) 75 g,GA 77 (.call 14 [(t 76)]) 75 g,GA 78 (.not (t 77)) 75 g,UA 79 (p (t 75) (k (y d)) (t 78))])
 (c (t 79) (q (r 0 [UA 8 (m (k (y g)))]) .ret) .skip)) (q (r 1 [SA 81 2 4,MA 82 1,MA 83 2,UA 84 (.call 20 [(t 81),(t 82),(t 83)]),MA 80 84,UA 85 (.ext (t 80) 0),
 (UA 86 (.ext (t 80) 1)),UA 87 (.ext (t 80) 2),UA 88 (.ext (t 80) 3),UA 15 (.alloc 0 (.agg #[i j 0,.slice o 0 0])),WA 2 15 85,MA 16 86,MA 17 87,MA 18 88])
 (q (r 1 [SA 89 2 4,MA 90 1,MA 91 2,UA 92 (.call 21 [(t 89),(t 90),(t 91)]),UA 19 (.alloc 0 (.agg #[i j 0,.slice o 0 0,.slice o 0 0,.slice o 0 0,.slice o 0 0,i j 0])),
 (WA 6 19 92)]) (q (r 0 [UA 93 (.call 9 []),MA 94 93,GA 95 (m (t 18)) 94 d,GA 96 (f 5 (t 19)) 94 d,GA 97 (l o (t 96)) 94 d,GA 98 (b .eql g (t 95) (t 97)) 94 d,
 (UA 99 (p (t 94) (t 98) (k (y g)))),MA 100 99,GA 101 (l (s 2) (t 15)) 100 d,GA 102 (f 0 (t 19)) 100 d,GA 103 (l (s 2) (t 102)) 100 d,GA 104 (.call 12 [(t 101),(t 103)]) 100 d,
 (UA 105 (p (t 100) (t 104) (k (y g)))),MA 106 105,GA 107 (m (t 16)) 106 d,GA 108 (f 2 (t 19)) 106 d,GA 109 (l o (t 108)) 106 d,GA 110 (.call 17 [(t 107),(t 109)]) 106 d,
 (UA 111 (p (t 106) (t 110) (k (y g)))),MA 112 111,GA 113 (m (t 17)) 112 d,GA 114 (f 4 (t 19)) 112 d,GA 115 (l o (t 114)) 112 d,GA 116 (.call 17 [(t 113),(t 115)]) 112 d,
 (UA 117 (p (t 112) (t 116) (k (y g)))),MA 118 117,GA 119 (l (s 2) (t 15)) 118 d,GA 120 (.call 14 [(t 119)]) 118 d,UA 121 (p (t 118) (t 120) (k (y g))),MA 8 121]) .ret)))))))))
 
def c5l1 : LCode :=
 q (q (r 0 [MA 75 13,MA 76 11,UA 77 (n (t 76)),UA 78 (b .lss g (t 75) (t 77))]) (c (t 78) .skip (.exit 2))) (q (z 3 (.qui 0 [MA 81 6,MA 82 11,MA 83 13,
 (XA 84 3 82 83),FA 85 1 84,FA 86 1 85,LA 87 86,UA 88 (b .add d (t 81) (t 87)),MA 89 11,MA 90 13,XA 91 3 89 90,FA 92 1 91,
 (FA 93 0 92),LA 94 93,UA 95 (b .sub d (t 88) (t 94)),MA 6 95])) (r 0 [MA 79 13,UA 80 (b .add d (t 79) (k (i j 1))),MA 13 80]))
def c5l2 : LCode :=
 q (q (r 0 [MA 96 14,MA 97 0,MA 98 8,XA 99 2 97 98,FA 100 1 99,LA 101 100,UA 102 (n (t 101)),UA 103 (b .lss g (t 96) (t 102))]) (c (t 103)
 .skip (.exit 4))) (q (z 5 (.tree 0 (v 0 [2,3,4,5,23,24] (MA 106 0) (v 1 [2,3,4,5,23,24] (MA 107 8) (v 2 [3,4,5,23,24] (XA 108 2 106 107) (v 3 [4,5,23,24] (FA 109 0 108)
 (v 4 [5,23,24] (LA 110 109) (v 5 [23,24] (UA 111 (b .rem g (t 110) (k (.int .u8 3)))) (v 6 [8,9,10,11,12,13,22,23,24] (MA 112 0) (v 7 [8,9,10,11,12,13,22,23,24] (MA 113 8) (v 8 [9,10,11,12,13,22,23,24] (XA 114 2 112 113)
 (v 9 [10,11,12,13,22,23,24] (FA 115 0 114) (v 10 [11,12,13,22,23,24] (LA 116 115) (v 11 [12,13,22,23,24] (UA 117 (b .rem g (t 116) (k (.int .u8 3)))) (v 12 [13,22,23,24] (UA 118 (.prim (.pidx 3 1) [(t 5),(t 117)]))
 (v 13 [22,23,24] (LA 119 118) (v 14 [16,17,18,20,21,22,23,24] (MA 120 0) (v 15 [16,17,18,20,21,22,23,24] (MA 121 8) (v 16 [17,18,20,21,22,23,24] (XA 122 2 120 121) (v 17 [18,20,21,22,23,24] (FA 123 1 122)
 (v 18 [20,21,22,23,24] (LA 124 123) (v 19 [20,21,22,23,24] (MA 125 14) (v 20 [21,22,23,24] (XA 126 2 124 125) (v 21 [22,23,24] (SA 127 2 126) (h 22 (UA 128 (.call 24 [(t 119),(t 127)])) d
 (v 23 [24] (UA 129 (.prim (.pidx 3 1) [(t 5),(t 111)])) (h 24 (WA 1 129 128) g .done .none)) .none))))))))))))))))))))))))) (r 0 [MA 104 14,UA 105 (b .add d (t 104) (k (i j 1))),
 (MA 14 105)]))
def c5l0 : LCode :=
 q (q (r 0 [MA 21 8,MA 22 0,UA 23 (n (t 22)),UA 24 (b .lss g (t 21) (t 23))]) (c (t 24) .skip (.exit 0))) (q (z 1 (q (r 0 [MA 27 0,MA 28 8,XA 29 2 27 28,
 (FA 30 1 29),LA 31 30,UA 32 (.call 22 [(t 31)]),MA 9 32]) (q (q (r 0 [MA 33 9,UA 34 (.not (t 33)),MA 35 34,GA 36 (m (t 0)) 35 g,GA 37 (m (t 8)) 35 g,
 (GA 38 (x 2 (t 36) (t 37)) 35 g),GA 39 (f 1 (t 38)) 35 g,GA 40 (l o (t 39)) 35 g,GA 41 (n (t 40)) 35 g,GA 42 (b .eql g (t 41) (k (i j 0))) 35 g,UA 43 (p (t 35) (k (y d)) (t 42)),
 (MA 44 43),GA 45 (m (t 0)) 44 g,GA 46 (m (t 8)) 44 g,GA 47 (x 2 (t 45) (t 46)) 44 g,GA 48 (f 1 (t 47)) 44 g,GA 49 (l o (t 48)) 44 g,GA 50 (n (t 49)) 44 g,GA 51 (b .gtr g (t 50) (k (i j 6))) 44 g,
 (UA 52 (p (t 44) (k (y d)) (t 51)))]) (c (t 52) (q (r 0 [UA 53 (.call 9 []),MA 4 53]) .ret) .skip)) (q (.tree 1 (v 0 [13,14,15,16,17,19,20,21] (SA 55 2 7) (v 1 [3,4,5,6,13,14,15,16,17,19,20,21] (MA 56 0)
 (v 2 [3,4,5,6,13,14,15,16,17,19,20,21] (MA 57 8) (v 3 [4,5,6,13,14,15,16,17,19,20,21] (XA 58 2 56 57) (v 4 [5,6,13,14,15,16,17,19,20,21] (FA 59 0 58) (v 5 [6,13,14,15,16,17,19,20,21] (LA 60 59)
 (v 7 [13,14,15,16,17,19,20,21] (MA 62 8) (v 8 [10,11,12,13,14,15,16,17,19,20,21] (MA 63 0) (v 9 [10,11,12,13,14,15,16,17,19,20,21] (MA 64 8) (v 10 [11,12,13,14,15,16,17,19,20,21] (XA 65 2 63 64)
 (v 11 [12,13,14,15,16,17,19,20,21] (FA 66 1 65) (v 12 [13,14,15,16,17,19,20,21] (LA 67 66) (h 6 (UA 61 (.call 23 [(t 60)])) d (h 13 (UA 68 (.call 10 [(t 55),(t 61),(t 62),(t 67)])) g (v 14 [15,16,17,19,20,21] (MA 54 68)
 (v 15 [19,20,21] (UA 69 (.ext (t 54) 0)) (v 16 [20,21] (UA 70 (.ext (t 54) 1)) (v 17 [21] (UA 71 (.ext (t 54) 2)) (h 18 (UA 10 (.alloc 0 (.agg #[i j 0,.slice o 0 0]))) d (h 19 (WA 2 10 69) g (v 20 [21] (MA 11 70)
 (v 21 [] (MA 12 71) .done)) .none) .none))))) (h 18 (UA 10 (.alloc 0 (.agg #[i j 0,.slice o 0 0]))) d (h 13 (UA 68 (.call 10 [(t 55),(t 61),(t 62),(t 67)])) g (v 14 [15,16,17,19,20,21] (MA 54 68)
 (v 15 [19,20,21] (UA 69 (.ext (t 54) 0)) (v 16 [20,21] (UA 70 (.ext (t 54) 1)) (v 17 [21] (UA 71 (.ext (t 54) 2)) (h 19 (WA 2 10 69) g (v 20 [21] (MA 11 70) (v 21 [] (MA 12 71) .done))
 .none))))) .none) .none)) (h 18 (UA 10 (.alloc 0 (.agg #[i j 0,.slice o 0 0]))) d (h 6 (UA 61 (.call 23 [(t 60)])) d (h 13 (UA 68 (.call 10 [(t 55),(t 61),(t 62),(t 67)])) g (v 14 [15,16,17,19,20,21] (MA 54 68)
 (v 15 [19,20,21] (UA 69 (.ext (t 54) 0)) (v 16 [20,21] (UA 70 (.ext (t 54) 1)) (v 17 [21] (UA 71 (.ext (t 54) 2)) (h 19 (WA 2 10 69) g (v 20 [21] (MA 11 70) (v 21 [] (MA 12 71) .done))
 .none))))) .none) .none) .none))))))))))))))) (q (q (r 0 [MA 72 12,UA 73 (b .neq g (t 72) (k (i j 0)))]) (c (t 73) (q (r 0 [UA 4 (m (k (y g)))]) .ret) .skip)) (q (r 0 [SA 74 2 10,
 (WA 2 7 74)]) (q (q (r 0 [CA 13 0]) (z 2 (.loop c5l1))) (q (r 0 [CA 14 0]) (z 4 (.loop c5l2)))))))))) (r 0 [MA 25 8,UA 26 (b .add d (t 25) (k (i j 1))),
 (MA 8 26)]))
def c5 : LCode :=
 (q (r 0 [UA 4 (m (k (y g)))]) (q (q (r 0 [MA 16 0,UA 17 (n (t 16)),UA 18 (b .gtr g (t 17) (k (i j 20)))]) (c (t 18) (q (r 0 [UA 19 (.call 9 []),MA 4 19]) .ret) .skip)) (q (r 1 [
 (UA 5 (.alloc 0 (.agg #[.slice o 0 0,.slice o 0 0,.slice o 0 0])))]) (q (r 0 [CA 6 0]) (q (r 1 [UA 20 (.build [i j 0,.slice o 0 0] []),UA 7 (.alloc 0 (.agg #[i j 0,.slice o 0 0])),
 (WA 2 7 20)]) (q (q (r 0 [CA 8 0]) (z 0 (.loop c5l0))) (q (.tree 0 (v 0 [1,2,5,6,9,10,11] (UA 130 (.prim (.pidx 3 1) [(t 5),(k (i j 0))])) (v 1 [2,5,6,9,10,11] (LA 131 130)
 (v 3 [4,5,6,9,10,11] (UA 133 (.prim (.pidx 3 1) [(t 5),(k (i j 1))])) (v 4 [5,6,9,10,11] (LA 134 133) (v 7 [8,9,10,11] (UA 137 (.prim (.pidx 3 1) [(t 5),(k (i j 2))])) (v 8 [9,10,11] (LA 138 137)
 (h 2 (UA 132 (.call 25 [(t 131)])) d (h 5 (UA 135 (.call 25 [(t 134)])) d (v 6 [10,11] (UA 136 (b .add d (t 132) (t 135))) (h 9 (UA 139 (.call 25 [(t 138)])) g (v 10 [11] (UA 140 (b .add d (t 136) (t 139)))
 (v 11 [] (MA 15 140) .done)) .none)) .none) .none)))))))) (q (q (r 0 [MA 141 15,MA 142 6,UA 143 (b .neq g (t 141) (t 142)),MA 144 143,GA 145 (l (s 2) (t 7)) 144 g,
 (GA 146 (.call 26 [(t 145)]) 144 g),GA 147 (m (t 0)) 144 g,GA 148 (n (t 147)) 144 g,GA 149 (b .neq g (t 146) (t 148)) 144 g,UA 150 (p (t 144) (k (y d)) (t 149))]) (c (t 150) (q
 (r 0 [UA 4 (m (k (y g)))]) .ret) .skip)) (q (r 0 [UA 151 (.call 9 []),MA 152 151,GA 153 (l (s 2) (t 7)) 152 d,GA 154 (m (t 0)) 152 d,GA 155 (m (t 1)) 152 d,GA 156 (.call 27 [(t 153),(t 154),(t 155)]) 152 d,
 (UA 157 (p (t 152) (t 156) (k (y g)))),MA 4 157]) .ret))))))))) 
def c9 : LCode :=
 (q (r 0 [UA 0 (m (k (y g)))]) (q (r 1 [UA 24 (.build [i j 0,.slice o 0 0] []),UA 25 (.call 36 [(k (i j 0)),(k (i j 10))]),UA 26 (.call 10 [(t 24),(k (.string ⟨#[107]⟩)),(k (i j 1)),(t 25)]),MA 23 26,
 (UA 27 (.ext (t 23) 0)),UA 28 (.ext (t 23) 1),UA 29 (.ext (t 23) 2),UA 1 (.alloc 0 (.agg #[i j 0,.slice o 0 0])),WA 2 1 27,MA 2 28,MA 3 29]) (q (.tree 0 (v 0 [2,3,4,5,6,7,8,9] (SA 31 2 1)
 (h 1 (UA 32 (.call 36 [(k (i j 5)),(k (i j 15))])) d (h 2 (UA 33 (.call 10 [(t 31),(k (.string ⟨#[107]⟩)),(k (i j 2)),(t 32)])) g (v 3 [4,5,6,7,8,9] (MA 30 33) (v 4 [7,8,9] (UA 34 (.ext (t 30) 0))
 (v 5 [8,9] (UA 35 (.ext (t 30) 1)) (v 6 [9] (UA 36 (.ext (t 30) 2)) (h 7 (WA 2 1 34) g (v 8 [9] (MA 4 35) (v 9 [] (MA 5 36) .done)) .none))))) .none) .none))) (q (.tree 0 (v 0 [2,3,4,5,6,7,8,9] (SA 38 2 1)
 (h 1 (UA 39 (.call 36 [(k (i j 0)),(k (i j 3))])) d (h 2 (UA 40 (.call 10 [(t 38),(k (.string ⟨#[107]⟩)),(k (i j 3)),(t 39)])) g (v 3 [4,5,6,7,8,9] (MA 37 40) (v 4 [7,8,9] (UA 41 (.ext (t 37) 0))
 (v 5 [8,9] (UA 42 (.ext (t 37) 1)) (v 6 [9] (UA 43 (.ext (t 37) 2)) (h 7 (WA 2 1 41) g (v 8 [9] (MA 6 42) (v 9 [] (MA 7 43) .done)) .none))))) .none) .none))) (q (q (r 0 [MA 44 3,
 (UA 45 (b .neq g (t 44) (k (i j 0)))),MA 46 45,GA 47 (m (t 5)) 46 g,GA 48 (b .neq g (t 47) (k (i j 0))) 46 g,UA 49 (p (t 46) (k (y d)) (t 48)),MA 50 49,GA 51 (m (t 7)) 50 g,
 (GA 52 (b .neq g (t 51) (k (i j 0))) 50 g),UA 53 (p (t 50) (k (y d)) (t 52)),MA 54 53,GA 55 (m (t 2)) 54 g,GA 56 (n (t 55)) 54 g,GA 57 (b .neq g (t 56) (k (i j 1))) 54 g,
 (UA 58 (p (t 54) (k (y d)) (t 57))),MA 59 58,GA 60 (m (t 4)) 59 g,GA 61 (n (t 60)) 59 g,GA 62 (b .neq g (t 61) (k (i j 1))) 59 g,UA 63 (p (t 59) (k (y d)) (t 62)),MA 64 63,
 (GA 65 (m (t 6)) 64 g),GA 66 (n (t 65)) 64 g,GA 67 (b .neq g (t 66) (k (i j 0))) 64 g,UA 68 (p (t 64) (k (y d)) (t 67)),MA 69 68,GA 70 (m (t 2)) 69 g,GA 71 (x 3 (t 70) (k (i j 0))) 69 g,
 (GA 72 (l (s 3) (t 71)) 69 g),GA 73 (.build [i j 0,i j 0] [(0,1,(k (i j 0))),(1,1,(k (i j 10)))]) 69 g,GA 74 (.build [i j 0,i j 0,i j 0] [(0,1,(k (i j 1))),(1,2,(t 73))]) 69 g,GA 75 (.prim (.aeq d [(0,(.int .i64)),(1,(.int .i64)),(2,(.int .i64))]) [(t 72),(t 74)]) 69 g,
 (UA 76 (p (t 69) (k (y d)) (t 75))),MA 77 76,GA 78 (m (t 4)) 77 g,GA 79 (x 3 (t 78) (k (i j 0))) 77 g,GA 80 (l (s 3) (t 79)) 77 g,GA 81 (.build [i j 0,i j 0] [(0,1,(k (i j 10))),(1,1,(k (i j 15)))]) 77 g,
 (GA 82 (.build [i j 0,i j 0,i j 0] [(0,1,(k (i j 2))),(1,2,(t 81))]) 77 g),GA 83 (.prim (.aeq d [(0,(.int .i64)),(1,(.int .i64)),(2,(.int .i64))]) [(t 80),(t 82)]) 77 g,UA 84 (p (t 77) (k (y d)) (t 83))])
 (c (t 84) (q (r 0 [UA 0 (m (k (y g)))]) .ret) .skip)) (q (.tree 1 (v 0 [2,3,4,5,6,7,9,10,11,12] (SA 86 2 1) (h 1 (UA 87 (.call 36 [(k (i j 0)),(k (i j 10))])) d (h 2 (UA 88 (.call 18 [(t 86),(k (.string ⟨#[107]⟩)),(k (i j 1)),(t 87)])) g
 (v 3 [4,5,6,7,9,10,11,12] (MA 85 88) (v 4 [9,10,11,12] (UA 89 (.ext (t 85) 0)) (v 5 [10,11,12] (UA 90 (.ext (t 85) 1)) (v 6 [11,12] (UA 91 (.ext (t 85) 2)) (v 7 [12] (UA 92 (.ext (t 85) 3)) (h 8 (UA 8 (.alloc 0 (.agg #[i j 0,.slice o 0 0]))) d
 (h 9 (WA 2 8 89) g (v 10 [11,12] (MA 9 90) (v 11 [12] (MA 10 91) (v 12 [] (MA 11 92) .done))) .none) .none)))))) (h 8 (UA 8 (.alloc 0 (.agg #[i j 0,.slice o 0 0]))) d (h 2 (UA 88 (.call 18 [(t 86),(k (.string ⟨#[107]⟩)),(k (i j 1)),(t 87)])) g
 (v 3 [4,5,6,7,9,10,11,12] (MA 85 88) (v 4 [9,10,11,12] (UA 89 (.ext (t 85) 0)) (v 5 [10,11,12] (UA 90 (.ext (t 85) 1)) (v 6 [11,12] (UA 91 (.ext (t 85) 2)) (v 7 [12] (UA 92 (.ext (t 85) 3)) (h 9 (WA 2 8 89) g
 (v 10 [11,12] (MA 9 90) (v 11 [12] (MA 10 91) (v 12 [] (MA 11 92) .done))) .none)))))) .none) .none)) (h 8 (UA 8 (.alloc 0 (.agg #[i j 0,.slice o 0 0]))) d (h 1 (UA 87 (.call 36 [(k (i j 0)),(k (i j 10))])) d
 (h 2 (UA 88 (.call 18 [(t 86),(k (.string ⟨#[107]⟩)),(k (i j 1)),(t 87)])) g (v 3 [4,5,6,7,9,10,11,12] (MA 85 88) (v 4 [9,10,11,12] (UA 89 (.ext (t 85) 0)) (v 5 [10,11,12] (UA 90 (.ext (t 85) 1))
 (v 6 [11,12] (UA 91 (.ext (t 85) 2)) (v 7 [12] (UA 92 (.ext (t 85) 3)) (h 9 (WA 2 8 89) g (v 10 [11,12] (MA 9 90) (v 11 [12] (MA 10 91) (v 12 [] (MA 11 92) .done))) .none))))))
 .none) .none) .none)))) (q (.tree 1 (v 0 [2,3,4,5,6,7,9,10,11,12] (SA 94 2 1) (h 1 (UA 95 (.call 36 [(k (i j 0)),(k (i j 4))])) d (h 2 (UA 96 (.call 18 [(t 94),(k (.string ⟨#[107]⟩)),(k (i j 1)),(t 95)])) g
 (v 3 [4,5,6,7,9,10,11,12] (MA 93 96) (v 4 [9,10,11,12] (UA 97 (.ext (t 93) 0)) (v 5 [10,11,12] (UA 98 (.ext (t 93) 1)) (v 6 [11,12] (UA 99 (.ext (t 93) 2)) (v 7 [12] (UA 100 (.ext (t 93) 3)) (h 8 (UA 12 (.alloc 0 (.agg #[i j 0,.slice o 0 0]))) d
 (h 9 (WA 2 12 97) g (v 10 [11,12] (MA 13 98) (v 11 [12] (MA 14 99) (v 12 [] (MA 15 100) .done))) .none) .none)))))) (h 8 (UA 12 (.alloc 0 (.agg #[i j 0,.slice o 0 0]))) d
 (h 2 (UA 96 (.call 18 [(t 94),(k (.string ⟨#[107]⟩)),(k (i j 1)),(t 95)])) g (v 3 [4,5,6,7,9,10,11,12] (MA 93 96) (v 4 [9,10,11,12] (UA 97 (.ext (t 93) 0)) (v 5 [10,11,12] (UA 98 (.ext (t 93) 1))
 (v 6 [11,12] (UA 99 (.ext (t 93) 2)) (v 7 [12] (UA 100 (.ext (t 93) 3)) (h 9 (WA 2 12 97) g (v 10 [11,12] (MA 13 98) (v 11 [12] (MA 14 99) (v 12 [] (MA 15 100) .done))) .none))))))
 .none) .none)) (h 8 (UA 12 (.alloc 0 (.agg #[i j 0,.slice o 0 0]))) d (h 1 (UA 95 (.call 36 [(k (i j 0)),(k (i j 4))])) d (h 2 (UA 96 (.call 18 [(t 94),(k (.string ⟨#[107]⟩)),(k (i j 1)),(t 95)])) g (v 3 [4,5,6,7,9,10,11,12] (MA 93 96)
 (v 4 [9,10,11,12] (UA 97 (.ext (t 93) 0)) (v 5 [10,11,12] (UA 98 (.ext (t 93) 1)) (v 6 [11,12] (UA 99 (.ext (t 93) 2)) (v 7 [12] (UA 100 (.ext (t 93) 3)) (h 9 (WA 2 12 97) g (v 10 [11,12] (MA 13 98)
 (v 11 [12] (MA 14 99) (v 12 [] (MA 15 100) .done))) .none)))))) .none) .none) .none)))) (q (r 1 [SA 102 2 1,UA 103 (.call 20 [(t 102),(k (.string ⟨#[107]⟩)),(k (i j 2))]),
 (MA 101 103),UA 104 (.ext (t 101) 0),UA 105 (.ext (t 101) 1),UA 106 (.ext (t 101) 2),UA 107 (.ext (t 101) 3),UA 16 (.alloc 0 (.agg #[i j 0,.slice o 0 0])),WA 2 16 104,MA 17 105,
 (MA 18 106),MA 19 107]) (q (r 1 [SA 109 2 1,UA 110 (.call 15 [(t 109),(k (.string ⟨#[107]⟩)),(k (i j 2))]),MA 108 110,UA 111 (.ext (t 108) 0),UA 112 (.ext (t 108) 1),
 (UA 113 (.ext (t 108) 2)),UA 20 (.alloc 0 (.agg #[i j 0,.slice o 0 0])),WA 2 20 111,MA 21 112,MA 22 113]) (q (q (r 0 [MA 114 11,UA 115 (b .neq g (t 114) (k (i j 0))),
 (MA 116 115),GA 117 (m (t 15)) 116 g,GA 118 (b .neq g (t 117) (k (i j 0))) 116 g,UA 119 (p (t 116) (k (y d)) (t 118)),MA 120 119,GA 121 (m (t 19)) 120 g,GA 122 (b .neq g (t 121) (k (i j 0))) 120 g,
 (UA 123 (p (t 120) (k (y d)) (t 122))),MA 124 123,GA 125 (m (t 22)) 124 g,GA 126 (b .neq g (t 125) (k (i j 0))) 124 g,UA 127 (p (t 124) (k (y d)) (t 126)),MA 128 127,
 (GA 129 (m (t 10)) 128 g),GA 130 (n (t 129)) 128 g,GA 131 (b .neq g (t 130) (k (i j 0))) 128 g,UA 132 (p (t 128) (k (y d)) (t 131)),MA 133 132,GA 134 (m (t 18)) 133 g,
 (GA 135 (n (t 134)) 133 g),GA 136 (b .neq g (t 135) (k (i j 0))) 133 g,UA 137 (p (t 133) (k (y d)) (t 136)),MA 138 137,GA 139 (m (t 14)) 138 g,GA 140 (n (t 139)) 138 g,
 (GA 141 (b .neq g (t 140) (k (i j 1))) 138 g),UA 142 (p (t 138) (k (y d)) (t 141)),MA 143 142,GA 144 (m (t 14)) 143 g,GA 145 (x 3 (t 144) (k (i j 0))) 143 g,GA 146 (l (s 3) (t 145)) 143 g,
 (GA 147 (.build [i j 0,i j 0] [(0,1,(k (i j 4))),(1,1,(k (i j 10)))]) 143 g),GA 148 (.build [i j 0,i j 0,i j 0] [(0,1,(k (i j 3))),(1,2,(t 147))]) 143 g,GA 149 (.prim (.aeq d [(0,(.int .i64)),(1,(.int .i64)),(2,(.int .i64))]) [(t 146),(t 148)]) 143 g,
 (UA 150 (p (t 143) (k (y d)) (t 149)))]) (c (t 150) (q (r 0 [UA 0 (m (k (y g)))]) .ret) .skip)) (q (r 4 [MA 151 9,UA 152 (.lits 0 1 2 [i j 0] [(0,(k (i j 1))),(1,(k (i j 3)))]),UA 153 (.call 17 [(t 151),(t 152)]),
 (MA 154 153),GA 155 (m (t 13)) 154 d,GA 156 (.lits 1 1 1 [i j 0] [(0,(k (i j 3)))]) 154 d,GA 157 (.call 17 [(t 155),(t 156)]) 154 d,UA 158 (p (t 154) (t 157) (k (y g))),MA 159 158,
 (GA 160 (m (t 17)) 159 d),GA 161 (.lits 2 1 1 [i j 0] [(0,(k (i j 2)))]) 159 d,GA 162 (.call 17 [(t 160),(t 161)]) 159 d,UA 163 (p (t 159) (t 162) (k (y g))),MA 164 163,GA 165 (m (t 21)) 164 d,
 (GA 166 (.lits 3 1 1 [i j 0] [(0,(k (i j 2)))]) 164 d),GA 167 (.call 17 [(t 165),(t 166)]) 164 d,UA 168 (p (t 164) (t 167) (k (y g))),MA 169 168,GA 170 (l (s 2) (t 1)) 169 d,
 (GA 171 (.call 26 [(t 170)]) 169 d),GA 172 (b .eql g (t 171) (k (i j 3))) 169 d,UA 173 (p (t 169) (t 172) (k (y g))),MA 0 173]) .ret))))))))))) 
def c17l0 : LCode :=
 q (q (r 0 [MA 11 5,MA 12 0,UA 13 (n (t 12)),UA 14 (b .lss g (t 11) (t 13))]) (c (t 14) .skip (.exit 0))) (q (z 1 (q (.qui 0 [MA 17 0,MA 18 5,XA 19 1 17 18,
 (LA 20 19),MA 21 1,MA 22 5,XA 23 1 21 22,LA 24 23,UA 25 (b .neq g (t 20) (t 24))]) (c (t 25) (q (r 0 [UA 4 (m (k (y g)))]) .ret) .skip))) (r 0 [
 (MA 15 5),UA 16 (b .add d (t 15) (k (i j 1))),MA 5 16]))
def c17 : LCode :=
 (q (r 0 [UA 4 (m (k (y g)))]) (q (q (r 0 [MA 6 0,UA 7 (n (t 6)),MA 8 1,UA 9 (n (t 8)),UA 10 (b .neq g (t 7) (t 9))]) (c (t 10) (q (r 0 [UA 4 (m (k (y g)))]) .ret) .skip))
 (q (q (r 0 [CA 5 0]) (z 0 (.loop c17l0))) (q (r 0 [UA 4 (m (k (y d)))]) .ret)))) 
def c18l0 : LCode :=
 q (r 0 [UA 88 (b .lss g (t 87) (t 86))]) (q (c (t 88) .skip (.exit 0)) (q (z 1 (q (r 1 [XA 89 2 85 87,SA 90 2 89,UA 22 (.alloc 0 (.agg #[i j 0,.slice o 0 0])),WA 2 22 90])
 (q (r 0 [FA 91 1 22,LA 92 91,MA 93 18,UA 94 (.call 43 [(t 92),(t 93)]),FA 95 1 22,WA 1 95 94]) (q (r 0 [FA 96 1 22,LA 97 96,
 (UA 98 (n (t 97))),UA 99 (b .eql g (t 98) (k (i j 0)))]) (c (t 99) (r 2 [MA 100 19,FA 101 0 22,LA 102 101,UA 103 (.lits 0 1 1 [i j 0] [(0,(t 102))]),UA 104 (.append 1 1 8 (t 100) (t 103)),
 (MA 19 104)]) (r 2 [MA 105 20,SA 106 2 22,UA 107 (.litsf [106] 0 2 1 [i j 0,.slice o 0 0] [(0,(t 106))]),UA 108 (.append 1 2 32 (t 105) (t 107)),MA 20 108]))))))
 (r 0 [UA 109 (b .add d (t 87) (k (i j 1))),MA 87 109])))
def c22l0 : LCode :=
 q (q (r 0 [MA 4 3,MA 5 0,UA 6 (n (t 5)),UA 7 (b .lss g (t 4) (t 6))]) (c (t 7) .skip (.exit 0))) (q (z 1 (q (.tree 0 (v 0 [2,3,4,5,6,7,8,9,10,11,12,13,14,15,16,17,18,19,20,21,22,23,24,25,26,27,28,29,30] (MA 10 0)
 (v 1 [2,3,4,5,6,7,8,9,10,11,12,13,14,15,16,17,18,19,20,21,22,23,24,25,26,27,28,29,30] (MA 11 3) (v 2 [3,4,5,6,7,8,9,10,11,12,13,14,15,16,17,18,19,20,21,22,23,24,25,26,27,28,29,30] (XA 12 2 10 11)
 (v 3 [4,5,6,7,8,9,10,11,12,13,14,15,16,17,18,19,20,21,22,23,24,25,26,27,28,29,30] (SA 13 2 12) (h 4 (UA 14 (.call 66 [(t 13)])) g (v 5 [6,7,8,9,10,11,12,13,14,15,16,17,18,19,20,21,22,23,24,25,26,27,28,29,30] (MA 15 14)
 (v 6 [8,9,10,11,12,13,14,15,16,17,18,19,20,21,22,23,24,25,26,27,28,29,30] (GA 16 (m (t 0)) 15 g) (v 7 [8,9,10,11,12,13,14,15,16,17,18,19,20,21,22,23,24,25,26,27,28,29,30] (GA 17 (m (t 3)) 15 g)
 (v 8 [9,10,11,12,13,14,15,16,17,18,19,20,21,22,23,24,25,26,27,28,29,30] (GA 18 (x 2 (t 16) (t 17)) 15 g) (v 9 [10,11,12,13,14,15,16,17,18,19,20,21,22,23,24,25,26,27,28,29,30] (GA 19 (l (s 2) (t 18)) 15 g)
 (h 10 (GA 20 (.call 67 [(t 19)]) 15 g) g (v 11 [12,13,14,15,16,17,18,19,20,21,22,23,24,25,26,27,28,29,30] (GA 21 (.not (t 20)) 15 g) (v 12 [13,14,15,16,17,18,19,20,21,22,23,24,25,26,27,28,29,30] (UA 22 (p (t 15) (k (y d)) (t 21)))
 (v 13 [14,15,16,17,18,19,20,21,22,23,24,25,26,27,28,29,30] (MA 23 22) (v 14 [15,16,17,18,19,20,21,22,23,24,25,26,27,28,29,30] (GA 24 (m (t 3)) 23 g) (v 15 [16,17,18,19,20,21,22,23,24,25,26,27,28,29,30] (GA 25 (b .gtr g (t 24) (k (i j 0))) 23 g)
 (v 16 [17,18,19,20,21,22,23,24,25,26,27,28,29,30] (GA 26 (m (t 25)) 23 g) (v 17 [19,20,21,28,29,30] (GA 27 (m (t 0)) 26 d) (v 18 [19,20,21,28,29,30] (GA 28 (m (t 3)) 26 d) (v 19 [20,21,28,29,30] (GA 29 (x 2 (t 27) (t 28)) 26 d)
 (v 20 [21,28,29,30] (GA 30 (f 0 (t 29)) 26 d) (v 21 [28,29,30] (GA 31 (l o (t 30)) 26 d) (v 22 [25,26,27,28,29,30] (GA 32 (m (t 0)) 26 d) (v 23 [24,25,26,27,28,29,30] (GA 33 (m (t 3)) 26 d)
 (v 24 [25,26,27,28,29,30] (GA 34 (b .sub d (t 33) (k (i j 1))) 26 d) (v 25 [26,27,28,29,30] (GA 35 (x 2 (t 32) (t 34)) 26 d) (v 26 [27,28,29,30] (GA 36 (f 1 (t 35)) 26 d) (v 27 [28,29,30] (GA 37 (l o (t 36)) 26 d)
 (v 28 [29,30] (GA 38 (b .leq g (t 31) (t 37)) 26 d) (v 29 [30] (GA 39 (p (t 26) (t 38) (k (y g))) 23 g) (v 30 [] (UA 40 (p (t 23) (k (y d)) (t 39))) .done)))))))))))))))))))) .none)))))) .none))))))
 (c (t 40) (q (r 0 [UA 2 (m (k (y g)))]) .ret) .skip))) (r 0 [MA 8 3,UA 9 (b .add d (t 8) (k (i j 1))),MA 3 9]))
def c22 : LCode :=
 (q (r 0 [UA 2 (m (k (y g)))]) (q (q (r 0 [CA 3 0]) (z 0 (.loop c22l0))) (q (r 0 [UA 2 (m (k (y d)))]) .ret))) 
def c23 : LCode :=
 (q (r 0 [UA 2 (m (k (.string ⟨#[]⟩)))]) (q (r 1 [MA 3 0,UA 4 (b .rem g (t 3) (k (.int .u8 3))),UA 5 (b .add d (k (.int .u8 97)) (t 4)),UA 6 (.lits 0 1 1 [.int .u8 0] [(0,(t 5))]),UA 7 (.eff .b2s 0 [(t 6)]),
 (MA 2 7)]) .ret)) 
def c24l0 : LCode :=
 q (q (r 0 [MA 13 7,MA 14 0,UA 15 (n (t 14)),UA 16 (b .lss g (t 13) (t 15))]) (c (t 16) .skip (.exit 0))) (q (z 1 (q (q (.qui 0 [MA 19 0,MA 20 7,XA 21 2 19 20,
 (FA 22 1 21),LA 23 22,FA 24 0 3,LA 25 24,UA 26 (b .lss g (t 23) (t 25))]) (c (t 26) (q (r 2 [MA 27 5,MA 28 0,MA 29 7,XA 30 2 28 29,
 (SA 31 2 30),UA 32 (.lits 0 2 1 [i j 0,i j 0] [(0,(t 31))]),UA 33 (.append 1 2 16 (t 27) (t 32)),MA 5 33]) (.exit 1)) .skip)) (q (q (.qui 0 [FA 34 1 3,LA 35 34,
 (MA 36 0),MA 37 7,XA 38 2 36 37,FA 39 0 38,LA 40 39,UA 41 (b .lss g (t 35) (t 40))]) (c (t 41) (q (q (r 0 [MA 42 6,UA 43 (.not (t 42))])
 (c (t 43) (q (r 2 [MA 44 5,SA 45 2 3,UA 46 (.lits 0 2 1 [i j 0,i j 0] [(0,(t 45))]),UA 47 (.append 1 2 16 (t 44) (t 46)),MA 5 47]) (r 0 [UA 6 (m (k (y d)))])) .skip))
 (q (r 2 [MA 48 5,MA 49 0,MA 50 7,XA 51 2 49 50,SA 52 2 51,UA 53 (.lits 0 2 1 [i j 0,i j 0] [(0,(t 52))]),UA 54 (.append 1 2 16 (t 48) (t 53)),
 (MA 5 54)]) (.exit 1))) .skip)) (q (.tail 9 0 [FA 55 0 3,LA 56 55,MA 57 0,MA 58 7,XA 59 2 57 58,FA 60 0 59,LA 61 60,
 (UA 62 (.minmax g (t 56) (t 61))),FA 63 0 3,WA 1 63 62]) (.tail 9 0 [FA 64 1 3,LA 65 64,MA 66 0,MA 67 7,XA 68 2 66 67,FA 69 1 68,
 (LA 70 69),UA 71 (.minmax d (t 65) (t 70)),FA 72 1 3,WA 1 72 71]))))) (r 0 [MA 17 7,UA 18 (b .add d (t 17) (k (i j 1))),MA 7 18]))
def c24 : LCode :=
 (q (r 1 [UA 3 (u 0 (t 1)),UA 4 (m (k (.slice o 0 0)))]) (q (q (r 0 [SA 8 2 3,UA 9 (.call 66 [(t 8)])]) (c (t 9) (q (r 2 [UA 10 (.lits 0 2 0 [i j 0,i j 0] []),MA 11 0,UA 12 (.append 1 2 16 (t 10) (t 11)),
 (MA 4 12)]) .ret) .skip)) (q (r 0 [UA 5 (m (k (.slice o 0 0)))]) (q (r 0 [UA 6 (m (k (y g)))]) (q (q (r 0 [CA 7 0]) (z 0 (.loop c24l0))) (q (q (r 0 [MA 73 6,UA 74 (.not (t 73))])
 (c (t 74) (r 2 [MA 75 5,SA 76 2 3,UA 77 (.lits 0 2 1 [i j 0,i j 0] [(0,(t 76))]),UA 78 (.append 1 2 16 (t 75) (t 77)),MA 5 78]) .skip)) (q (r 0 [MA 79 5,
 (MA 4 79)]) .ret))))))) 
def c25l0 : LCode :=
 q (q (r 0 [MA 5 4,MA 6 0,UA 7 (n (t 6)),UA 8 (b .lss g (t 5) (t 7))]) (c (t 8) .skip (.exit 0))) (q (z 1 (.qui 0 [MA 11 3,MA 12 0,MA 13 4,XA 14 2 12 13,
 (FA 15 1 14),LA 16 15,UA 17 (b .add d (t 11) (t 16)),MA 18 0,MA 19 4,XA 20 2 18 19,FA 21 0 20,LA 22 21,UA 23 (b .sub d (t 17) (t 22)),
 (MA 3 23)])) (r 0 [MA 9 4,UA 10 (b .add d (t 9) (k (i j 1))),MA 4 10]))
def c25 : LCode :=
 (q (r 0 [CA 2 0]) (q (r 0 [CA 3 0]) (q (q (r 0 [CA 4 0]) (z 0 (.loop c25l0))) (q (r 0 [MA 24 3,MA 2 24]) .ret)))) 
def c26l0 : LCode :=
 q (r 0 [UA 10 (b .lss g (t 9) (t 8))]) (q (c (t 10) .skip (.exit 0)) (q (z 1 (q (r 1 [XA 11 3 7 9,SA 12 3 11,UA 5 (.alloc 0 (.agg #[.string ⟨#[]⟩,.slice o 0 0,.slice o 0 0])),
 (WA 3 5 12)]) (r 0 [MA 13 3,FA 14 2 5,LA 15 14,UA 16 (n (t 15)),UA 17 (b .add d (t 13) (t 16)),MA 3 17]))) (r 0 [UA 18 (b .add d (t 9) (k (i j 1))),
 (MA 9 18)])))
def c26 : LCode :=
 (q (r 1 [UA 1 (u 0 (t 0)),CA 2 0]) (q (r 0 [CA 3 0]) (q (q (r 0 [FA 6 1 1,LA 7 6,UA 8 (n (t 7)),CA 9 0]) (z 0 (.loop c26l0)))
 (q (r 0 [MA 19 3,MA 2 19]) .ret)))) 
def c27l1 : LCode :=
 q (q (r 0 [MA 79 19,MA 80 1,UA 81 (n (t 80)),UA 82 (b .lss g (t 79) (t 81))]) (c (t 82) .skip (.exit 2))) (q (z 3 (q (r 0 [MA 85 1,MA 86 19,XA 87 2 85 86,
 (FA 88 0 87),LA 89 88,UA 90 (b .rem g (t 89) (k (.int .u8 3))),UA 91 (.conv d .i64 (t 90)),MA 92 18,UA 93 (b .eql g (t 91) (t 92))]) (c (t 93) (q (.tail 8 0 [MA 94 1,
 (MA 95 19),XA 96 2 94 95,FA 97 1 96,LA 98 97,MA 99 18,UA 100 (.prim (.pidx 3 1) [(t 7),(t 99)]),LA 101 100,UA 102 (.call 48 [(t 98),(t 101)]),
 (UA 103 (n (t 102))),UA 104 (b .gtr g (t 103) (k (i j 0))),MA 20 104]) (q (r 0 [MA 105 20,MA 106 8,MA 107 19,UA 108 (.call 69 [(t 106),(t 107)]),UA 109 (.eqb g (t 105) (t 108))])
 (c (t 109) (q (r 0 [UA 6 (m (k (y g)))]) .ret) .skip))) .skip))) (r 0 [MA 83 19,UA 84 (b .add d (t 83) (k (i j 1))),MA 19 84]))
def c27l0 : LCode :=
 q (z 1 (q (r 0 [CA 10 0]) (q (q (r 0 [MA 23 2,UA 24 (n (t 23)),UA 25 (b .gtr g (t 24) (k (i j 0)))]) (c (t 25) (r 0 [MA 26 2,MA 27 9,MA 28 2,
 (UA 29 (n (t 28))),UA 30 (b .rem g (t 27) (t 29)),XA 31 1 26 30,LA 32 31,UA 33 (.conv d .i64 (t 32)),MA 10 33]) .skip)) (q (r 1 [SA 35 2 3,MA 36 10,
 (UA 37 (.call 68 [(t 35),(t 36)])),MA 34 37,UA 38 (.ext (t 34) 0),UA 39 (.ext (t 34) 1),UA 40 (.ext (t 34) 2),UA 12 (.alloc 0 (.agg #[i j 0,i j 0,i j 0])),MA 11 38,WA 3 12 39,
 (MA 13 40)]) (q (q (r 0 [MA 41 13,UA 42 (.not (t 41))]) (c (t 42) (.exit 0) .skip)) (q (r 2 [SA 44 2 3,MA 45 11,FA 46 0 12,LA 47 46,FA 48 1 12,
 (SA 49 2 48),UA 50 (.lits 0 2 1 [i j 0,i j 0] [(0,(t 49))]),UA 51 (.call 18 [(t 44),(t 45),(t 47),(t 50)]),MA 43 51,UA 52 (.ext (t 43) 0),UA 53 (.ext (t 43) 1),UA 54 (.ext (t 43) 2),
 (UA 55 (.ext (t 43) 3)),UA 14 (.alloc 1 (.agg #[i j 0,.slice o 0 0])),WA 2 14 52,MA 15 53,MA 16 54,MA 17 55]) (q (q (r 0 [MA 56 17,UA 57 (b .neq g (t 56) (k (i j 0))),
 (MA 58 57),GA 59 (m (t 16)) 58 g,GA 60 (n (t 59)) 58 g,GA 61 (b .gtr g (t 60) (k (i j 0))) 58 g,UA 62 (p (t 58) (k (y d)) (t 61))]) (c (t 62) (q (r 0 [UA 6 (m (k (y g)))])
 .ret) .skip)) (q (r 0 [SA 63 2 14,WA 2 3 63]) (q (r 0 [MA 64 11,UA 65 (.prim .sidx [(t 64),(k (i j 0))]),UA 66 (b .sub d (t 65) (k (.int .u8 97))),UA 67 (.conv d .i64 (t 66)),
 (MA 18 67)]) (q (.tree 0 (v 0 [7,8] (MA 68 18) (v 1 [2,3,6,7,8] (MA 69 18) (v 2 [3,6,7,8] (UA 70 (.prim (.pidx 3 1) [(t 7),(t 69)])) (v 3 [6,7,8] (LA 71 70) (v 4 [5,6,7,8] (FA 72 1 12)
 (v 5 [6,7,8] (SA 73 2 72) (h 6 (UA 74 (.call 24 [(t 71),(t 73)])) g (v 7 [8] (UA 75 (.prim (.pidx 3 1) [(t 7),(t 68)])) (h 8 (WA 1 75 74) g .done .none)) .none)))))))) (q (r 1 [MA 76 8,
 (MA 77 15),UA 78 (.append 0 1 8 (t 76) (t 77)),MA 8 78]) (q (r 0 [CA 19 0]) (z 2 (.loop c27l1)))))))))))))) (r 0 [MA 21 9,UA 22 (b .add d (t 21) (k (i j 1))),
 (MA 9 22)])
def c27 : LCode :=
 (q (r 1 [UA 3 (u 0 (t 0)),UA 6 (m (k (y g)))]) (q (r 1 [UA 7 (.alloc 0 (.agg #[.slice o 0 0,.slice o 0 0,.slice o 0 0]))]) (q (r 0 [UA 8 (m (k (.slice o 0 0)))]) (q (q (r 0 [CA 9 0])
 (z 0 (.loop c27l0))) (q (r 0 [FA 110 1 3,LA 111 110,UA 112 (n (t 111)),UA 113 (b .eql g (t 112) (k (i j 0))),MA 114 113,GA 115 (m (t 8)) 114 d,GA 116 (n (t 115)) 114 d,
 (GA 117 (m (t 1)) 114 d),GA 118 (n (t 117)) 114 d,GA 119 (b .eql g (t 116) (t 118)) 114 d,UA 120 (p (t 114) (t 119) (k (y g))),MA 6 120]) .ret))))) 
def c36 : LCode :=
 (q (r 0 [UA 4 (m (k (.slice o 0 0)))]) (q (r 1 [MA 5 0,MA 6 1,UA 7 (.build [i j 0,i j 0] [(0,1,(t 5)),(1,1,(t 6))]),UA 8 (.lits 0 2 1 [i j 0,i j 0] [(0,(t 7))]),MA 4 8])
 .ret)) 
def c37l0 : LCode :=
 q (r 0 [UA 9 (b .lss g (t 8) (t 7))]) (q (c (t 9) .skip (.exit 0)) (q (z 1 (q (r 1 [XA 10 2 6 8,SA 11 2 10,UA 5 (.alloc 0 (.agg #[i j 0,i j 0])),WA 2 5 11])
 (q (q (r 0 [SA 12 2 5,UA 13 (.call 71 [(t 12)]),UA 14 (.not (t 13)),MA 15 14,GA 16 (f 0 (t 5)) 15 g,GA 17 (l o (t 16)) 15 g,GA 18 (m (t 3)) 15 g,GA 19 (b .leq g (t 17) (t 18)) 15 g,
 (UA 20 (p (t 15) (k (y d)) (t 19)))]) (c (t 20) (q (r 0 [UA 2 (m (k (y g)))]) .ret) .skip)) (r 0 [FA 21 1 5,LA 22 21,MA 3 22])))) (r 0 [UA 23 (b .add d (t 8) (k (i j 1))),
 (MA 8 23)])))
def c37 : LCode :=
 (q (r 0 [UA 2 (m (k (y g)))]) (q (r 0 [UA 3 (m (k (.int .i64 (-1))))]) (q (q (r 0 [MA 6 0,UA 7 (n (t 6)),CA 8 0]) (z 0 (.loop c37l0))) (q (r 0 [UA 2 (m (k (y d)))]) .ret))))
 
def c38 : LCode :=
 (q (r 1 [UA 2 (u 0 (t 0)),CA 4 0,UA 5 (m (k (y g)))]) (q (r 0 [FA 6 1 2,LA 7 6,MA 8 1,UA 9 (.call 72 [(t 7),(t 8),(.func 73)]),UA 10 (.ext (t 9) 0),
 (UA 11 (.ext (t 9) 1)),MA 4 10,MA 5 11]) .ret)) 
def c40 : LCode :=
 (q (r 0 [UA 2 (m (k (.slice o 0 0)))]) (q (q (r 0 [MA 3 0,UA 4 (.eqn g (t 3) (k (.slice o 0 0)))]) (c (t 4) (q (r 0 [UA 2 (m (k (.slice o 0 0)))]) .ret) .skip)) (q (r 2 [UA 5 (.lits 0 3 0 [.string ⟨#[]⟩,.slice o 0 0,.slice o 0 0] []),
 (MA 6 0),UA 7 (.append 1 3 64 (t 5) (t 6)),MA 2 7]) .ret))) 
def c41 : LCode :=
 (q (r 2 [UA 2 (u 0 (t 0)),UA 4 (.alloc 1 (.agg #[i j 0,.slice o 0 0])),UA 5 (m (k (.pointer o)))]) (q (r 0 [FA 7 1 2,LA 8 7,UA 9 (.call 40 [(t 8)]),FA 10 1 2,WA 1 10 9])
 (q (r 0 [FA 11 1 2,LA 12 11,MA 13 1,XA 14 3 12 13,MA 6 14]) (q (.tree 0 (v 0 [12,13,14,15,16,17] (MA 15 6) (v 1 [15,16,17] (MA 16 6)
 (v 2 [3,4,5,6,11,12,13,14,15,16,17] (MA 17 6) (v 3 [4,5,6,11,12,13,14,15,16,17] (UA 18 (.nilc (t 17))) (v 4 [5,6,11,12,13,14,15,16,17] (FA 19 1 18) (v 5 [6,11,12,13,14,15,16,17] (LA 20 19)
 (v 7 [8,9,10,11,12,13,14,15,16,17] (MA 22 6) (v 8 [9,10,11,12,13,14,15,16,17] (UA 23 (.nilc (t 22))) (v 9 [10,11,12,13,14,15,16,17] (FA 24 2 23) (v 10 [11,12,13,14,15,16,17] (LA 25 24)
 (h 6 (UA 21 (.call 76 [(t 20)])) d (h 11 (UA 26 (.call 77 [(t 25)])) g (v 12 [13,14,15,16,17] (UA 27 (.nilc (t 15))) (v 13 [14,15,16,17] (FA 28 1 27) (h 14 (WA 1 28 21) g (v 15 [16,17] (UA 29 (.nilc (t 16)))
 (v 16 [17] (FA 30 2 29) (h 17 (WA 1 30 26) g .done .none))) .none))) .none) .none)))))))))))) (q (r 0 [SA 31 2 2,MA 32 6,WA 2 4 31,MA 5 32])
 .ret))))) 
def c42 : LCode :=
 (q (r 1 [UA 2 (u 0 (t 0)),CA 4 0,UA 5 (m (k (y g)))]) (q (r 0 [FA 6 2 2,LA 7 6,MA 8 1,UA 9 (.call 78 [(t 7),(t 8),(.func 79)]),UA 10 (.ext (t 9) 0),
 (UA 11 (.ext (t 9) 1)),MA 4 10,MA 5 11]) .ret)) 
def c43a0 : LCode :=
 q (r 1 [UA 6 (.alloc 0 (.agg #[i j 0,i j 0])),WA 2 6 11]) (r 1 [UA 7 (.alloc 0 (.agg #[.bool g,.bool g])),WA 2 7 12])
def c43r0 : LCode :=
 z 1 (q (r 0 [UA 13 (.prim (.pidx 2 1) [(t 7),(k (i j 0))]),LA 14 13,MA 15 14,GA 16 (.prim (.pidx 2 1) [(t 7),(k (i j 1))]) 15 d,GA 17 (l o (t 16)) 15 d,GA 18 (.not (t 17)) 15 d,
 (UA 19 (p (t 15) (t 18) (k (y g))))]) (c (t 19) (r 2 [LA 20 5,SA 21 2 6,UA 22 (.lits 0 2 1 [i j 0,i j 0] [(0,(t 21))]),UA 23 (.append 1 2 16 (t 20) (t 22)),WA 1 5 23])
 .skip))
def c43 : LCode :=
 (q (r 0 [UA 4 (m (k (.slice o 0 0)))]) (q (r 1 [UA 5 (.alloc 0 (.slice o 0 0))]) (q (q (r 0 [MA 8 0,MA 9 1,UA 10 (.call 80 [(t 8),(t 9)])]) (z 0 (.rfn (t 10) [11,12] c43a0 c43r0)))
 (q (r 0 [LA 24 5,UA 25 (.call 81 [(t 24)]),MA 4 25]) .ret)))) 
def c44l0 : LCode :=
 q (r 0 [UA 10 (b .lss g (t 9) (t 8))]) (q (c (t 10) .skip (.exit 0)) (q (z 1 (q (r 1 [XA 11 3 7 9,SA 12 3 11,UA 5 (.alloc 0 (.agg #[i j 0,i j 0,i j 0])),WA 3 5 12])
 (r 0 [MA 13 3,FA 14 1 5,SA 15 2 14,UA 16 (.call 82 [(t 13),(t 15)]),MA 3 16]))) (r 0 [UA 17 (b .add d (t 9) (k (i j 1))),MA 9 17])))
def c44 : LCode :=
 (q (r 1 [UA 1 (u 0 (t 0)),UA 2 (m (k (.slice o 0 0)))]) (q (r 0 [UA 3 (m (k (.slice o 0 0)))]) (q (q (r 0 [FA 6 1 1,LA 7 6,UA 8 (n (t 7)),CA 9 0]) (z 0 (.loop c44l0)))
 (q (r 0 [MA 18 3,MA 2 18]) .ret)))) 
def c46 : LCode :=
 (q (r 0 [UA 2 (m (k (.slice o 0 0)))]) (q (q (r 0 [MA 3 0,UA 4 (.eqn g (t 3) (k (.slice o 0 0)))]) (c (t 4) (q (r 0 [UA 2 (m (k (.slice o 0 0)))]) .ret) .skip)) (q (r 2 [UA 5 (.lits 0 2 0 [i j 0,i j 0] []),
 (MA 6 0),UA 7 (.append 1 2 16 (t 5) (t 6)),MA 2 7]) .ret))) 
def c47l0 : LCode :=
 q (r 0 [UA 13 (b .lss g (t 12) (t 11))]) (q (c (t 13) .skip (.exit 0)) (q (z 1 (q (r 1 [XA 14 2 10 12,SA 15 2 14,UA 9 (.alloc 0 (.agg #[i j 0,i j 0])),WA 2 9 15])
 (q (r 0 [MA 16 0,UA 17 (.nilc (t 16)),FA 18 0 17,LA 19 18,UA 20 (b .add d (t 19) (k (i j 1))),UA 21 (.nilc (t 16)),FA 22 0 21,WA 1 22 20])
 (.tree 2 (v 0 [8,9] (MA 23 7) (v 1 [2,3,4,6,7,8,9] (MA 24 0) (v 2 [3,4,6,7,8,9] (UA 25 (.nilc (t 24))) (v 3 [4,6,7,8,9] (FA 26 0 25) (v 4 [6,7,8,9] (LA 27 26) (v 5 [6,7,8,9] (SA 28 2 9)
 (v 6 [7,8,9] (UA 29 (.build [i j 0,i j 0,i j 0] [(0,1,(t 27)),(1,2,(t 28))])) (h 7 (UA 30 (.lits 0 3 1 [i j 0,i j 0,i j 0] [(0,(t 29))])) g (h 8 (UA 31 (.append 1 3 24 (t 23) (t 30))) g (v 9 [] (MA 7 31)
 .done) .none) .none)))))))))))) (r 0 [UA 32 (b .add d (t 12) (k (i j 1))),MA 12 32])))
def c47 : LCode :=
 (q (r 0 [UA 6 (m (k (.slice o 0 0)))]) (q (r 0 [UA 7 (m (k (.slice o 0 0)))]) (q (q (r 0 [MA 10 2,UA 11 (n (t 10)),CA 12 0]) (z 0 (.loop c47l0))) (q (r 1 [MA 33 1,
 (MA 34 1),UA 35 (.nilc (t 34)),FA 36 1 35,LA 37 36,MA 38 7,UA 39 (.append 0 3 24 (t 37) (t 38)),UA 40 (.nilc (t 33)),FA 41 1 40,WA 1 41 39])
 (q (r 0 [MA 42 1,UA 43 (.nilc (t 42)),FA 44 1 43,LA 45 44,UA 46 (.call 85 [(t 45),(.func 86)])]) (q (r 0 [MA 47 7,MA 6 47]) .ret)))))) 
def c48l0 : LCode :=
 q (q (r 0 [MA 10 6,MA 11 1,UA 12 (n (t 11)),UA 13 (b .lss g (t 10) (t 12))]) (c (t 13) .skip (.exit 0))) (q (z 1 (r 0 [MA 16 5,MA 17 1,MA 18 6,XA 19 2 17 18,
 (SA 20 2 19),UA 21 (.call 88 [(t 16),(t 20)]),MA 5 21])) (r 0 [MA 14 6,UA 15 (b .add d (t 14) (k (i j 1))),MA 6 15]))
def c48 : LCode :=
 (q (r 0 [UA 4 (m (k (.slice o 0 0)))]) (q (r 2 [UA 7 (.lits 0 2 0 [i j 0,i j 0] []),MA 8 0,UA 9 (.append 1 2 16 (t 7) (t 8)),MA 5 9]) (q (q (r 0 [CA 6 0]) (z 0
 (.loop c48l0))) (q (r 0 [MA 22 5,MA 4 22]) .ret)))) 
def c53 : LCode :=
 (q (r 0 [UA 4 (m (k (.slice o 0 0)))]) (q (r 0 [MA 8 0,UA 9 (.nilc (t 8)),FA 10 1 9,LA 11 10,MA 12 1,XA 13 3 11 12,MA 5 13]) (q (r 1 [
 (MA 14 5),UA 15 (.nilc (t 14)),SA 16 3 15,UA 17 (.call 57 [(t 16)]),UA 6 (.alloc 0 (.slice o 0 0)),WA 1 6 17]) (q (r 1 [UA 7 (.alloc 0 (.slice o 0 0))]) (q (r 0 [
 (MA 18 5),MA 19 5,UA 20 (.nilc (t 19)),FA 21 1 20,LA 22 21,UA 23 (.fn 90 [(t 6),(t 7)]),UA 24 (.call 89 [(t 22),(t 23)]),UA 25 (.nilc (t 18)),FA 26 1 25,
 (WA 1 26 24)]) (q (q (r 0 [MA 27 5,UA 28 (.nilc (t 27)),FA 29 2 28,LA 30 29,UA 31 (n (t 30)),UA 32 (b .eql g (t 31) (k (i j 0)))]) (c (t 32) (r 0 [MA 33 0,
 (MA 34 0),UA 35 (.nilc (t 34)),FA 36 1 35,LA 37 36,MA 38 1,MA 39 1,UA 40 (b .add d (t 39) (k (i j 1))),UA 41 (.call 91 [(t 37),(t 38),(t 40)]),UA 42 (.nilc (t 33)),
 (FA 43 1 42),WA 1 43 41]) .skip)) (q (r 0 [LA 44 7,MA 4 44]) .ret))))))) 
def c54 : LCode :=
 (q (r 2 [UA 2 (u 0 (t 0)),UA 3 (u 1 (t 1)),CA 4 0]) (q (r 0 [FA 5 1 2,LA 6 5,UA 7 (.fn 93 [(t 3)]),UA 8 (.call 92 [(t 6),(t 7)]),MA 4 8]) .ret))
 
def c56a0 : LCode :=
 q (r 1 [UA 6 (.alloc 0 (.agg #[i j 0,i j 0])),WA 2 6 11]) (r 1 [UA 7 (.alloc 0 (.agg #[.bool g,.bool g])),WA 2 7 12])
def c56r0 : LCode :=
 z 1 (q (r 0 [UA 13 (.prim (.pidx 2 1) [(t 7),(k (i j 0))]),LA 14 13,MA 15 14,GA 16 (.prim (.pidx 2 1) [(t 7),(k (i j 1))]) 15 d,GA 17 (l o (t 16)) 15 d,UA 18 (p (t 15) (t 17) (k (y g)))])
 (c (t 18) (r 2 [LA 19 5,SA 20 2 6,UA 21 (.lits 0 2 1 [i j 0,i j 0] [(0,(t 20))]),UA 22 (.append 1 2 16 (t 19) (t 21)),WA 1 5 22]) .skip))
def c56 : LCode :=
 (q (r 0 [UA 4 (m (k (.slice o 0 0)))]) (q (r 1 [UA 5 (.alloc 0 (.slice o 0 0))]) (q (q (r 0 [MA 8 0,MA 9 1,UA 10 (.call 80 [(t 8),(t 9)])]) (z 0 (.rfn (t 10) [11,12] c56a0 c56r0)))
 (q (r 0 [LA 23 5,UA 24 (.call 81 [(t 23)]),MA 4 24]) .ret)))) 
def c57l0 : LCode :=
 q (r 0 [UA 13 (b .lss g (t 12) (t 11))]) (q (c (t 13) .skip (.exit 2)) (q (z 3 (q (r 1 [XA 14 2 10 12,SA 15 2 14,UA 6 (.alloc 0 (.agg #[i j 0,i j 0])),WA 2 6 15])
 (r 0 [LA 16 3,SA 17 2 6,UA 18 (.call 82 [(t 16),(t 17)]),WA 1 3 18]))) (r 0 [UA 19 (b .add d (t 12) (k (i j 1))),MA 12 19])))
def c57a0 : LCode :=
 r 0 [MA 4 9]
def c57r0 : LCode :=
 z 1 (q (r 0 [MA 10 4,UA 11 (n (t 10)),CA 12 0]) (z 2 (.loop c57l0)))
def c57 : LCode :=
 (q (r 1 [UA 1 (u 0 (t 0)),UA 2 (m (k (.slice o 0 0)))]) (q (r 1 [UA 3 (.alloc 0 (.slice o 0 0))]) (q (q (r 0 [SA 7 3 1,UA 8 (.call 94 [(t 7)])]) (z 0 (.rfn (t 8) [9] c57a0 c57r0)))
 (q (r 0 [LA 20 3,MA 2 20]) .ret)))) 
def c62l0 : LCode :=
 q (q (r 0 [MA 16 6,MA 17 0,UA 18 (n (t 17)),UA 19 (b .lss g (t 16) (t 18))]) (c (t 19) .skip (.exit 0))) (q (z 1 (q (r 1 [MA 22 0,MA 23 6,XA 24 2 22 23,
 (SA 25 2 24),UA 7 (.alloc 0 (.agg #[i j 0,.slice o 0 0])),WA 2 7 25]) (q (r 0 [MA 26 1,SA 27 2 7,UA 28 (.callv (t 26) [(t 27)]),UA 29 (.not (t 28))])
 (c (t 29) (q (r 0 [MA 30 0,MA 31 5,SA 32 2 7,XA 33 2 30 31,WA 2 33 32]) (r 0 [MA 34 5,UA 35 (b .add d (t 34) (k (i j 1))),MA 5 35]))
 .skip)))) (r 0 [MA 20 6,UA 21 (b .add d (t 20) (k (i j 1))),MA 6 21]))
def c62 : LCode :=
 (q (r 0 [UA 4 (m (k (.slice o 0 0)))]) (q (r 0 [MA 8 0,MA 9 1,UA 10 (.call 95 [(t 8),(t 9)]),MA 5 10]) (q (q (r 0 [MA 11 5,UA 12 (b .eql g (t 11) (k (.int .i64 (-1))))])
 (c (t 12) (q (r 0 [MA 13 0,MA 4 13]) .ret) .skip)) (q (q (r 0 [MA 14 5,UA 15 (b .add d (t 14) (k (i j 1))),MA 6 15]) (z 0 (.loop c62l0))) (q (r 0 [MA 36 0,
 (MA 37 5),UA 38 (.slice 2 (t 36) (s (t 37)) o o),⟨o,.eff (.clr 2 [i j 0,.slice o 0 0]) 0 [(t 38)],o⟩]) (q (r 0 [MA 39 0,MA 40 5,UA 41 (.slice 2 (t 39) o (s (t 40)) o),
 (MA 4 41)]) .ret)))))) 
def c63 : LCode :=
 (q (r 1 [UA 3 (u 0 (t 0)),UA 4 (m (k (y g)))]) (q (q (r 0 [FA 5 1 3,LA 6 5,SA 7 2 1,UA 8 (.call 64 [(t 6),(t 7)]),UA 9 (.not (t 8))]) (c (t 9) (q (r 0 [UA 4 (m (k (y g)))])
 .ret) .skip)) (q (r 2 [LA 10 2,FA 11 0 3,LA 12 11,UA 13 (.lits 0 1 1 [i j 0] [(0,(t 12))]),UA 14 (.append 1 1 8 (t 10) (t 13)),WA 1 2 14]) (q (r 0 [
 (UA 4 (m (k (y d))))]) .ret)))) 
def c64 : LCode :=
 (q (r 1 [UA 3 (u 0 (t 1)),UA 4 (m (k (y g)))]) (q (r 1 [MA 5 0,SA 6 2 3,UA 7 (.lits 0 2 1 [i j 0,i j 0] [(0,(t 6))]),UA 8 (.call 56 [(t 5),(t 7)]),UA 9 (n (t 8)),UA 10 (b .gtr g (t 9) (k (i j 0))),
 (MA 4 10)]) .ret)) 
def c66 : LCode :=
 (q (r 1 [UA 1 (u 0 (t 0)),UA 2 (m (k (y g)))]) (q (r 0 [FA 3 1 1,LA 4 3,FA 5 0 1,LA 6 5,UA 7 (b .leq g (t 4) (t 6)),MA 2 7]) .ret)) 
def c67 : LCode :=
 (q (r 1 [UA 1 (u 0 (t 0)),UA 2 (m (k (y g)))]) (q (r 0 [SA 3 2 1,UA 4 (.call 66 [(t 3)]),MA 5 4,GA 6 (f 0 (t 1)) 5 g,GA 7 (l o (t 6)) 5 g,GA 8 (b .geq g (t 7) (k (i j 0))) 5 g,
 (GA 9 (m (t 8)) 5 g),GA 10 (f 1 (t 1)) 9 d,GA 11 (l o (t 10)) 9 d,GA 12 (b .leq g (t 11) (k (i j 1099511627776))) 9 d,GA 13 (p (t 9) (t 12) (k (y g))) 5 g,UA 14 (p (t 5) (k (y d)) (t 13)),
 (MA 2 14)]) .ret)) 
def c68l0 : LCode :=
 q (q (r 0 [MA 10 8,FA 11 1 2,LA 12 11,UA 13 (n (t 12)),UA 14 (b .lss g (t 10) (t 13))]) (c (t 14) .skip (.exit 0))) (q (z 1 (r 0 [MA 17 7,FA 18 1 2,
 (LA 19 18),MA 20 8,XA 21 3 19 20,FA 22 1 21,LA 23 22,UA 24 (n (t 23)),UA 25 (b .add d (t 17) (t 24)),MA 7 25])) (r 0 [MA 15 8,
 (UA 16 (b .add d (t 15) (k (i j 1)))),MA 8 16]))
def c68l1 : LCode :=
 q (q (r 0 [MA 32 9,FA 33 1 2,LA 34 33,UA 35 (n (t 34)),UA 36 (b .lss g (t 32) (t 35))]) (c (t 36) .skip (.exit 2))) (q (z 3 (q (q (r 0 [MA 39 1,FA 40 1 2,
 (LA 41 40),MA 42 9,XA 43 3 41 42,FA 44 1 43,LA 45 44,UA 46 (n (t 45)),UA 47 (b .lss g (t 39) (t 46))]) (c (t 47) (q (.tail 16 0 [FA 48 1 2,
 (LA 49 48),MA 50 9,XA 51 3 49 50,FA 52 0 51,LA 53 52,FA 54 1 2,LA 55 54,MA 56 9,XA 57 3 55 56,FA 58 1 57,
 (LA 59 58),MA 60 1,XA 61 3 59 60,SA 62 3 61,MA 4 53,WA 3 5 62,UA 6 (m (k (y d)))]) .ret) .skip)) (r 0 [MA 63 1,FA 64 1 2,
 (LA 65 64),MA 66 9,XA 67 3 65 66,FA 68 1 67,LA 69 68,UA 70 (n (t 69)),UA 71 (b .sub d (t 63) (t 70)),MA 1 71]))) (r 0 [MA 37 9,
 (UA 38 (b .add d (t 37) (k (i j 1)))),MA 9 38]))
def c68 : LCode :=
 (q (r 2 [UA 2 (u 0 (t 0)),UA 4 (m (k (.string ⟨#[]⟩))),UA 5 (.alloc 1 (.agg #[i j 0,i j 0,i j 0])),UA 6 (m (k (y g)))]) (q (r 0 [CA 7 0]) (q (q (r 0 [CA 8 0]) (z 0
 (.loop c68l0))) (q (q (r 0 [MA 26 7,UA 27 (b .eql g (t 26) (k (i j 0)))]) (c (t 27) (q (r 0 [UA 28 (.build [i j 0,i j 0,i j 0] []),UA 4 (m (k (.string ⟨#[]⟩))),WA 3 5 28,
 (UA 6 (m (k (y g))))]) .ret) .skip)) (q (r 0 [MA 29 1,MA 30 7,UA 31 (b .rem g (t 29) (t 30)),MA 1 31]) (q (q (r 0 [CA 9 0]) (z 2 (.loop c68l1))) (q (r 0 [
 (UA 72 (.build [i j 0,i j 0,i j 0] [])),UA 4 (m (k (.string ⟨#[]⟩))),WA 3 5 72,UA 6 (m (k (y g)))]) .ret))))))) 
def c69l0 : LCode :=
 q (q (r 0 [MA 6 5,MA 7 0,UA 8 (n (t 7)),UA 9 (b .lss g (t 6) (t 8))]) (c (t 9) .skip (.exit 0))) (q (z 1 (q (r 0 [MA 12 0,MA 13 5,XA 14 1 12 13,
 (LA 15 14),MA 16 1,UA 17 (b .eql g (t 15) (t 16))]) (c (t 17) (q (r 0 [UA 4 (m (k (y d)))]) .ret) .skip))) (r 0 [MA 10 5,UA 11 (b .add d (t 10) (k (i j 1))),MA 5 11]))
def c69 : LCode :=
 (q (r 0 [UA 4 (m (k (y g)))]) (q (q (r 0 [CA 5 0]) (z 0 (.loop c69l0))) (q (r 0 [UA 4 (m (k (y g)))]) .ret))) 
def c71 : LCode :=
 (q (r 1 [UA 1 (u 0 (t 0)),UA 2 (m (k (y g)))]) (q (r 0 [FA 3 0 1,LA 4 3,UA 5 (b .geq g (t 4) (k (i j 0))),MA 6 5,GA 7 (f 0 (t 1)) 6 d,GA 8 (l o (t 7)) 6 d,
 (GA 9 (f 1 (t 1)) 6 d),GA 10 (l o (t 9)) 6 d,GA 11 (b .lss g (t 8) (t 10)) 6 d,UA 12 (p (t 6) (t 11) (k (y g))),MA 13 12,GA 14 (f 1 (t 1)) 13 d,GA 15 (l o (t 14)) 13 d,
 (GA 16 (b .leq g (t 15) (k (i j 1099511627776))) 13 d),UA 17 (p (t 13) (t 16) (k (y g))),MA 2 17]) .ret)) 
def c72 : LCode :=
 (q (r 1 [UA 5 (u 0 (t 2)),CA 6 0,UA 7 (m (k (y g)))]) (q (r 0 [MA 8 0,MA 9 1,UA 10 (.fn 98 [(t 5)]),UA 11 (.call 97 [(t 8),(t 9),(t 10)]),UA 12 (.ext (t 11) 0),
 (UA 13 (.ext (t 11) 1)),MA 6 12,MA 7 13]) .ret)) 
def c73 : LCode :=
 (q (r 1 [UA 1 (u 0 (t 0)),UA 2 (m (k (.string ⟨#[]⟩)))]) (q (r 0 [FA 3 0 1,LA 4 3,MA 2 4]) .ret)) 
def c76 : LCode :=
 (q (r 0 [UA 2 (m (k (.slice o 0 0)))]) (q (q (r 0 [MA 3 0,UA 4 (.eqn g (t 3) (k (.slice o 0 0)))]) (c (t 4) (q (r 0 [UA 2 (m (k (.slice o 0 0)))]) .ret) .skip)) (q (r 2 [UA 5 (.lits 0 3 0 [i j 0,i j 0,i j 0] []),
 (MA 6 0),UA 7 (.append 1 3 24 (t 5) (t 6)),MA 2 7]) .ret))) 
def c77 : LCode :=
 (q (r 0 [UA 2 (m (k (.slice o 0 0)))]) (q (q (r 0 [MA 3 0,UA 4 (.eqn g (t 3) (k (.slice o 0 0)))]) (c (t 4) (q (r 0 [UA 2 (m (k (.slice o 0 0)))]) .ret) .skip)) (q (r 2 [UA 5 (.lits 0 2 0 [i j 0,.slice o 0 0] []),
 (MA 6 0),UA 7 (.append 1 2 32 (t 5) (t 6)),MA 2 7]) .ret))) 
def c78 : LCode :=
 (q (r 1 [UA 5 (u 0 (t 2)),CA 6 0,UA 7 (m (k (y g)))]) (q (r 0 [MA 8 0,MA 9 1,UA 10 (.fn 102 [(t 5)]),UA 11 (.call 101 [(t 8),(t 9),(t 10)]),UA 12 (.ext (t 11) 0),
 (UA 13 (.ext (t 11) 1)),MA 6 12,MA 7 13]) .ret)) 
def c79 : LCode :=
 (q (r 1 [UA 1 (u 0 (t 0)),CA 2 0]) (q (r 0 [FA 3 0 1,LA 4 3,MA 2 4]) .ret)) 
def c80 : LCode :=
 (q (r 2 [UA 2 (u 0 (t 0)),UA 3 (u 1 (t 1)),UA 4 (m (k (.nilFunc)))]) (q (r 0 [UA 5 (.fn 103 [(t 2),(t 3)]),MA 4 5]) .ret)) 
def c81l0 : LCode :=
 q (r 0 [UA 14 (b .lss g (t 13) (t 12))]) (q (c (t 14) .skip (.exit 0)) (q (z 1 (q (r 1 [XA 15 2 11 13,SA 16 2 15,UA 6 (.alloc 0 (.agg #[i j 0,i j 0])),WA 2 6 16])
 (q (r 0 [MA 17 4,UA 18 (n (t 17)),MA 7 18]) (z 2 (q (r 0 [FA 24 0 6,LA 25 24,FA 26 1 6,LA 27 26,UA 28 (b .geq g (t 25) (t 27)),MA 23 28])
 (c (t 23) .skip (q (.qui 0 [MA 30 7,UA 31 (b .gtr g (t 30) (k (i j 0))),MA 32 31,GA 33 (f 0 (t 6)) 32 d,GA 34 (l o (t 33)) 32 d,GA 35 (m (t 4)) 32 d,GA 36 (m (t 7)) 32 d,
 (GA 37 (b .sub d (t 36) (k (i j 1))) 32 d),GA 38 (x 2 (t 35) (t 37)) 32 d,GA 39 (f 1 (t 38)) 32 d,GA 40 (l o (t 39)) 32 d,GA 41 (b .leq g (t 34) (t 40)) 32 d,UA 42 (p (t 32) (t 41) (k (y g))),
 (MA 29 42)]) (c (t 29) (.tail 14 0 [MA 43 4,MA 44 7,UA 45 (b .sub d (t 44) (k (i j 1))),MA 46 4,MA 47 7,UA 48 (b .sub d (t 47) (k (i j 1))),XA 49 2 46 48,
 (FA 50 1 49),LA 51 50,FA 52 1 6,LA 53 52,UA 54 (.minmax d (t 51) (t 53)),XA 55 2 43 45,FA 56 1 55,WA 1 56 54]) (r 2 [MA 19 4,
 (SA 20 2 6),UA 21 (.lits 0 2 1 [i j 0,i j 0] [(0,(t 20))]),UA 22 (.append 1 2 16 (t 19) (t 21)),MA 4 22]))))))))) (r 0 [UA 57 (b .add d (t 13) (k (i j 1))),MA 13 57])))
def c81 : LCode :=
 (q (r 0 [UA 2 (m (k (.slice o 0 0)))]) (q (r 0 [MA 8 0,UA 9 (.call 108 [(t 8)]),UA 10 (.call 107 [(t 9),(.func 109)]),MA 3 10]) (q (r 0 [UA 4 (m (k (.slice o 0 0)))]) (q (q
 (r 0 [MA 11 3,UA 12 (n (t 11)),CA 13 0]) (z 0 (.loop c81l0))) (q (r 0 [MA 58 4,MA 2 58]) .ret))))) 
def c82 : LCode :=
 (q (r 1 [UA 3 (u 0 (t 1)),UA 4 (m (k (.slice o 0 0)))]) (q (.tree 2 (v 0 [1,4,5,6] (MA 5 0) (v 2 [3,4,5,6] (SA 7 2 3) (h 1 (UA 6 (.call 46 [(t 5)])) d (h 3 (UA 8 (.lits 0 2 1 [i j 0,i j 0] [(0,(t 7))])) g
 (h 4 (UA 9 (.append 1 2 16 (t 6) (t 8))) g (h 5 (UA 10 (.call 81 [(t 9)])) g (v 6 [] (MA 4 10) .done) .none) .none) .none) (h 3 (UA 8 (.lits 0 2 1 [i j 0,i j 0] [(0,(t 7))])) g (h 1 (UA 6 (.call 46 [(t 5)])) d
 (h 4 (UA 9 (.append 1 2 16 (t 6) (t 8))) g (h 5 (UA 10 (.call 81 [(t 9)])) g (v 6 [] (MA 4 10) .done) .none) .none) .none) .none))))) .ret)) 
def c87 : LCode :=
 (q (r 0 [CA 4 0]) (q (r 0 [MA 7 0,UA 8 (.call 113 [(t 7)]),MA 5 8]) (q (r 0 [MA 9 1,UA 10 (.call 113 [(t 9)]),MA 6 10]) (q (q (r 0 [MA 11 5])
 (c (t 11) (q (q (r 0 [MA 12 6]) (c (t 12) (q (r 0 [CA 4 0]) .ret) .skip)) (q (r 0 [UA 4 (m (k (.int .i64 (-1))))]) .ret)) .skip)) (q (q (r 0 [MA 13 6]) (c (t 13)
 (q (r 0 [CA 4 1]) .ret) .skip)) (q (q (r 0 [MA 14 0,MA 15 1,UA 16 (b .lss g (t 14) (t 15))]) (c (t 16) (q (r 0 [UA 4 (m (k (.int .i64 (-1))))]) .ret) .skip)) (q
 (q (r 0 [MA 17 0,MA 18 1,UA 19 (b .gtr g (t 17) (t 18))]) (c (t 19) (q (r 0 [CA 4 1]) .ret) .skip)) (q (r 0 [CA 4 0]) .ret)))))))) 
def c88l0 : LCode :=
 q (q (r 0 [MA 14 6,MA 15 0,UA 16 (n (t 15)),UA 17 (b .lss g (t 14) (t 16))]) (c (t 17) .skip (.exit 0))) (q (z 1 (q (.tree 1 (v 0 [2,3,4,13,15] (MA 20 0) (v 1 [2,3,4,13,15] (MA 21 6)
 (v 2 [3,4,13,15] (XA 22 2 20 21) (v 3 [4,13,15] (FA 23 0 22) (v 4 [13,15] (LA 24 23) (v 5 [7,8,9,12,13,15] (MA 25 0) (v 6 [7,8,9,12,13,15] (MA 26 6) (v 7 [8,9,12,13,15] (XA 27 2 25 26)
 (v 8 [9,12,13,15] (FA 28 1 27) (v 9 [12,13,15] (LA 29 28) (v 10 [11,12,13,15] (FA 30 0 3) (v 11 [12,13,15] (LA 31 30) (v 12 [13,15] (UA 32 (.minmax g (t 29) (t 31))) (v 13 [15] (UA 33 (.build [i j 0,i j 0] [(0,1,(t 24)),(1,1,(t 32))]))
 (h 14 (UA 7 (.alloc 0 (.agg #[i j 0,i j 0]))) d (h 15 (WA 2 7 33) g .done .none) .none)))))))))))))))) (q (.tree 1 (v 0 [2,3,4,7,13,15] (MA 34 0) (v 1 [2,3,4,7,13,15] (MA 35 6)
 (v 2 [3,4,7,13,15] (XA 36 2 34 35) (v 3 [4,7,13,15] (FA 37 0 36) (v 4 [7,13,15] (LA 38 37) (v 5 [6,7,13,15] (FA 39 1 3) (v 6 [7,13,15] (LA 40 39) (v 7 [13,15] (UA 41 (.minmax d (t 38) (t 40)))
 (v 8 [10,11,12,13,15] (MA 42 0) (v 9 [10,11,12,13,15] (MA 43 6) (v 10 [11,12,13,15] (XA 44 2 42 43) (v 11 [12,13,15] (FA 45 1 44) (v 12 [13,15] (LA 46 45) (v 13 [15] (UA 47 (.build [i j 0,i j 0] [(0,1,(t 41)),(1,1,(t 46))]))
 (h 14 (UA 8 (.alloc 0 (.agg #[i j 0,i j 0]))) d (h 15 (WA 2 8 47) g .done .none) .none)))))))))))))))) (q (q (r 0 [SA 48 2 7,UA 49 (.call 66 [(t 48)]),UA 50 (.not (t 49))])
 (c (t 50) (r 2 [MA 51 5,SA 52 2 7,UA 53 (.lits 0 2 1 [i j 0,i j 0] [(0,(t 52))]),UA 54 (.append 1 2 16 (t 51) (t 53)),MA 5 54]) .skip)) (q (r 0 [SA 55 2 8,
 (UA 56 (.call 66 [(t 55)])),UA 57 (.not (t 56))]) (c (t 57) (r 2 [MA 58 5,SA 59 2 8,UA 60 (.lits 0 2 1 [i j 0,i j 0] [(0,(t 59))]),UA 61 (.append 1 2 16 (t 58) (t 60)),MA 5 61])
 .skip)))))) (r 0 [MA 18 6,UA 19 (b .add d (t 18) (k (i j 1))),MA 6 19]))
def c88 : LCode :=
 (q (r 1 [UA 3 (u 0 (t 1)),UA 4 (m (k (.slice o 0 0)))]) (q (q (r 0 [SA 9 2 3,UA 10 (.call 66 [(t 9)])]) (c (t 10) (q (r 2 [UA 11 (.lits 0 2 0 [i j 0,i j 0] []),MA 12 0,
 (UA 13 (.append 1 2 16 (t 11) (t 12))),MA 4 13]) .ret) .skip)) (q (r 0 [UA 5 (m (k (.slice o 0 0)))]) (q (q (r 0 [CA 6 0]) (z 0 (.loop c88l0))) (q (r 0 [MA 62 5,MA 4 62])
 .ret))))) 
def c89l0 : LCode :=
 q (q (r 0 [MA 16 6,MA 17 0,UA 18 (n (t 17)),UA 19 (b .lss g (t 16) (t 18))]) (c (t 19) .skip (.exit 0))) (q (z 1 (q (r 1 [MA 22 0,MA 23 6,XA 24 3 22 23,
 (SA 25 3 24),UA 7 (.alloc 0 (.agg #[i j 0,i j 0,i j 0])),WA 3 7 25]) (q (r 0 [MA 26 1,SA 27 3 7,UA 28 (.callv (t 26) [(t 27)]),UA 29 (.not (t 28))])
 (c (t 29) (q (r 0 [MA 30 0,MA 31 5,SA 32 3 7,XA 33 3 30 31,WA 3 33 32]) (r 0 [MA 34 5,UA 35 (b .add d (t 34) (k (i j 1))),MA 5 35]))
 .skip)))) (r 0 [MA 20 6,UA 21 (b .add d (t 20) (k (i j 1))),MA 6 21]))
def c89 : LCode :=
 (q (r 0 [UA 4 (m (k (.slice o 0 0)))]) (q (r 0 [MA 8 0,MA 9 1,UA 10 (.call 92 [(t 8),(t 9)]),MA 5 10]) (q (q (r 0 [MA 11 5,UA 12 (b .eql g (t 11) (k (.int .i64 (-1))))])
 (c (t 12) (q (r 0 [MA 13 0,MA 4 13]) .ret) .skip)) (q (q (r 0 [MA 14 5,UA 15 (b .add d (t 14) (k (i j 1))),MA 6 15]) (z 0 (.loop c89l0))) (q (r 0 [MA 36 0,
 (MA 37 5),UA 38 (.slice 3 (t 36) (s (t 37)) o o),⟨o,.eff (.clr 3 [i j 0,i j 0,i j 0]) 0 [(t 38)],o⟩]) (q (r 0 [MA 39 0,MA 40 5,UA 41 (.slice 3 (t 39) o (s (t 40)) o),MA 4 41])
 .ret)))))) 
def c90 : LCode :=
 (q (r 1 [UA 3 (u 0 (t 0)),UA 4 (m (k (y g)))]) (q (q (r 0 [LA 5 1,FA 6 1 3,SA 7 2 6,UA 8 (.call 64 [(t 5),(t 7)])]) (c (t 8) (q (r 0 [UA 4 (m (k (y g)))]) .ret)
 .skip)) (q (r 2 [LA 9 2,FA 10 0 3,LA 11 10,UA 12 (.lits 0 1 1 [i j 0] [(0,(t 11))]),UA 13 (.append 1 1 8 (t 9) (t 12)),WA 1 2 13]) (q (r 0 [UA 4 (m (k (y d)))])
 .ret)))) 
def c92l0 : LCode :=
 q (r 0 [UA 9 (b .lss g (t 8) (t 7))]) (q (c (t 9) .skip (.exit 0)) (q (z 1 (q (r 0 [MA 10 8,MA 5 10]) (q (r 0 [MA 11 1,MA 12 0,MA 13 5,XA 14 3 12 13,
 (SA 15 3 14),UA 16 (.callv (t 11) [(t 15)])]) (c (t 16) (q (r 0 [MA 17 5,MA 4 17]) .ret) .skip)))) (r 0 [UA 18 (b .add d (t 8) (k (i j 1))),MA 8 18])))
def c92 : LCode :=
 (q (r 0 [CA 4 0]) (q (q (r 0 [MA 6 0,UA 7 (n (t 6)),CA 8 0]) (z 0 (.loop c92l0))) (q (r 0 [UA 4 (m (k (.int .i64 (-1))))]) .ret))) 
def c93 : LCode :=
 (q (r 1 [UA 2 (u 0 (t 0)),UA 3 (m (k (y g)))]) (q (r 0 [FA 4 0 2,LA 5 4,LA 6 1,UA 7 (b .eql g (t 5) (t 6)),MA 3 7]) .ret)) 
def c94 : LCode :=
 (q (r 1 [UA 1 (u 0 (t 0)),UA 2 (m (k (.nilFunc)))]) (q (r 0 [UA 3 (.fn 114 [(t 1)]),MA 2 3]) .ret)) 
def c95l0 : LCode :=
 q (r 0 [UA 9 (b .lss g (t 8) (t 7))]) (q (c (t 9) .skip (.exit 0)) (q (z 1 (q (r 0 [MA 10 8,MA 5 10]) (q (r 0 [MA 11 1,MA 12 0,MA 13 5,XA 14 2 12 13,
 (SA 15 2 14),UA 16 (.callv (t 11) [(t 15)])]) (c (t 16) (q (r 0 [MA 17 5,MA 4 17]) .ret) .skip)))) (r 0 [UA 18 (b .add d (t 8) (k (i j 1))),MA 8 18])))
def c95 : LCode :=
 (q (r 0 [CA 4 0]) (q (q (r 0 [MA 6 0,UA 7 (n (t 6)),CA 8 0]) (z 0 (.loop c95l0))) (q (r 0 [UA 4 (m (k (.int .i64 (-1))))]) .ret))) 
def c97l0 : LCode :=
 q (q (r 0 [MA 15 9,MA 16 10,UA 17 (b .lss g (t 15) (t 16))]) (c (t 17) .skip (.exit 0))) (z 1 (q (r 0 [MA 18 9,MA 19 10,UA 20 (b .add d (t 18) (t 19)),UA 21 (.conv g .u64 (t 20)),
 (UA 22 (.shift .shr (t 21) (k (.int .u64 1)))),UA 23 (.conv g .i64 (t 22)),MA 11 23]) (q (r 0 [MA 24 2,MA 25 0,MA 26 11,XA 27 3 25 26,SA 28 3 27,
 (MA 29 1),UA 30 (.callv (t 24) [(t 28),(t 29)]),UA 31 (b .lss g (t 30) (k (i j 0)))]) (c (t 31) (r 0 [MA 32 11,UA 33 (b .add d (t 32) (k (i j 1))),MA 9 33]) (r 0 [MA 34 11,
 (MA 10 34)])))))
def c97 : LCode :=
 (q (r 0 [CA 6 0,UA 7 (m (k (y g)))]) (q (r 0 [MA 12 0,UA 13 (n (t 12)),MA 8 13]) (q (r 0 [MA 14 8,CA 9 0,MA 10 14]) (q (z 0
 (.loop c97l0)) (q (r 0 [MA 35 9,MA 36 9,MA 37 8,UA 38 (b .lss g (t 36) (t 37)),MA 39 38,GA 40 (m (t 2)) 39 d,GA 41 (m (t 0)) 39 d,GA 42 (m (t 9)) 39 d,
 (GA 43 (x 3 (t 41) (t 42)) 39 d),GA 44 (l (s 3) (t 43)) 39 d,GA 45 (m (t 1)) 39 d,GA 46 (.callv (t 40) [(t 44),(t 45)]) 39 d,GA 47 (b .eql g (t 46) (k (i j 0))) 39 d,UA 48 (p (t 39) (t 47) (k (y g))),
 (MA 6 35),MA 7 48]) .ret))))) 
def c98 : LCode :=
 (q (r 1 [UA 3 (u 0 (t 0)),CA 5 0]) (q (r 0 [LA 6 2,SA 7 3 3,UA 8 (.callv (t 6) [(t 7)]),MA 9 1,UA 10 (.call 99 [(t 8),(t 9)]),MA 5 10])
 .ret)) 
def c99 : LCode :=
 (q (r 0 [CA 4 0]) (q (r 0 [MA 7 0,UA 8 (.call 115 [(t 7)]),MA 5 8]) (q (r 0 [MA 9 1,UA 10 (.call 115 [(t 9)]),MA 6 10]) (q (q (r 0 [MA 11 5])
 (c (t 11) (q (q (r 0 [MA 12 6]) (c (t 12) (q (r 0 [CA 4 0]) .ret) .skip)) (q (r 0 [UA 4 (m (k (.int .i64 (-1))))]) .ret)) .skip)) (q (q (r 0 [MA 13 6]) (c (t 13)
 (q (r 0 [CA 4 1]) .ret) .skip)) (q (q (r 0 [MA 14 0,MA 15 1,UA 16 (.prim (.sbin .lss) [(t 14),(t 15)])]) (c (t 16) (q (r 0 [UA 4 (m (k (.int .i64 (-1))))]) .ret)
 .skip)) (q (q (r 0 [MA 17 0,MA 18 1,UA 19 (.prim (.sbin .gtr) [(t 17),(t 18)])]) (c (t 19) (q (r 0 [CA 4 1]) .ret) .skip)) (q (r 0 [CA 4 0]) .ret))))))))
 
def c101l0 : LCode :=
 q (q (r 0 [MA 15 9,MA 16 10,UA 17 (b .lss g (t 15) (t 16))]) (c (t 17) .skip (.exit 0))) (z 1 (q (r 0 [MA 18 9,MA 19 10,UA 20 (b .add d (t 18) (t 19)),UA 21 (.conv g .u64 (t 20)),
 (UA 22 (.shift .shr (t 21) (k (.int .u64 1)))),UA 23 (.conv g .i64 (t 22)),MA 11 23]) (q (r 0 [MA 24 2,MA 25 0,MA 26 11,XA 27 2 25 26,SA 28 2 27,
 (MA 29 1),UA 30 (.callv (t 24) [(t 28),(t 29)]),UA 31 (b .lss g (t 30) (k (i j 0)))]) (c (t 31) (r 0 [MA 32 11,UA 33 (b .add d (t 32) (k (i j 1))),MA 9 33]) (r 0 [MA 34 11,
 (MA 10 34)])))))
def c101 : LCode :=
 (q (r 0 [CA 6 0,UA 7 (m (k (y g)))]) (q (r 0 [MA 12 0,UA 13 (n (t 12)),MA 8 13]) (q (r 0 [MA 14 8,CA 9 0,MA 10 14]) (q (z 0
 (.loop c101l0)) (q (r 0 [MA 35 9,MA 36 9,MA 37 8,UA 38 (b .lss g (t 36) (t 37)),MA 39 38,GA 40 (m (t 2)) 39 d,GA 41 (m (t 0)) 39 d,GA 42 (m (t 9)) 39 d,
 (GA 43 (x 2 (t 41) (t 42)) 39 d),GA 44 (l (s 2) (t 43)) 39 d,GA 45 (m (t 1)) 39 d,GA 46 (.callv (t 40) [(t 44),(t 45)]) 39 d,GA 47 (b .eql g (t 46) (k (i j 0))) 39 d,UA 48 (p (t 39) (t 47) (k (y g))),
 (MA 6 35),MA 7 48]) .ret))))) 
def c102 : LCode :=
 (q (r 1 [UA 3 (u 0 (t 0)),CA 5 0]) (q (r 0 [LA 6 2,SA 7 2 3,UA 8 (.callv (t 6) [(t 7)]),MA 9 1,UA 10 (.call 87 [(t 8),(t 9)]),MA 5 10])
 .ret)) 
def c103l0 : LCode :=
 q (r 0 [UA 17 (b .lss g (t 16) (t 15))]) (q (c (t 17) .skip (.exit 0)) (q (z 1 (q (r 1 [XA 18 2 14 16,SA 19 2 18,UA 6 (.alloc 0 (.agg #[i j 0,i j 0])),WA 2 6 19])
 (r 2 [MA 20 4,FA 21 0 6,LA 22 21,FA 23 1 6,LA 24 23,UA 25 (.lits 0 1 2 [i j 0] [(0,(t 22)),(1,(t 24))]),UA 26 (.append 1 1 8 (t 20) (t 25)),MA 4 26])))
 (r 0 [UA 27 (b .add d (t 16) (k (i j 1))),MA 16 27])))
def c103l2 : LCode :=
 q (q (.qui 0 [MA 48 7,LA 49 1,UA 50 (n (t 49)),UA 51 (b .lss g (t 48) (t 50)),MA 52 51,GA 53 (l o (t 1)) 52 d,GA 54 (m (t 7)) 52 d,GA 55 (x 2 (t 53) (t 54)) 52 d,
 (GA 56 (f 1 (t 55)) 52 d),GA 57 (l o (t 56)) 52 d,GA 58 (f 0 (t 10)) 52 d,GA 59 (l o (t 58)) 52 d,GA 60 (b .leq g (t 57) (t 59)) 52 d,UA 61 (p (t 52) (t 60) (k (y g)))]) (c (t 61)
 .skip (.exit 4))) (z 5 (r 0 [MA 62 7,UA 63 (b .add d (t 62) (k (i j 1))),MA 7 63]))
def c103l3 : LCode :=
 q (q (.qui 0 [MA 64 8,LA 65 2,UA 66 (n (t 65)),UA 67 (b .lss g (t 64) (t 66)),MA 68 67,GA 69 (l o (t 2)) 68 d,GA 70 (m (t 8)) 68 d,GA 71 (x 2 (t 69) (t 70)) 68 d,
 (GA 72 (f 1 (t 71)) 68 d),GA 73 (l o (t 72)) 68 d,GA 74 (f 0 (t 10)) 68 d,GA 75 (l o (t 74)) 68 d,GA 76 (b .leq g (t 73) (t 75)) 68 d,UA 77 (p (t 68) (t 76) (k (y g)))]) (c (t 77)
 .skip (.exit 6))) (z 7 (r 0 [MA 78 8,UA 79 (b .add d (t 78) (k (i j 1))),MA 8 79]))
def c103l1 : LCode :=
 q (q (r 0 [MA 32 9,MA 33 4,UA 34 (n (t 33)),UA 35 (b .lss g (t 32) (t 34))]) (c (t 35) .skip (.exit 2))) (q (z 3 (q (.tree 1 (v 0 [3,4,9,11] (MA 38 4) (v 1 [2,3,4,9,11] (MA 39 9)
 (v 2 [3,4,9,11] (UA 40 (b .sub d (t 39) (k (i j 1)))) (v 3 [4,9,11] (XA 41 1 38 40) (v 4 [9,11] (LA 42 41) (v 5 [7,8,9,11] (MA 43 4) (v 6 [7,8,9,11] (MA 44 9) (v 7 [8,9,11] (XA 45 1 43 44)
 (v 8 [9,11] (LA 46 45) (v 9 [11] (UA 47 (.build [i j 0,i j 0] [(0,1,(t 42)),(1,1,(t 46))])) (h 10 (UA 10 (.alloc 0 (.agg #[i j 0,i j 0]))) d (h 11 (WA 2 10 47) g .done .none) .none))))))))))))
 (q (z 4 (.loop c103l2)) (q (z 6 (.loop c103l3)) (q (.yreg 31 0 [MA 80 0,SA 81 2 10,MA 82 7,LA 83 1,UA 84 (n (t 83)),UA 85 (b .lss g (t 82) (t 84)),MA 86 85,
 (GA 87 (l o (t 1)) 86 d),GA 88 (m (t 7)) 86 d,GA 89 (x 2 (t 87) (t 88)) 86 d,GA 90 (f 0 (t 89)) 86 d,GA 91 (l o (t 90)) 86 d,GA 92 (f 0 (t 10)) 86 d,GA 93 (l o (t 92)) 86 d,
 (GA 94 (b .leq g (t 91) (t 93)) 86 d),UA 95 (p (t 86) (t 94) (k (y g))),MA 96 8,LA 97 2,UA 98 (n (t 97)),UA 99 (b .lss g (t 96) (t 98)),MA 100 99,GA 101 (l o (t 2)) 100 d,
 (GA 102 (m (t 8)) 100 d),GA 103 (x 2 (t 101) (t 102)) 100 d,GA 104 (f 0 (t 103)) 100 d,GA 105 (l o (t 104)) 100 d,GA 106 (f 0 (t 10)) 100 d,GA 107 (l o (t 106)) 100 d,
 (GA 108 (b .leq g (t 105) (t 107)) 100 d),UA 109 (p (t 100) (t 108) (k (y g))),UA 110 (.build [.bool g,.bool g] [(0,1,(t 95)),(1,1,(t 109))]),UA 111 (.yld (t 80) [(t 81),(t 110)]),UA 112 (.not (t 111))])
 (c (t 112) .ret .skip)))))) (r 0 [MA 36 9,UA 37 (b .add d (t 36) (k (i j 1))),MA 9 37]))
def c103 : LCode :=
 (q (r 0 [UA 4 (m (k (.slice o 0 0)))]) (q (q (r 1 [LA 11 1,LA 12 2,UA 13 (.lits 0 1 2 [.slice o 0 0] [(0,(t 11)),(1,(t 12))]),UA 14 (.call 104 [(t 13)]),UA 15 (n (t 14)),
 (CA 16 0)]) (z 0 (.loop c103l0))) (q (r 0 [MA 28 4,UA 29 (.call 105 [(t 28)])]) (q (r 0 [MA 30 4,UA 31 (.call 106 [(t 30)]),MA 4 31]) (q (r 0 [CA 7 0,
 (CA 8 0)]) (q (r 0 [CA 9 1]) (z 2 (.loop c103l1)))))))) 
def c104l0 : LCode :=
 q (r 0 [UA 12 (b .lss g (t 11) (t 10))]) (q (c (t 12) .skip (.exit 0)) (q (z 1 (q (r 0 [XA 13 1 9 11,LA 14 13,MA 5 14]) (q (r 0 [MA 15 3,MA 16 5,
 (UA 17 (n (t 16))),UA 18 (b .add d (t 15) (t 17)),MA 3 18]) (q (r 0 [MA 19 3,UA 20 (b .lss g (t 19) (k (i j 0)))]) (c (t 20) .bad .skip))))) (r 0 [UA 22 (b .add d (t 11) (k (i j 1))),
 (MA 11 22)])))
def c104l1 : LCode :=
 q (r 0 [UA 28 (b .lss g (t 27) (t 26))]) (q (c (t 28) .skip (.exit 2)) (q (z 3 (q (r 0 [XA 29 1 25 27,LA 30 29,MA 8 30]) (r 1 [MA 31 6,MA 32 8,
 (UA 33 (.append 0 2 16 (t 31) (t 32))),MA 6 33]))) (r 0 [UA 34 (b .add d (t 27) (k (i j 1))),MA 27 34])))
def c104 : LCode :=
 (q (r 0 [UA 2 (m (k (.slice o 0 0)))]) (q (r 0 [CA 3 0]) (q (q (r 0 [MA 9 0,UA 10 (n (t 9)),CA 11 0]) (z 0 (.loop c104l0))) (q (r 0 [MA 23 3,UA 24 (.call 117 [(k (.slice o 0 0)),(t 23)]),
 (MA 6 24)]) (q (q (r 0 [MA 25 0,UA 26 (n (t 25)),CA 27 0]) (z 2 (.loop c104l1))) (q (r 0 [MA 35 6,MA 2 35]) .ret)))))) 
def c107 : LCode :=
 (q (r 0 [UA 4 (m (k (.slice o 0 0)))]) (q (r 0 [MA 6 0,UA 7 (.call 119 [(t 6)]),MA 5 7]) (q (r 0 [MA 8 5,MA 9 1,UA 10 (.call 120 [(t 8),(t 9)])]) (q (r 0 [
 (MA 11 5),MA 4 11]) .ret)))) 
def c108 : LCode :=
 (q (r 1 [UA 1 (u 0 (t 0)),UA 2 (m (k (.nilFunc)))]) (q (r 0 [UA 3 (.fn 121 [(t 1)]),MA 2 3]) .ret)) 
def c113 : LCode :=
 (q (r 0 [UA 2 (m (k (y g)))]) (q (r 0 [MA 3 0,MA 4 0,UA 5 (b .neq g (t 3) (t 4)),MA 2 5]) .ret)) 
def c114l0 : LCode :=
 q (r 0 [UA 9 (b .lss g (t 8) (t 7))]) (q (c (t 9) .skip (.exit 0)) (q (z 1 (q (r 1 [XA 10 2 6 8,SA 11 2 10,UA 4 (.alloc 0 (.agg #[i j 0,.slice o 0 0])),WA 2 4 11])
 (q (.yreg 0 0 [MA 12 0,FA 13 1 4,LA 14 13,UA 15 (.yld (t 12) [(t 14)]),UA 16 (.not (t 15))]) (c (t 16) .ret .skip)))) (r 0 [UA 17 (b .add d (t 8) (k (i j 1))),MA 8 17])))
def c114 : LCode :=
 (q (r 0 [FA 5 2 1,LA 6 5,UA 7 (n (t 6)),CA 8 0]) (z 0 (.loop c114l0))) 
def c115 : LCode :=
 (q (r 0 [UA 2 (m (k (y g)))]) (q (r 0 [MA 3 0,MA 4 0,UA 5 (.prim (.sbin .neq) [(t 3),(t 4)]),MA 2 5]) .ret)) 
def c119 : LCode :=
 (q (r 0 [UA 2 (m (k (.slice o 0 0)))]) (q (r 0 [MA 3 0,UA 4 (.call 142 [(k (.slice o 0 0)),(t 3)]),MA 2 4]) .ret)) 
def c121l0 : LCode :=
 q (r 0 [UA 8 (b .lss g (t 7) (t 6))]) (q (c (t 8) .skip (.exit 0)) (q (z 1 (q (r 1 [XA 9 2 5 7,SA 10 2 9,UA 4 (.alloc 0 (.agg #[i j 0,i j 0])),WA 2 4 10])
 (q (.yreg 0 0 [MA 11 0,SA 12 2 4,UA 13 (.yld (t 11) [(t 12)]),UA 14 (.not (t 13))]) (c (t 14) .ret .skip)))) (r 0 [UA 15 (b .add d (t 7) (k (i j 1))),MA 7 15])))
def c121 : LCode :=
 (q (r 0 [LA 5 1,UA 6 (n (t 5)),CA 7 0]) (z 0 (.loop c121l0))) 
def c142a0 : LCode :=
 r 1 [UA 5 (.alloc 0 (.agg #[i j 0,i j 0])),WA 2 5 7]
def c142r0 : LCode :=
 z 1 (r 2 [LA 8 2,SA 9 2 5,UA 10 (.lits 0 2 1 [i j 0,i j 0] [(0,(t 9))]),UA 11 (.append 1 2 16 (t 8) (t 10)),WA 1 2 11])
def c142 : LCode :=
 (q (r 1 [UA 2 (u 0 (t 0)),UA 4 (m (k (.slice o 0 0)))]) (q (q (r 0 [MA 6 1]) (z 0 (.rfn (t 6) [7] c142a0 c142r0))) (q (r 0 [LA 12 2,MA 4 12]) .ret))) 
end Go.Fx.J
