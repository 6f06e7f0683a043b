import Derived.Test.YtgahgbpccjcmmaaT14b
import Derived.Test.YtgahgbpccjcmmaaDSan
import Derived.Test.YtgahgbpccjcmmaaFxRun
set_option linter.unusedVariables false
set_option linter.unusedSimpArgs false
set_option linter.unusedSectionVars false
open List renaming getD_eq_getElem?_getD → yA, map_cons → yB, replicate → yC, getElem?_cons_succ → yD, take → yE, drop → yF, mem_range'_1 → yG, set_cons_succ → yH, append_nil → yJ, range' → yK, map_nil → yL, getElem?_replicate → yM, getElem?_set → yN, getElem?_eq_getElem → yO, ext_getElem → yP, getElem_mapIdx → yQ, drop_of_length_le → yR, take_of_length_le → yS, append_assoc → yV, map_append → yW, length_append → yX, getElem_map → yY, getElem?_append_right → vC, length_cons → vD, drop_append → vE, all_eq_true → vF, getElem_set → vG, mem_cons_self → vH, mem_cons_of_mem → vI, mem_singleton → vJ, map_map → vK, map_congr_left → vL, set_eq_take_append_cons_drop → vM, set_set → vN, cons_append → vO, getElem?_eq_none → vP, length_set → vQ, set_append_right → vR, getElem?_range → vS, getElem?_append_left → vT, getElem_replicate → vU
open Nat renaming le_refl → yI, zero_le → yU, mul_one → vA
open Int renaming toNat_natCast → yT, tmod_eq_emod_of_nonneg → yZ, toNat → vB
namespace Go.Fx.D
open Go Go.Fx Go.Proofs
set_option maxRecDepth 20000
theorem san8 : Ok 8 [] (Is (.b true)) := san
theorem s8 {cx : Cx} {e : Env} {h : List Blk} {b : Nat} {K : V → St → Prop} : cx.C = C0 Try.prog → cx.fx = [] → K (.b true) ⟨e, h, b⟩ → callP cx 8 [] ⟨e, h, b⟩ K := by
 intro hc hf hk
 exact call_is (by rw [hc]; exact san8) (by simp [lendsOk, lends, wkL]) rfl (by rw [hf]; trivial) hk
structure Op where
 kind : Int
 a : Int
 b : Int
 deriving Inhabited
def Op.enc (x : Op) : List V := [.i x.kind, .i x.a, .i x.b]
theorem opn_len (x : Op) : x.enc.length = 3 := rfl
theorem opn_take (x : Op) : yE 3 x.enc = x.enc := rfl
theorem opn_1 (x : Op) : x.enc[1]? = some (.i x.a) := rfl
theorem opn_2 (x : Op) : x.enc[2]? = some (.i x.b) := rfl
theorem opn_isC (x : Op) : x.enc.all isC = true := rfl
theorem g16 {T X : List Blk} {j : Nat} (h : T.length = 16) : (T ++ X)[j + 16]? = X[j]? := by
 rw [vC (by omega)]; congr 1; omega
theorem st16 {T X : List Blk} {j : Nat} {B : Blk} (h : T.length = 16) : (T ++ X).set (j + 16) B = T ++ X.set j B := by
 rw [vR _ _ (by omega)]; congr 2; omega
theorem opn_kill {x : Op} {K : List Nat} : kills K x.enc = x.enc := rfl
theorem refl_leG {s p : St} (h : leS [] s p) : leG [] s p := ⟨s, .refl s, h⟩
set_option maxRecDepth 20000
def flS (L : List Sec) : List V := (L.map Sec.enc).flatten
theorem flS_len {L : List Sec} : (flS L).length = 64 * L.length := by
 unfold flS
 induction L with
 | nil => rfl
 | cons x r ih => simp only [yB, List.flatten_cons, yX, sec_len, ih, vD]; omega
theorem flS_get {L : List Sec} {k : Nat} (hk : k < L.length) : yE 64 (yF (64 * k) (flS L)) = L[k].enc := by
 induction L generalizing k with
 | nil => simp at hk
 | cons x r ih =>
  have e : flS (x :: r) = x.enc ++ flS r := rfl
  cases k with
  | zero => rw [e, Nat.mul_zero, List.drop_zero, List.take_append_of_le_length (by simp [sec_len]), sec_take]; rfl
  | succ k =>
   have hl : 64 * (k + 1) = x.enc.length + 64 * k := by rw [sec_len]; omega
   rw [e, hl, vE]
   rw [yR (by omega), List.nil_append, show x.enc.length + 64 * k - x.enc.length = 64 * k by omega]
   simpa using ih (k := k) (by simpa using hk)
theorem flS_set {L : List Sec} {k : Nat} {s : Sec} (hk : k < L.length) : yE (64 * k) (flS L) ++ s.enc ++ yF (64 * k + 64) (flS L) = flS (L.set k s) := by
 induction L generalizing k with
 | nil => simp at hk
 | cons x r ih =>
  have e : flS (x :: r) = x.enc ++ flS r := rfl
  cases k with
  | zero =>
   show yE 0 _ ++ s.enc ++ yF 64 (flS (x :: r)) = s.enc ++ flS r
   rw [e, vE, sec_drop, sec_len]; simp
  | succ k =>
   have e2 : flS ((x :: r).set (k + 1) s) = x.enc ++ flS (r.set k s) := rfl
   rw [e2, ← ih (k := k) (by simpa using hk), e]
   rw [List.take_append, vE, yS (by rw [sec_len]; omega), yR (by rw [sec_len]; omega), sec_len, show 64 * (k + 1) - 64 = 64 * k by omega, show 64 * (k + 1) + 64 - 64 = 64 * k + 64 by omega]
   simp
theorem flS_plain {L : List Sec} : ∀ x ∈ flS L, ∃ u, x = V.v u := fun x hx => by
 unfold flS at hx
 rw [List.mem_flatten] at hx
 obtain ⟨l, hl, hx⟩ := hx
 obtain ⟨s, _, rfl⟩ := List.mem_map.1 hl
 exact sec_plain x hx
theorem flS_C {L : List Sec} : (flS L).all isC = true := by
 rw [vF]
 intro x hx
 unfold flS at hx
 rw [List.mem_flatten] at hx
 obtain ⟨l, hl, hx⟩ := hx
 obtain ⟨s, _, rfl⟩ := List.mem_map.1 hl
 exact vF.1 (sec_C s) x hx
def z16 : List Sec := yC 16 zS
theorem flS_0 : List.map V.v (Array.replicate 1024 (Value.int .u8 0)).toList = flS z16 := by
 simp [flS, z16, zS, Sec.enc, encY]
def n16 : List V := yC 16 .nil
theorem n16_0 : List.map V.v (Array.replicate 16 (Value.slice none 0 0)).toList = n16 := by simp [n16]
theorem n16_plain : ∀ x ∈ n16, ∃ u, x = V.v u := fun x hx => ⟨_, (List.mem_replicate.1 hx).2⟩
def opVs (q : Nat) (op : List (List Sec)) : List V := op.mapIdx fun k l => .sl (q + k) 0 l.length
def opT (op : List (List Sec)) : List Blk := op.map fun l => .arr 64 (l.map Sec.enc)
theorem opT_app {op : List (List Sec)} {X Y : List Blk} : opT op ++ X ++ Y = opT op ++ (X ++ Y) := yV ..
theorem opVs_len {q : Nat} {op : List (List Sec)} : (opVs q op).length = op.length := by simp [opVs]
theorem opT_len {op : List (List Sec)} : (opT op).length = op.length := by simp [opT]
theorem opVs_get {q k : Nat} {op : List (List Sec)} (hk : k < op.length) : (opVs q op)[k]? = some (.sl (q + k) 0 op[k].length) := by simp [opVs, hk]
theorem opT_get {k : Nat} {op : List (List Sec)} (hk : k < op.length) : (opT op)[k]? = some (.arr 64 (op[k].map Sec.enc)) := by simp [opT, hk]
theorem opVs_set {q k : Nat} {op : List (List Sec)} {l : List Sec} : (opVs q op).set k (.sl (q + k) 0 l.length) = opVs q (op.set k l) := by
 apply yP
 ·simp [opVs]
 ·intro j h1 h2
  have hj : j < op.length := by simpa [opVs] using h1
  simp only [opVs, vG, yQ]
  by_cases e : k = j
  ·subst e; simp
  ·simp [e]
theorem opT_set {k : Nat} {op : List (List Sec)} {l : List Sec} : (opT op).set k (.arr 64 (l.map Sec.enc)) = opT (op.set k l) := by
 rw [opT, opT, List.map_set]
theorem opVs_C {q : Nat} {op : List (List Sec)} : (opVs q op).all isC = true := by
 rw [vF]
 intro x hx
 rw [opVs, List.mem_mapIdx] at hx
 obtain ⟨k, h, rfl⟩ := hx
 rfl
theorem plain_kill {l : List V} (h : ∀ x ∈ l, ∃ u, x = .v u) {M : List Nat} : kills M l = l := by
 induction l with
 | nil => rfl
 | cons x r ih =>
  obtain ⟨u, rfl⟩ := h x vH
  simp only [kills, kill, ih fun y hy => h y (vI _ hy)]
theorem kills_map {l : List V} {M : List Nat} : kills M l = l.map (kill M) := by
 induction l with
 | nil => rfl
 | cons x r ih => simp only [kills, yB, ih]
theorem opVs_kill {q k : Nat} {op : List (List Sec)} : kills [q + k] (opVs q op) = (opVs q op).set k .any := by
 rw [kills_map]
 apply yP
 ·simp [opVs]
 ·intro j h1 h2
  have hj : j < op.length := by simpa [opVs] using h1
  simp only [opVs, vG, yQ, yY, kill, vJ]
  by_cases e : k = j
  ·subst e; simp
  ·rw [if_neg (by omega), if_neg e]
theorem ents_killp {p : Nat} {D : Dk} {L : List (Nat × Nat)} {M : List Nat} (hM : ∀ e ∈ L, p + 3 + e.1 ∉ M) : (ents p D L).map (fun e => (e.1, kill M e.2.1, e.2.2)) = ents p D L := by
 unfold ents
 rw [vK]
 refine vL fun e he => ?_
 simp only [Function.comp, kill, if_neg (hM e he)]
structure J13 (sy : Int) (i : Nat) (S : MS) (su : List Sec) (op : List (List Sec)) : Prop where
 n16 : S.n = 16
 st : S.D.steps ≤ 2 * i
 af : S.D.after = -1
 dd : S.D.dead = false
 sl : su.length = 16
 ol : op.length = 16
 cl : ∀ k, k < 16 → S.D.cells.getD k zC = ⟨su.getD k zS, false⟩
 oq : ∀ k, k < 16 → S.D.op k = op.getD k []
 ln : ∀ k, (S.D.op k).length ≤ i
 sy : (i : Int) = sy → op = yC 16 []
theorem J13.chk {sy : Int} {i : Nat} {S : MS} {su : List Sec} {op : List (List Sec)} (h : J13 sy i S su op) {k : Int} (hk : 0 ≤ k ∧ k < 16) : S.D.chk k = 0 := by
 have hn : S.D.cells.length = 16 := h.n16
 unfold Dk.chk
 rw [h.dd, if_neg (by decide), if_neg (by show ¬ (k < 0 ∨ (S.D.cells.length : Int) ≤ k); rw [hn]; omega)]
theorem J13.stepE {sy : Int} {i : Nat} {S : MS} {su : List Sec} {op : List (List Sec)} (h : J13 sy i S su op) : S.D.stepE = 0 := by
 unfold Dk.stepE
 rw [h.af, if_neg (by decide)]
theorem J13.stepD {sy : Int} {i : Nat} {S : MS} {su : List Sec} {op : List (List Sec)} (h : J13 sy i S su op) : S.D.stepD = { S.D with steps := S.D.steps + 1 } := by
 unfold Dk.stepD
 rw [h.af, if_neg (by decide), if_neg (by decide), ← h.af]
theorem J13.start {sy : Int} : J13 sy 0 (newS 16) z16 (yC 16 []) := by
 refine ⟨newS_n, by simp [newS, newD], rfl, rfl, by simp [z16], by simp, fun k hk => ?_, fun k hk => ?_, fun k => ?_, fun _ => rfl⟩
 ·show (yC 16 zC).getD k zC = _
  rw [yA, yM, if_pos hk, z16, yA, yM, if_pos hk]; rfl
 ·have : (newS 16).D.op k = [] := new_op
  rw [this, yA, yM, if_pos hk]; rfl
 ·have : (newS 16).D.op k = [] := new_op
  rw [this]; exact yI _
theorem J13.write {sy sy' : Int} {i : Nat} {S S2 : MS} {su : List Sec} {op : List (List Sec)} (h : J13 sy i S su op) {k : Nat} {s : Sec} (hk : k < op.length) (hn : S2.n = S.n) (hD : S2.D = S.D.wrD k s) (hsy : ((i + 1 : Nat) : Int) ≠ sy') : J13 sy' (i + 1) S2 su (op.set k (op[k] ++ [s])) ∧ S2.D.steps + 1 ≤ 2 * (i + 1) := by
 have hk16 : k < 16 := by rw [← h.ol]; exact hk
 have hko : k < S.D.opn.length := by rw [S.ok.len]; show k < S.n; rw [h.n16]; exact hk16
 rw [Dk.wrD, h.chk ⟨by omega, by omega⟩, if_neg (by decide), h.stepE, if_neg (by decide), h.stepD, yT] at hD
 have hst := h.st
 have hs2 : S2.D.steps = S.D.steps + 1 := by rw [hD]; rfl
 have hop : ∀ j, S2.D.op j = if j = k then S.D.op k ++ [s] else S.D.op j := fun j => by
  rw [hD]
  exact add_op (D := { S.D with steps := S.D.steps + 1 }) hko
 refine ⟨⟨hn.trans h.n16, by rw [hs2]; omega, by rw [hD]; exact h.af, by rw [hD]; exact h.dd, h.sl, by simp [h.ol], fun j hj => by rw [hD]; exact h.cl j hj, fun j hj => ?_, fun j => ?_, fun e => absurd e hsy⟩, by rw [hs2]; omega⟩
 ·rw [hop, yA, yN]
  by_cases e : j = k
  ·subst e
   rw [if_pos rfl, if_pos rfl, if_pos hk, h.oq j hj, yA, yO hk]; rfl
  ·rw [if_neg e, if_neg (fun h => e h.symm), ← yA]; exact h.oq j hj
 ·rw [hop]
  split
  ·have := h.ln k; simp; omega
  ·have := h.ln j; omega
theorem J13.sync {sy sy' : Int} {i : Nat} {S S2 : MS} {su su' : List Sec} {op : List (List Sec)} (h : J13 sy i S su op) (hn : S2.n = S.n) (hD : S2.D = S.D.syD) (hs : S.D.steps + 1 ≤ 2 * i) (hsl : su'.length = 16) (hsu : ∀ k, k < 16 → su'.getD k zS = if op.getD k [] = [] then su.getD k zS else lastS (op.getD k [])) : J13 sy' i S2 su' (yC 16 []) := by
 have hn6 : S.D.cells.length = 16 := h.n16
 rw [Dk.syD, h.chk ⟨by omega, by omega⟩, if_neg (by decide), h.stepE, if_neg (by decide), h.stepD] at hD
 have hop : ∀ k, S2.D.op k = [] := fun k => by
  rw [hD]
  show (yC S.D.cells.length ([] : List Sec)).getD k [] = []
  rw [yA, yM]
  split <;> rfl
 refine ⟨hn.trans h.n16, by rw [hD]; exact hs, by rw [hD]; exact h.af, by rw [hD]; exact h.dd, hsl, by simp, fun k hk => ?_, fun k hk => ?_, fun k => by rw [hop]; exact yU _, fun _ => rfl⟩
 ·rw [hD]
  show ((List.range S.D.cells.length).map fun j => if S.D.op j = [] then S.D.cells.getD j zC else ⟨lastS (S.D.op j), false⟩).getD k zC = _
  rw [yA, List.getElem?_map, vS (by omega)]
  show (if S.D.op k = [] then S.D.cells.getD k zC else ⟨lastS (S.D.op k), false⟩) = _
  rw [hsu k hk, ← h.oq k hk]
  by_cases ho : S.D.op k = []
  ·rw [if_pos ho, if_pos ho, h.cl k hk]
  ·rw [if_neg ho, if_neg ho]
 ·rw [hop, yA, yM, if_pos hk]; rfl
theorem row_set {q k : Nat} {op : List (List Sec)} {l : List Sec} (hk : k < op.length) : yE k ((opVs q op).set k .any) ++ [.sl (q + k) 0 l.length] ++ yF (k + 1) ((opVs q op).set k .any) = opVs q (op.set k l) := by
 rw [← opVs_set]
 have h1 : k < ((opVs q op).set k .any).length := by simp [opVs_len, hk]
 have h2 := vM (l := (opVs q op).set k .any) (i := k) (a := V.sl (q + k) 0 l.length)
 rw [if_pos h1, vN] at h2
 rw [h2]; simp
theorem row_set2 {q k : Nat} {op : List (List Sec)} {x : V} (hk : k < op.length) : yE k (opVs q op) ++ [x] ++ yF (k + 1) (opVs q op) = (opVs q op).set k x := by
 rw [vM, if_pos (by simp [opVs_len, hk])]; simp
abbrev W13 := MS × List Sec × List (List Sec)
def hp13 (S : MS) (X : List Blk) : List Blk := .var (flS z16) :: .var Go.Fx.D.n16 :: .dead :: .dead :: .dead :: dkV 5 S.D :: dkC S.D :: .map (ents 5 S.D S.L) S.c :: (dkT S.D ++ X)
def r13 (sy : Int) (m : Nat) : V → List Blk → Prop := IsQ (fun g : W13 => J13 sy m g.1 g.2.1 g.2.2) (fun g => .tup [.ptr 5 0 0, .agg (flS g.2.1), .agg (opVs 26 g.2.2)]) (fun g => .dead :: .dead :: .dead :: .dead :: .dead :: (g.1.bs 5 ++ .dead :: .dead :: opT g.2.2))
def X13 (su : List Sec) (op : List (List Sec)) : List Blk := .var (flS su) :: .var (opVs 26 op) :: opT op
theorem get_13 {S : MS} {X : List Blk} {j : Nat} (hn : S.n = 16) : (hp13 S X)[24 + j]? = X[j]? := by
 have := g16 (T := dkT S.D) (X := X) (j := j) (S.T_len.trans hn)
 rw [show 24 + j = (j + 16) + 8 by omega]
 exact this
theorem set_13 {S : MS} {X : List Blk} {j : Nat} {B : Blk} (hn : S.n = 16) : (hp13 S X).set (24 + j) B = hp13 S (X.set j B) := by
 have := st16 (T := dkT S.D) (X := X) (j := j) (B := B) (S.T_len.trans hn)
 rw [show 24 + j = (j + 16) + 8 by omega]
 show .var (flS z16) :: .var Go.Fx.D.n16 :: .dead :: .dead :: .dead :: dkV 5 S.D :: dkC S.D :: .map (ents 5 S.D S.L) S.c :: (dkT S.D ++ X).set (j + 16) B = _
 rw [this]; rfl
theorem liveP_of {h : List Blk} {k sz : Nat} {x : List (List V)} (e : h[k]? = some (.arr sz x)) : liveP h k := by
 unfold liveP
 rw [e]; trivial
theorem wfL_opVs {H : List Blk} : ∀ {op : List (List Sec)} {q : Nat}, (∀ k, k < op.length → liveP H (q + k)) → wfL H (opVs q op)
 | [], q, _ => trivial
 | x :: r, q, h => by
  have e : opVs q (x :: r) = .sl (q + 0) 0 x.length :: opVs (q + 1) r := by
   simp only [opVs, List.mapIdx_cons]
   congr 1
   apply yP
   ·simp
   ·intro j h1 h2
    simp only [yQ]
    congr 1
    omega
  rw [e]
  refine ⟨h 0 (by simp), wfL_opVs fun k hk => ?_⟩
  have := h (k + 1) (by simp; omega)
  rwa [show q + (k + 1) = q + 1 + k by omega] at this
theorem wfB_opT {H B : List Blk} (hB : wfB H B) : ∀ {op : List (List Sec)}, wfB H (opT op ++ B)
 | [] => hB
 | x :: r => wfB_opT hB (op := r)
theorem wf_13 {S : MS} {su : List Sec} {op : List (List Sec)} (hn : S.n = 16) : wfB (hp13 S (X13 su op)) (hp13 S (X13 su op)) := by
 have h1 := S.wf (p := 5) [.var (flS z16), .var Go.Fx.D.n16, .dead, .dead, .dead] (X13 su op) rfl (C := X13 su op) (by
  refine ⟨plain_wf flS_plain, wfL_opVs fun k hk => ?_, ?_⟩
  ·have e : (hp13 S (X13 su op))[26 + k]? = some (.arr 64 (op[k].map Sec.enc)) := by
    rw [show 26 + k = 24 + (2 + k) by omega, get_13 hn]
    have := opT_get hk
    show (Blk.var (flS su) :: .var (opVs 26 op) :: opT op)[2 + k]? = _
    rw [show 2 + k = k + 2 by omega]
    exact this
   exact liveP_of e
  ·have := wfB_opT (H := [Blk.var (flS z16), .var Go.Fx.D.n16, .dead, .dead, .dead] ++ (S.bs 5 ++ X13 su op)) (B := []) trivial (op := op)
   rwa [yJ] at this)
 exact ⟨plain_wf flS_plain, plain_wf n16_plain, h1⟩
theorem hp13_kill {S : MS} {X : List Blk} {k : Nat} (hn : S.n = 16) : (hp13 S X).map (killB [26 + k]) = hp13 S (X.map (killB [26 + k])) := by
 have e1 : killB [26 + k] (.var (flS z16)) = .var (flS z16) := by rw [killB, plain_kill flS_plain]
 have e2 : killB [26 + k] (.var Go.Fx.D.n16) = .var Go.Fx.D.n16 := by
  rw [killB, plain_kill n16_plain]
 have e3 : killB [26 + k] (dkV 5 S.D) = dkV 5 S.D := by
  have n1 : (6 = 26 + k) = False := eq_false (by omega)
  have n2 : (7 = 26 + k) = False := eq_false (by omega)
  simp only [dkV, killB, kills, kill, vJ, n1, n2, if_false, Nat.reduceAdd]
 have e4 : killB [26 + k] (.map (ents 5 S.D S.L) S.c) = .map (ents 5 S.D S.L) S.c := by
  rw [killB, ents_killp fun e he => ?_]
  have := ((S.ok.key e.1).1 (List.mem_map_of_mem he)).1
  have hn : S.D.n = 16 := hn
  rw [vJ]
  omega
 show killB _ _ :: killB _ _ :: killB _ _ :: killB _ _ :: killB _ _ :: killB _ _ :: killB _ _ :: killB _ _ :: (dkT S.D ++ X).map (killB [26 + k]) = _
 rw [dkT_kills, e1, e2, e3, e4]; rfl
theorem opT_kill {M : List Nat} {op : List (List Sec)} {X : List Blk} : (opT op ++ X).map (killB M) = opT op ++ X.map (killB M) := by
 rw [yW]
 congr 1
 simp only [opT, vK]
 exact vL fun _ _ => rfl
theorem app_13 {S : MS} {su : List Sec} {op : List (List Sec)} {X : List Blk} {e : Env} {b k id : Nat} {s : Sec} {K : V → St → Prop} (hn : S.n = 16) (hk : k < op.length) (ho : op.length = 16) (hX : X.map (killB [26 + k]) = X) (hl : op[k].length ≤ 1000)
  (h : K (.sl (26 + k) 0 (op[k].length + 1)) ⟨killE [26 + k] e, hp13 S (.var (flS su) :: .var ((opVs 26 op).set k .any) :: (opT (op.set k (op[k] ++ [s])) ++ X)), b⟩) :
  appP [] [] id 64 64 ⟨e, hp13 S (.var (flS su) :: .var (opVs 26 op) :: (opT op ++ X)), b⟩ (.sl (26 + k) 0 op[k].length) [s.enc] K := by
 have hb : blk (hp13 S (.var (flS su) :: .var (opVs 26 op) :: (opT op ++ X))) (26 + k) = .arr 64 (op[k].map Sec.enc) := by
  rw [blk, yA, show 26 + k = 24 + (2 + k) by omega, get_13 hn, show 2 + k = k + 2 by omega]
  show ((opT op ++ X)[k]?).getD .dead = _
  rw [vT (by rw [opT_len]; exact hk), opT_get hk]; rfl
 rw [kQ, hb, kP]
 refine ⟨⟨rfl, by simp, by simp; omega⟩, ⟨by simp, by simp⟩, ?_⟩
 have e1 : killB [26 + k] (.var (flS su)) = .var (flS su) := by rw [killB, plain_kill flS_plain]
 have e2 : killB [26 + k] (.var (opVs 26 op)) = .var ((opVs 26 op).set k .any) := by rw [killB, opVs_kill]
 rw [hp13_kill hn, yB, yB, e1, e2, opT_kill, hX, show 26 + k = 24 + (2 + k) by omega, set_13 hn, show 2 + k = k + 2 by omega]
 have e3 : (Blk.var (flS su) :: .var ((opVs 26 op).set k .any) :: (opT op ++ X)).set (k + 2) (.arr 64 (yE op[k].length (yF 0 (op[k].map Sec.enc)) ++ [s.enc])) = .var (flS su) :: .var ((opVs 26 op).set k .any) :: (opT (op.set k (op[k] ++ [s])) ++ X) := by
  show .var (flS su) :: .var ((opVs 26 op).set k .any) :: (opT op ++ X).set k _ = _
  rw [List.set_append_left _ _ (by rw [opT_len]; exact hk), ← opT_set, List.drop_zero, yS (by simp), yW]; rfl
 rw [e3, show 24 + (k + 2) = 26 + k by omega]
 exact h
theorem A13_kill {n : Nat} : [Blk.var (flS z16), .var Go.Fx.D.n16, .dead, .dead, .dead].map (killB (yK (5 + 3) n)) = [Blk.var (flS z16), .var Go.Fx.D.n16, .dead, .dead, .dead] := by
 simp only [yB, yL, killB, plain_kill flS_plain, plain_kill n16_plain]
theorem B13_kill {su : List Sec} {op : List (List Sec)} {X : List Blk} {n : Nat} (hn : n = 16) (hX : X.map (killB (yK (5 + 3) n)) = X) : (Blk.var (flS su) :: .var (opVs 26 op) :: (opT op ++ X)).map (killB (yK (5 + 3) n)) = Blk.var (flS su) :: .var (opVs 26 op) :: (opT op ++ X) := by
 have e : kills (yK (5 + 3) n) (opVs 26 op) = opVs 26 op := by
  rw [kills_map]
  apply yP
  ·simp
  ·intro j h1 h2
   simp only [opVs, yQ, yY, kill, yG]
   rw [if_neg (by omega)]
 rw [yB, yB, opT_kill, hX, killB, killB, plain_kill flS_plain, e]
def env13 (l : List Op) (sy : Int) (i : Nat) : Env := [(19, .i i), (18, .i l.length), (17, .ro 3 (l.map Op.enc)), (9, .ptr 25 0 0), (8, .ptr 24 0 0), (7, .ptr 5 0 0), (6, .ptr 1 0 0), (5, .ptr 0 0 0), (1, .i sy)]
theorem hp13_app {S : MS} {X Y : List Blk} : hp13 S (X ++ Y) = hp13 S X ++ Y := by
 show _ :: _ :: _ :: _ :: _ :: _ :: _ :: _ :: (dkT S.D ++ (X ++ Y)) = _ :: _ :: _ :: _ :: _ :: _ :: _ :: _ :: (dkT S.D ++ X ++ Y)
 rw [yV]
theorem leS_13 {S : MS} {su : List Sec} {op : List (List Sec)} {l : List Op} {sy : Int} {i : Nat} {e p0 : Env} {h : List Blk} {b b' : Nat} (hn : S.n = 16) (hp : wfE (hp13 S (X13 su op)) p0) (he : leE e (p0 ++ env13 l sy i)) (hh : leH h (hp13 S (X13 su op))) : leS [] ⟨e, h, b⟩ ⟨p0 ++ env13 l sy i, hp13 S (X13 su op), b'⟩ := by
 refine ⟨he, hh, trivial, ?_, wf_13 hn⟩
 have h5 : wfE (hp13 S (X13 su op)) (env13 l sy i) := by
  have l24 : liveP (hp13 S (X13 su op)) 24 := by
   unfold liveP
   rw [show 24 = 24 + 0 from rfl, get_13 hn]; trivial
  have l25 : liveP (hp13 S (X13 su op)) 25 := by
   unfold liveP
   rw [show 25 = 24 + 1 from rfl, get_13 hn]; trivial
  exact ⟨trivial, trivial, trivial, l25, l24, trivial, trivial, trivial, trivial, trivial⟩
 induction p0 with
 | nil => exact h5
 | cons x r ih => exact ⟨hp.1, ih hp.2 (by simp only [vO, leE] at he; exact he.2)⟩
structure I13 (su : List Sec) (op : List (List Sec)) (j : Nat) (su' : List Sec) (op' : List (List Sec)) : Prop where
 sl : su'.length = 16
 ol : op'.length = 16
 at_ : ∀ k, k < 16 → (k < j → op'.getD k [] = [] ∧ su'.getD k zS = if op.getD k [] = [] then su.getD k zS else lastS (op.getD k [])) ∧ (j ≤ k → op'.getD k [] = op.getD k [] ∧ su'.getD k zS = su.getD k zS)
theorem wfL_of {H : List Blk} : ∀ {l : List V}, (∀ x ∈ l, wfV H x) → wfL H l
 | [], _ => trivial
 | x :: r, h => ⟨h x vH, wfL_of fun y hy => h y (vI _ hy)⟩
theorem back_13 {S : MS} {su : List Sec} {op : List (List Sec)} {j i k : Nat} {e : Env} {b : Nat} {l : List Op} {sy : Int} (hn : S.n = 16) (ho : op.length = 16) (hj : j < 16)
  (he : leE e ((58, .i k) :: env13 l sy i)) : leG [] ⟨e, hp13 S (.var (flS su) :: .var ((opVs 26 op).set j .nil) :: opT op), b⟩ ⟨(58, .i k) :: env13 l sy i, hp13 S (X13 su (op.set j [])), 0⟩ := by
 have hjo : j < op.length := by omega
 have hO : (opT op).length = 16 := opT_len.trans ho
 refine ⟨_, .le (p := ⟨(58, .i k) :: env13 l sy i, hp13 S (.var (flS su) :: .var ((opVs 26 op).set j .nil) :: (opT op).set j .dead), 0⟩) ⟨he, ?_, trivial, ?_, ?_⟩ (.virtAt (26 + j) 64 (by decide) ?_ (.nilB 25 ((opVs 26 op).set j .nil) (opVs 26 (op.set j [])) ?_ ?_ (.refl _))), ?_⟩
 ·have : ∀ T : List Blk, leH (T ++ (opT op)) (T ++ (opT op).set j .dead) := by
   intro T
   induction T with
   | nil =>
    have := leH_set (T := opT op) (X := []) (k := j)
    rwa [yJ, yJ] at this
   | cons a r ih => exact ⟨leB_refl _, ih⟩
  have h2 := this (hp13 S [.var (flS su), .var ((opVs 26 op).set j .nil)])
  rw [← hp13_app, ← hp13_app] at h2
  exact h2
 ·have l24 : liveP (hp13 S (.var (flS su) :: .var ((opVs 26 op).set j .nil) :: (opT op).set j .dead)) 24 := by
   unfold liveP
   rw [show 24 = 24 + 0 from rfl, get_13 hn]; trivial
  have l25 : liveP (hp13 S (.var (flS su) :: .var ((opVs 26 op).set j .nil) :: (opT op).set j .dead)) 25 := by
   unfold liveP
   rw [show 25 = 24 + 1 from rfl, get_13 hn]; trivial
  exact ⟨trivial, trivial, trivial, trivial, l25, l24, trivial, trivial, trivial, trivial, trivial⟩
 ·have hT : wfB (hp13 S (.var (flS su) :: .var ((opVs 26 op).set j .nil) :: (opT op).set j .dead)) ((opT op).set j .dead) := by
   have : ∀ (H : List Blk) (q : List (List Sec)) (m : Nat), wfB H ((opT q).set m .dead) := by
    intro H q
    induction q with
    | nil => intro m; exact trivial
    | cons x r ih =>
     intro m
     cases m with
     | zero => have := wfB_opT (H := H) (B := []) trivial (op := r); rwa [yJ] at this
     | succ m => exact ih m
   exact this _ _ _
  have h1 := S.wf (p := 5) [.var (flS z16), .var Go.Fx.D.n16, .dead, .dead, .dead] (.var (flS su) :: .var ((opVs 26 op).set j .nil) :: (opT op).set j .dead) rfl (C := .var (flS su) :: .var ((opVs 26 op).set j .nil) :: (opT op).set j .dead) (by
   refine ⟨plain_wf flS_plain, wfL_of fun x hx => ?_, hT⟩
   obtain ⟨m, hm, rfl⟩ := List.mem_iff_getElem.1 hx
   have hm6 : m < op.length := by simpa [opVs] using hm
   rw [vG]
   by_cases em : j = m
   ·rw [if_pos em]; exact trivial
   ·rw [if_neg em]
    have e : (hp13 S (.var (flS su) :: .var ((opVs 26 op).set j .nil) :: (opT op).set j .dead))[26 + m]? = some (.arr 64 (op[m].map Sec.enc)) := by
     rw [show 26 + m = 24 + (m + 2) by omega, get_13 hn]
     show ((opT op).set j .dead)[m]? = _
     rw [yN, if_neg em, opT_get hm6]
    simp only [opVs, yQ]
    exact liveP_of e)
  exact ⟨plain_wf flS_plain, plain_wf n16_plain, h1⟩
 ·show (hp13 S _)[26 + j]? = _
  rw [show 26 + j = 24 + (j + 2) by omega, get_13 hn]
  show ((opT op).set j .dead)[j]? = _
  rw [yN, if_pos rfl, if_pos (by omega)]
 ·show ((hp13 S _).set (26 + j) _)[25]? = _
  rw [show 26 + j = 24 + (j + 2) by omega, set_13 hn, show 25 = 24 + 1 from rfl, get_13 hn]; rfl
 ·refine ⟨by simp [opVs_len], fun m x y hx hy => ?_⟩
  have hm : m < op.length := by
   rcases Nat.lt_or_ge m op.length with h | h
   ·exact h
   ·rw [vP (by simpa [opVs] using h)] at hx; cases hx
  rw [← opVs_set] at hy
  rw [yN] at hx hy
  by_cases em : j = m
  ·rw [if_pos em, if_pos (by rw [opVs_len]; omega)] at hx hy
   refine .inr ⟨?_, 26 + j, ?_⟩
   ·simpa using hx.symm
   ·simpa using hy.symm
  ·rw [if_neg em] at hx hy
   rw [hx] at hy
   exact .inl (by simpa using hy.symm)
 ·refine leS_13 (p0 := [(58, .i k)]) hn ⟨trivial, trivial⟩ ⟨rfl, rfl, rfl, rfl, rfl, rfl, rfl, rfl, rfl, rfl, trivial⟩ ?_
  show leH (((hp13 S _).set (26 + j) _).set 25 _) _
  rw [show 26 + j = 24 + (j + 2) by omega, set_13 hn, show 25 = 24 + 1 from rfl, set_13 hn]
  show leH (hp13 S (.var (flS su) :: .var (opVs 26 (op.set j [])) :: ((opT op).set j .dead).set j (.arr 64 []))) _
  rw [vN]
  have := opT_set (op := op) (k := j) (l := [])
  rw [yL] at this
  rw [this]
  exact leH_refl _
theorem last_get {L : List Sec} (hx : ((L.length : Int) - 1).toNat < L.length) : L[((L.length : Int) - 1).toNat]'hx = lastS L := by
 rw [lastS, List.getLast?_eq_getElem?, yO (by omega)]
 show _ = L[L.length - 1]
 congr 1; omega
theorem I13.next {su : List Sec} {op : List (List Sec)} {j : Nat} {su' : List Sec} {op' : List (List Sec)} (h : I13 su op j su' op') (hj : j < 16) (ho : op'.getD j [] ≠ []) : I13 su op (j + 1) (su'.set j (lastS (op'.getD j []))) (op'.set j []) := by
 have hjo : j < op'.length := by rw [h.ol]; exact hj
 have hjs : j < su'.length := by rw [h.sl]; exact hj
 refine ⟨by simp [h.sl], by simp [h.ol], fun k hk => ?_⟩
 have hk2 := h.at_ k hk
 have eo : (op'.set j []).getD k [] = if j = k then [] else op'.getD k [] := by
  rw [yA, yN]
  by_cases e : j = k
  ·rw [if_pos e, if_pos e, if_pos hjo]; rfl
  ·rw [if_neg e, if_neg e, ← yA]
 have es : (su'.set j (lastS (op'.getD j []))).getD k zS = if j = k then lastS (op'.getD j []) else su'.getD k zS := by
  rw [yA, yN]
  by_cases e : j = k
  ·rw [if_pos e, if_pos e, if_pos hjs]; rfl
  ·rw [if_neg e, if_neg e, ← yA]
 rw [eo, es]
 by_cases e : j = k
 ·subst e
  rw [if_pos rfl, if_pos rfl]
  have h3 := hk2.2 (yI _)
  refine ⟨fun _ => ⟨rfl, ?_⟩, fun h => absurd h (by omega)⟩
  rw [← h3.1, if_neg ho]
 ·rw [if_neg e, if_neg e]
  exact ⟨fun h4 => hk2.1 (by omega), fun h4 => hk2.2 (by omega)⟩
theorem I13.skip {su : List Sec} {op : List (List Sec)} {j : Nat} {su' : List Sec} {op' : List (List Sec)} (h : I13 su op j su' op') (ho : op'.getD j [] = []) : I13 su op (j + 1) su' op' := by
 refine ⟨h.sl, h.ol, fun k hk => ?_⟩
 have hk2 := h.at_ k hk
 refine ⟨fun h4 => ?_, fun h4 => hk2.2 (by omega)⟩
 by_cases e : k = j
 ·subst e
  have h3 := hk2.2 (yI _)
  refine ⟨ho, ?_⟩
  rw [← h3.1, if_pos ho, h3.2]
 ·exact hk2.1 (by omega)
theorem leH_dd {a b : Blk} {X : List Blk} : ∀ {T : List Blk}, leH (T ++ a :: b :: X) (T ++ .dead :: .dead :: X)
 | [] => ⟨trivial, trivial, leH_refl _⟩
 | x :: T => ⟨leB_refl x, leH_dd⟩
def hr13 (S : MS) (op : List (List Sec)) : List Blk := .dead :: .dead :: .dead :: .dead :: .dead :: (S.bs 5 ++ .dead :: .dead :: opT op)
theorem hr13_wf {S : MS} {op : List (List Sec)} : wfB (hr13 S op) (hr13 S op) := by
 have := S.wf (p := 5) [.dead, .dead, .dead, .dead, .dead] (.dead :: .dead :: opT op) rfl (C := .dead :: .dead :: opT op) (by
  have := wfB_opT (H := [Blk.dead, .dead, .dead, .dead, .dead] ++ (S.bs 5 ++ .dead :: .dead :: opT op)) (B := []) trivial (op := op)
  rwa [yJ] at this)
 exact this
theorem hr13_get {S : MS} {op : List (List Sec)} {k : Nat} (hn : S.n = 16) (hk : k < op.length) : (hr13 S op)[26 + k]? = some (.arr 64 (op[k].map Sec.enc)) := by
 have h1 : (S.bs 5 ++ .dead :: .dead :: opT op)[21 + k]? = some (.arr 64 (op[k].map Sec.enc)) := by
  rw [vC (by rw [S.len, hn]; omega), S.len, hn, show 21 + k - (3 + 16) = k + 2 by omega]
  exact opT_get hk
 rw [show 26 + k = (21 + k) + 5 by omega]
 exact h1
theorem hr13_ops {S : MS} {op : List (List Sec)} (hn : S.n = 16) : wfL (hr13 S op) (opVs 26 op) := wfL_opVs fun k hk => liveP_of (hr13_get hn hk)
theorem ok13 (l : List Op) (sy : Int) (hl : l.length ≤ 40) : Ok 13 [.ro 3 (l.map Op.enc), .i sy] (r13 sy l.length) := by
 refine ok_of lw13 (by simp) ?_
 unfold c13
 simp -implicitDefEqProofs only [rX,↓rY,ofConst,cells?,Nat.reduceAdd,freshP,cxN,args0]
 refine call_isA [.i (16 : Int)] (.ptr 3 0 0) (.ptr 5 0 0) (.dead :: .dead :: .dead :: (newS 16).bs 3) (.dead :: .dead :: .dead :: (newS 16).bs 5) (okN_post (ok7 16) fun r h hr => ?_) ⟨⟨trivial, trivial⟩, rfl, trivial⟩ rfl ?_ trivial ?_
 ·rw [rN, if_neg (by omega)] at hr
  exact hr
 ·have : ((newS 16).bs 3).map (renB fun j => some (2 + j)) = (newS 16).bs 5 := dk_ren (newS 16).ok fun j hj => by simp; omega
  rw [yB, yB, yB, ← this]; rfl
 have h0 : (newS 16).bs 5 = dkV 5 (newS 16).D :: dkC (newS 16).D :: .map (ents 5 (newS 16).D (newS 16).L) (newS 16).c :: (dkT (newS 16).D ++ []) := by rw [yJ]; rfl
 rw [h0]
 have hT0 : (dkT (newS 16).D).length = 16 := (newS 16).T_len
 simp -implicitDefEqProofs only [rX,↓rY,ofConst,cells?,↓reduceIte,Nat.reduceAdd,reduceCtorEq,freshP,dkV,dkC,dkT_app,n61,n62,flS_0,n16_0,hT0,g16 hT0,st16 hT0,yH,yD]
 intro hm
 have hJ0 : J13 sy 0 (newS 16) z16 (yC 16 []) := J13.start
 refine loopP_back (fun g : Nat × W13 => (⟨[(19, .i g.1), (18, .i l.length), (17, .ro 3 (l.map Op.enc)), (9, .ptr 25 0 0), (8, .ptr 24 0 0), (7, .ptr 5 0 0), (6, .ptr 1 0 0), (5, .ptr 0 0 0), (1, .i sy)], hp13 g.2.1 (X13 g.2.2.1 g.2.2.2), 0⟩ : St)) (fun g => g.1 ≤ l.length ∧ J13 sy g.1 g.2.1 g.2.2.1 g.2.2.2) (fun g => l.length - g.1) (0, newS 16, z16, yC 16 []) ⟨yU _, hJ0⟩ ?_ ?_
 ·refine ⟨_, .virt 16 64 (by decide) (.nilB 25 n16 (opVs 26 (yC 16 [])) ?_ ?_ (.refl _)), ?_⟩
  ·show (hp13 (newS 16) [.var (flS z16), .var n16] ++ _)[25]? = _
   rw [vT (by show 25 < _; simp [hp13, hT0])]
   exact get_13 (j := 1) newS_n
  ·refine ⟨by simp [opVs, n16], fun i x y hx hy => .inr ?_⟩
   have hi : i < 16 := by
    rcases Nat.lt_or_ge i 16 with h | h
    ·exact h
    ·rw [vP (by simpa [n16] using h)] at hx; cases hx
   rw [n16, yM, if_pos hi] at hx
   rw [opVs_get (by simpa using hi)] at hy
   simp only [vU, List.length_nil, Option.some.injEq] at hx hy
   exact ⟨hx.symm, _, hy.symm⟩
  ·refine leS_13 (p0 := []) (l := l) (sy := sy) (i := 0) newS_n trivial ⟨rfl, rfl, rfl, rfl, rfl, rfl, rfl, rfl, rfl, trivial⟩ ?_
   show leH ((hp13 (newS 16) [.var (flS z16), .var n16] ++ yC 16 (Blk.arr 64 [])).set (24 + 1) (.var (opVs 26 (yC 16 [])))) _
   rw [← hp13_app, set_13 newS_n]
   exact leH_refl _
 rintro ⟨i, S, su, op⟩ ⟨hi, hJ⟩
 have hi : i ≤ l.length := hi
 have hJ : J13 sy i S su op := hJ
 have hT : (dkT S.D).length = 16 := S.T_len.trans hJ.n16
 have hO : (opT op).length = 16 := opT_len.trans hJ.ol
 unfold c13l0 hp13 X13
 simp -implicitDefEqProofs only [rX,↓rY,rdK,ofConst,cells?,splice,↓reduceIte,Nat.reduceEqDiff,Nat.reduceAdd,reduceCtorEq,freshP,dkV,dkC,dkT_app,n61,hT,g16 hT,st16 hT,hO,g16 hO,st16 hO,opT_app,opn_len,opn_take,opn_1,opn_2,opn_isC,yH,yD]
 simp only [br, decide_eq_true_eq, decide_eq_false_iff_not, beq_iff_eq, beq_eq_false_iff_ne]
 refine ⟨fun h => ?_, fun h => ?_⟩
 ·have hil : i < l.length := by omega
  have hm1 : -16 < l[i].a.tmod 16 ∧ l[i].a.tmod 16 < 16 := ⟨Int.lt_tmod_of_pos _ (by decide), Int.tmod_lt_of_pos _ (by decide)⟩
  have hm2 : (l[i].a.tmod 16 + 16).tmod 16 = (l[i].a.tmod 16 + 16) % 16 := yZ (by omega)
  obtain ⟨k, hk⟩ : ∃ k : Nat, (l[i].a.tmod 16 + 16).tmod 16 = k := ⟨((l[i].a.tmod 16 + 16) % 16).toNat, by rw [hm2]; omega⟩
  have hk16 : k < 16 := by omega
  simp only [hk]
  refine ⟨⟨by omega, h⟩, hil, by decide, by simp only [lo, Fx.hi]; omega, by decide, ?_⟩
  refine call_is (ok23 l[i].b) ⟨⟨trivial, trivial⟩, rfl, trivial⟩ (congrArg V.agg ((plain_len (sec_plain (s := filledS l[i].b)) (H := []) (g := fun _ => none)).2.2 _)) trivial ?_
  simp -implicitDefEqProofs only [rX,↓rY,ofConst,cells?,splice,↓reduceIte,Nat.reduceEqDiff,Nat.reduceAdd,freshP,arr64,sec_len,sec_take,sec_C,sec_drop,n61,n62,hT,g16 hT,st16 hT,hO,g16 hO,st16 hO,yH,yD]
  have hsl : ∀ (H : List Blk) (g : Nat → Option Nat), lendsOk H g [.i k, .agg (filledS l[i].b).enc] ∧ wkL [.i k, .agg (filledS l[i].b).enc] (lends H g [.i k, .agg (filledS l[i].b).enc]) := fun H g => by
   obtain ⟨p1, p2, _⟩ := plain_len (sec_plain (s := filledS l[i].b)) (H := H) (g := g)
   exact ⟨⟨trivial, p1, trivial⟩, rfl, p2, trivial⟩
  have hst : S.D.steps ≤ 100000 := by have := hJ.st; omega
  have haf : -1 ≤ S.D.after ∧ S.D.after ≤ 9223372036854775807 := by rw [hJ.af]; omega
  refine call_at (cx := cxN Try.prog []) (S := S) (args := [.i k, .agg (filledS l[i].b).enc]) (xs := [.i k, .agg (filledS l[i].b).enc]) 5 [.var (flS z16), .var n16, .dead, .dead, .dead] (.var (flS su) :: .var (opVs 26 op) :: (opT op ++ [.var l[i].enc, .var (filledS l[i].b).enc])) rfl rfl rfl (ok22 S k (filledS l[i].b) hst haf fun j => by have := hJ.ln j; omega) hsl ?_ ?_ ?_ ?_
  ·exact A13_kill
  ·exact B13_kill hJ.n16 (by simp only [yB, yL, killB, sec_kill, opn_kill])
  ·simp [killE, kill, kills, yG, hJ.n16, opn_kill, sec_kill]
  rintro r S2 hn2 ⟨hD2, rfl⟩
  have hn16 : S2.n = 16 := hn2.trans hJ.n16
  have hT2 : (dkT S2.D).length = 16 := S2.T_len.trans hn16
  have hwe : S.D.wrE k = 0 := by rw [Dk.wrE, hJ.chk ⟨by omega, by omega⟩, if_neg (by decide), hJ.stepE]
  rw [hwe]
  refine ⟨fun _ => rfl, ?_⟩
  have hb0 : ((0 : Int) != 0) = false := rfl
  simp -implicitDefEqProofs only [rX,↓rY,rdK,ofConst,cells?,splice,↓reduceIte,Nat.reduceEqDiff,Nat.reduceAdd,reduceCtorEq,freshP,litsP,Nat.reduceLT,rep64,sec_len,sec_take,sec_D,dkV,dkC,dkT_app,n61,n62,hT2,g16 hT2,st16 hT2,hO,g16 hO,st16 hO,opT_app,yH,yD,hb0]
  have hko : k < op.length := by rw [hJ.ol]; exact hk16
  have hok : op[k].length ≤ i := by
   have := hJ.ln k
   rw [hJ.oq k hk16, yA, yO hko] at this
   exact this
  refine ⟨⟨by omega, by omega⟩, ?_⟩
  rw [vA, opVs_get hko, kh]
  refine app_13 hn16 hko hJ.ol ?_ (by omega) ?_
  ·simp only [yB, yL, killB, sec_kill, opn_kill]
  have q0 : (0 = 26 + k) = False := eq_false (by omega)
  have q1 : (1 = 26 + k) = False := eq_false (by omega)
  have q5 : (5 = 26 + k) = False := eq_false (by omega)
  have q24 : (24 = 26 + k) = False := eq_false (by omega)
  have q25 : (25 = 26 + k) = False := eq_false (by omega)
  unfold hp13
  simp -implicitDefEqProofs only [rX,↓rY,ofConst,cells?,splice,↓reduceIte,Nat.reduceEqDiff,Nat.reduceAdd,killE,kill,St.kill,isC,sec_kill,dkV,dkC,n61,hT2,g16 hT2,st16 hT2,g16 hO,st16 hO,yH,yD,q0,q1,q5,q24,q25]
  have hO2 : (opT (op.set k (op[k] ++ [filledS l[i].b]))).length = 16 := by rw [opT_len, vQ]; exact hJ.ol
  have hrow : yE k ((opVs 26 op).set k .any) ++ [.sl (26 + k) 0 (op[k].length + 1)] ++ yF (k + 1) ((opVs 26 op).set k .any) = opVs 26 (op.set k (op[k] ++ [filledS l[i].b])) := by
   have := row_set (q := 26) (l := op[k] ++ [filledS l[i].b]) hko
   rw [yX, List.length_singleton] at this
   exact this
  simp only [vA, hrow, hO2]
  refine ⟨⟨by omega, by omega⟩, by rw [vQ, opVs_len]; omega, by simp only [lo, Fx.hi]; omega, ?_⟩
  simp only [br, decide_eq_true_eq, decide_eq_false_iff_not, beq_iff_eq, beq_eq_false_iff_ne]
  refine ⟨fun hy => ?_, fun hy => ?_⟩
  ·have hOo : (op.set k (op[k] ++ [filledS l[i].b])).length = 16 := by rw [vQ]; exact hJ.ol
   obtain ⟨hW, hWs⟩ := hJ.write (sy' := -1) hko hn2 hD2 (by omega)
   generalize op.set k (op[k] ++ [filledS l[i].b]) = op2 at hW hO2 hOo ⊢
   have hst2 : S2.D.steps ≤ 100000 := by have := hW.st; omega
   have haf2 : -1 ≤ S2.D.after ∧ S2.D.after ≤ 9223372036854775807 := by rw [hW.af]; omega
   refine call_at (cx := cxN Try.prog []) (S := S2) (args := []) (xs := []) 5 [.var (flS z16), .var n16, .dead, .dead, .dead] (.var (flS su) :: .var (opVs 26 op2) :: (opT op2 ++ [.var l[i].enc, .var (filledS l[i].b).enc, .arr 64 [(filledS l[i].b).enc], .dead])) rfl rfl rfl (ok21 S2 hst2 haf2) (fun _ _ => ⟨trivial, trivial⟩) A13_kill ?_ ?_ ?_
   ·exact B13_kill hW.n16 (by simp only [yB, yL, killB, sec_kill, opn_kill])
   ·simp [killE, kill, kills, yG, hn16, opn_kill, sec_kill, apply_ite (kill (yK 8 16))]
    omega
   rintro r S3 hn3 ⟨hD3, rfl⟩
   have hn36 : S3.n = 16 := hn3.trans hn16
   have hT3 : (dkT S3.D).length = 16 := S3.T_len.trans hn36
   have hse : S2.D.syE = 0 := by rw [Dk.syE, hW.chk ⟨by omega, by omega⟩, if_neg (by decide), hW.stepE]
   rw [hse]
   refine ⟨fun _ => rfl, ?_⟩
   simp -implicitDefEqProofs only [rX,↓rY,rdK,ofConst,cells?,splice,↓reduceIte,Nat.reduceEqDiff,Nat.reduceAdd,reduceCtorEq,dkV,dkC,n61,hT3,g16 hT3,st16 hT3,hO2,g16 hO2,st16 hO2,yH,yD,hb0]
   refine loopP_back (fun g : Nat × List Sec × List (List Sec) => (⟨(58, .i g.1) :: env13 l sy i, hp13 S3 (X13 g.2.1 g.2.2), 0⟩ : St)) (fun g => g.1 ≤ 16 ∧ I13 su op2 g.1 g.2.1 g.2.2) (fun g => 16 - g.1) (0, su, op2) ⟨by omega, ⟨hW.sl, hOo, fun j _ => ⟨fun h => absurd h (by omega), fun _ => ⟨rfl, rfl⟩⟩⟩⟩ ?_ ?_
   ·refine refl_leG (leS_13 (p0 := [(58, .i ((0 : Nat) : Int))]) hn36 ⟨trivial, trivial⟩ ⟨rfl, rfl, rfl, rfl, rfl, rfl, rfl, rfl, rfl, rfl, trivial⟩ ?_)
    show leH (hp13 S3 (X13 su op2 ++ [.var l[i].enc, .var (filledS l[i].b).enc, .arr 64 [(filledS l[i].b).enc], .dead])) _
    rw [hp13_app]
    exact leH_app
   rintro ⟨j, su3, op3⟩ ⟨hj, hI⟩
   have hj : j ≤ 16 := hj
   have hI : I13 su op2 j su3 op3 := hI
   have hO3 : (opT op3).length = 16 := opT_len.trans hI.ol
   have hF3 : (flS su3).length = 1024 := by rw [flS_len, hI.sl]
   unfold c13l1 hp13 X13 env13
   simp -implicitDefEqProofs only [rX,↓rY,ofConst,cells?,splice,↓reduceIte,Nat.reduceEqDiff,Nat.reduceAdd,isC,Nat.reduceLeDiff,dkV,dkC,n61,hT3,g16 hT3,st16 hT3,hO3,g16 hO3,st16 hO3,hF3,yH,yD]
   simp only [br, decide_eq_true_eq, decide_eq_false_iff_not, beq_iff_eq, beq_eq_false_iff_ne]
   refine ⟨fun h2 => ?_, fun h2 => ?_⟩
   ·have hj16 : j < 16 := by omega
    have hjo : j < op3.length := by rw [hI.ol]; exact hj16
    have hjs : j < su3.length := by rw [hI.sl]; exact hj16
    have h3 := (hI.at_ j hj16).2 (yI _)
    have hge : op3.getD j [] = op3[j] := by rw [yA, yO hjo]; rfl
    have hb1 : (op3[j].length : Int) ≤ 1000 := by
     have h4 := hW.oq j hj16
     have h5 := hW.ln j
     rw [h4, ← h3.1, hge] at h5
     omega
    rw [vA, opVs_get hjo]
    simp -implicitDefEqProofs only [rX,↓rY,Nat.reduceEqDiff,arrSz]
    have hgT : (Blk.var (flS z16) :: .var n16 :: .dead :: .dead :: .dead :: .var [.sl 6 0 S3.D.n, .mp 7, .i S3.D.steps, .i S3.D.after, .b S3.D.dead] :: .arr 65 (S3.D.cells.map Cl.enc) :: .map (ents 5 S3.D S3.L) S3.c :: (dkT S3.D ++ .var (flS su3) :: .var (opVs 26 op3) :: opT op3))[26 + j]? = some (.arr 64 (op3[j].map Sec.enc)) := by
     have := get_13 (X := X13 su3 op3) (j := 2 + j) hn36
     rw [show 24 + (2 + j) = 26 + j by omega, show 2 + j = j + 2 by omega] at this
     exact this.trans (opT_get hjo)
    refine ⟨⟨by omega, by omega⟩, fun hm9 => ⟨fun hp => ?_, fun hp => ?_⟩⟩
    ·rw [hgT]
     have hro := row_set2 (q := 26) (x := .nil) hjo
     simp -implicitDefEqProofs only [rX,↓rY,sec_len,sec_take,sec_C]
     have hne : op3.getD j [] ≠ [] := by
      rw [hge]; intro e
      rw [e] at hp; simp at hp
     refine ⟨⟨by omega, by omega⟩, by simp only [lo, Fx.hi]; omega, ⟨by omega, by omega⟩, by omega, ⟨by omega, by omega⟩, by omega, ⟨by omega, by omega⟩, by rw [opVs_len]; omega, by simp only [lo, Fx.hi]; omega, (j + 1, su3.set j (lastS (op3.getD j [])), op3.set j []), ⟨⟨hj16, hI.next hj16 hne⟩, by show 16 - (j + 1) < _; omega⟩, ?_⟩
     have hfs : yE (j * 64) (flS su3) ++ (op3[j][((op3[j].length : Int) - 1).toNat]'(by omega)).enc ++ yF (j * 64 + 64) (flS su3) = flS (su3.set j (lastS (op3.getD j []))) := by
      rw [last_get, ← hge, Nat.mul_comm j 64]
      exact flS_set hjs
     rw [hfs, hro]
     exact back_13 (k := j + 1) hn36 hI.ol hj16 ⟨rfl, rfl, rfl, rfl, rfl, rfl, rfl, rfl, rfl, rfl, trivial⟩
    ·have hz : op3.getD j [] = [] := by
      rw [hge]; exact List.length_eq_zero_iff.1 (by omega)
     refine ⟨by simp only [lo, Fx.hi]; omega, (j + 1, su3, op3), ⟨⟨hj16, hI.skip hz⟩, by show 16 - (j + 1) < _; omega⟩, ?_⟩
     exact refl_leG (leS_13 (p0 := [(58, .i ((j + 1 : Nat) : Int))]) hn36 ⟨trivial, trivial⟩ ⟨rfl, rfl, rfl, rfl, rfl, rfl, rfl, rfl, rfl, rfl, trivial⟩ (leH_refl _))
   ·have hje : j = 16 := by omega
    subst hje
    have hop3 : op3 = yC 16 [] := by
     apply yP
     ·simp [hI.ol]
     ·intro m h1 h2
      have hm : m < 16 := by rw [← hI.ol]; exact h1
      have := ((hI.at_ m hm).1 hm).1
      rw [yA, yO h1] at this
      rw [vU]; exact this
    have hY := hW.sync (sy' := sy) (su' := su3) hn3 hD3 hWs hI.sl fun m hm => ((hI.at_ m hm).1 hm).2
    rw [hop3]
    refine ⟨by simp only [lo, Fx.hi]; omega, (i + 1, S3, su3, yC 16 []), ⟨⟨hil, hY⟩, by show l.length - (i + 1) < _; omega⟩, ?_⟩
    exact refl_leG (leS_13 (p0 := []) hn36 trivial ⟨rfl, rfl, rfl, rfl, rfl, rfl, rfl, rfl, rfl, trivial⟩ (leH_refl _))
  ·simp -implicitDefEqProofs only [Nat.reduceAdd,n61]
   have hW := (hJ.write (sy' := sy) hko hn2 hD2 (by omega)).1
   refine ⟨by simp only [lo, Fx.hi]; omega, (i + 1, S2, su, op.set k (op[k] ++ [filledS l[i].b])), ⟨⟨hil, hW⟩, by show l.length - (i + 1) < _; omega⟩, ?_⟩
   exact refl_leG (leS_13 (p0 := []) hn16 trivial ⟨rfl, rfl, rfl, rfl, rfl, rfl, rfl, rfl, rfl, trivial⟩ (by
    have := hp13_app (S := S2) (X := X13 su (op.set k (op[k] ++ [filledS l[i].b]))) (Y := [.var l[i].enc, .var (filledS l[i].b).enc, .arr 64 [(filledS l[i].b).enc], .dead])
    show leH (hp13 S2 (X13 su (op.set k (op[k] ++ [filledS l[i].b])) ++ [.var l[i].enc, .var (filledS l[i].b).enc, .arr 64 [(filledS l[i].b).enc], .dead])) _
    rw [this]
    exact leH_app))
 ·have hie : i = l.length := by omega
  subst hie
  have hF : (flS su).length = 1024 := by rw [flS_len, hJ.sl]
  have hF0 : (flS z16).length = 1024 := by rw [flS_len]; rfl
  have hV : (opVs 26 op).length = 16 := opVs_len.trans hJ.ol
  have hN : n16.length = 16 := rfl
  simp -implicitDefEqProofs only [rX,hF,hF0,hV,hN]
  have t1 : yE 1024 (flS su) = flS su := yS (by rw [hF]; exact yI _)
  have t2 : yE 16 (opVs 26 op) = opVs 26 op := yS (by rw [hV]; exact yI _)
  have d1 : yF 1024 (flS z16) = [] := yR (by rw [hF0]; exact yI _)
  have d2 : yF 16 n16 = [] := yR (by rw [hN]; exact yI _)
  rw [t1, t2, hF, hV, d1, d2, yJ, yJ]
  refine ⟨rfl, flS_C, rfl, opVs_C, ?_⟩
  refine retP_isQ (S, su, op) hJ ?_
  simp -implicitDefEqProofs only [rX,↓rY,↓reduceIte,Nat.reduceEqDiff,resP,tupV,leH,leB,keepP,liveP,wfB,wfV,wfL,Nat.reduceLeDiff,hF,hV,t1,t2]
  exact ⟨⟨⟨rfl, rfl, rfl, rfl, rfl, trivial⟩, leB_refl _, leB_refl _, leH_dd⟩, ⟨trivial, plain_wf flS_plain, hr13_ops hJ.n16⟩, hr13_wf⟩
set_option maxRecDepth 20000
structure J6 (S : MS) (c : Nat → Cl) : Prop where
 n16 : S.n = 16
 st : S.D.steps ≤ 1000
 af : S.D.after = -1
 dd : S.D.dead = false
 op : ∀ k, S.D.op k = []
 cl : ∀ k, k < 16 → S.D.cells.getD k zC = c k
theorem J6.chk {S : MS} {c : Nat → Cl} (h : J6 S c) {k : Int} (hk : 0 ≤ k ∧ k < 16) : S.D.chk k = 0 := by
 have hn : S.D.cells.length = 16 := h.n16
 unfold Dk.chk
 rw [h.dd, if_neg (by decide), if_neg (by show ¬ (k < 0 ∨ (S.D.cells.length : Int) ≤ k); rw [hn]; omega)]
theorem J6.stepE {S : MS} {c : Nat → Cl} (h : J6 S c) : S.D.stepE = 0 := by
 unfold Dk.stepE
 rw [h.af, if_neg (by decide)]
theorem J6.stepD {S : MS} {c : Nat → Cl} (h : J6 S c) : S.D.stepD = { S.D with steps := S.D.steps + 1 } := by
 unfold Dk.stepD
 rw [h.af, if_neg (by decide), if_neg (by decide), ← h.af]
theorem J6.rd {S : MS} {c : Nat → Cl} (h : J6 S c) {k : Nat} (hk : k < 16) : S.D.rd k = if (c k).bad then (zS, 131) else ((c k).s, 0) := by
 unfold Dk.rd
 rw [if_neg (by rw [h.chk ⟨by omega, by omega⟩]; decide), yT, h.op, h.cl k hk]; rfl
theorem getD_set {l : List Cl} {k j : Nat} {c : Cl} (hk : k < l.length) : (l.set k c).getD j zC = if j = k then c else l.getD j zC := by
 rw [yA, yN]
 by_cases e : k = j
 ·rw [if_pos e, if_pos e.symm, if_pos hk]; rfl
 ·rw [if_neg e, if_neg (fun h => e h.symm), ← yA]
theorem J6.flE {S : MS} {c : Nat → Cl} (h : J6 S c) {k b : Nat} (hk : k < 16) (hb : b < 512) : S.D.flE k b = 0 := by
 rw [Dk.flE, h.chk ⟨by omega, by omega⟩, if_neg (by decide), if_neg (by omega)]
theorem J6.flip {S : MS} {c : Nat → Cl} (h : J6 S c) {k b : Nat} (hk : k < 16) (hb : b < 512) : J6 (S.flip k b) (fun j => if j = k then flipC (c k) b else c j) := by
 have hn : S.D.cells.length = 16 := h.n16
 rw [MS.flip, if_pos (h.flE hk hb)]
 refine ⟨put_n.trans h.n16, h.st, h.af, h.dd, h.op, fun j hj => ?_⟩
 show (S.D.cells.set (vB k) (flipC (S.D.cells.getD (vB k) zC) (vB b))).getD j zC = _
 rw [yT, yT, getD_set (by omega), h.cl k hk, h.cl j hj]
theorem J6.rot {S : MS} {c : Nat → Cl} (h : J6 S c) {k : Nat} (hk : k < 16) : J6 (S.rot k) (fun j => if j = k then badC else c j) := by
 have hn : S.D.cells.length = 16 := h.n16
 rw [MS.rot, if_pos (h.chk ⟨by omega, by omega⟩)]
 refine ⟨put_n.trans h.n16, h.st, h.af, h.dd, h.op, fun j hj => ?_⟩
 show (S.D.cells.set (vB k) badC).getD j zC = _
 rw [yT, getD_set (by omega), h.cl j hj]
theorem J6.crash {S : MS} {c : Nat → Cl} (h : J6 S c) {keep : List Int} : J6 (crE S keep) c := by
 refine ⟨crE_n.trans h.n16, yU _, rfl, rfl, fun _ => crE_op, fun j hj => ?_⟩
 rw [crE_no (h.op j), h.cl j hj]
theorem J6.wrE {S : MS} {c : Nat → Cl} (h : J6 S c) {k : Nat} (hk : k < 16) : S.D.wrE k = 0 := by
 rw [Dk.wrE, h.chk ⟨by omega, by omega⟩, if_neg (by decide), h.stepE]
theorem J6.write {S S2 S3 : MS} {c : Nat → Cl} (h : J6 S c) (h0 : S.D.steps ≤ 100) {k : Nat} {s : Sec} (hk : k < 16) (hn2 : S2.n = S.n) (hD2 : S2.D = S.D.wrD k s) (hn3 : S3.n = S2.n) (hD3 : S3.D = S2.D.syD) : S2.D.syE = 0 ∧ S2.D.steps ≤ 101 ∧ S2.D.after = -1 ∧ J6 S3 (fun j => if j = k then ⟨s, false⟩ else c j) := by
 have hn : S.D.cells.length = 16 := h.n16
 have hko : k < S.D.opn.length := by rw [S.ok.len]; show k < S.D.cells.length; omega
 rw [Dk.wrD, h.chk ⟨by omega, by omega⟩, if_neg (by decide), h.stepE, if_neg (by decide), h.stepD, yT] at hD2
 have hs2 : S2.D.steps = S.D.steps + 1 := by rw [hD2]; rfl
 have ha2 : S2.D.after = -1 := by rw [hD2]; exact h.af
 have hd2 : S2.D.dead = false := by rw [hD2]; exact h.dd
 have hc2 : S2.D.chk 0 = 0 := by
  unfold Dk.chk
  rw [hd2, if_neg (by decide), if_neg (by show ¬ ((0 : Int) < 0 ∨ (S2.n : Int) ≤ 0); rw [hn2, h.n16]; decide)]
 have he2 : S2.D.stepE = 0 := by unfold Dk.stepE; rw [ha2, if_neg (by decide)]
 have hsd : S2.D.stepD = { S2.D with steps := S2.D.steps + 1 } := by
  unfold Dk.stepD
  rw [ha2, if_neg (by decide), if_neg (by decide), ← ha2]
 have hop : ∀ j, S2.D.op j = if j = k then [s] else [] := fun j => by
  have h1 := add_op (D := { S.D with steps := S.D.steps + 1 }) (j := j) (s := s) hko
  have h2 : S2.D.op j = (Dk.addD { S.D with steps := S.D.steps + 1 } k s).op j := by rw [hD2]
  rw [h2, h1]
  show (if j = k then S.D.op k ++ [s] else S.D.op j) = _
  rw [h.op, h.op]; rfl
 have hcl : ∀ j, S2.D.cells.getD j zC = S.D.cells.getD j zC := fun j => by rw [hD2]; rfl
 refine ⟨by rw [Dk.syE, hc2, if_neg (by decide), he2], by omega, ha2, ?_⟩
 rw [Dk.syD, hc2, if_neg (by decide), he2, if_neg (by decide), hsd] at hD3
 have hn6 : S2.D.cells.length = 16 := (show S2.n = 16 from hn2.trans h.n16)
 refine ⟨hn3.trans (hn2.trans h.n16), by rw [hD3]; show S2.D.steps + 1 ≤ _; omega, by rw [hD3]; exact ha2, by rw [hD3]; exact hd2, fun j => ?_, fun j hj => ?_⟩
 ·rw [hD3]
  show (yC S2.D.cells.length ([] : List Sec)).getD j [] = []
  rw [yA, yM]
  split <;> rfl
 ·rw [hD3]
  show ((List.range S2.D.cells.length).map fun j => if S2.D.op j = [] then S2.D.cells.getD j zC else ⟨lastS (S2.D.op j), false⟩).getD j zC = _
  rw [yA, List.getElem?_map, vS (by omega)]
  show (if S2.D.op j = [] then S2.D.cells.getD j zC else ⟨lastS (S2.D.op j), false⟩) = _
  rw [hop, hcl, h.cl j hj]
  by_cases e : j = k
  ·rw [if_pos e, if_pos e, if_neg (by simp)]; rfl
  ·rw [if_neg e, if_neg e, if_pos rfl]
theorem J13.j6 {i : Nat} {S : MS} {su : List Sec} {op : List (List Sec)} {sy : Int} (h : J13 sy i S su op) (hi : i ≤ 40) (hy : (i : Int) = sy) : J6 S (fun j => ⟨su.getD j zS, false⟩) := by
 have hop := h.sy hy
 refine ⟨h.n16, by have := h.st; omega, h.af, h.dd, fun k => ?_, h.cl⟩
 by_cases hk : k < 16
 ·rw [h.oq k hk, hop, yA, yM, if_pos hk]; rfl
 ·have h1 : S.D.opn.length = 16 := by rw [S.ok.len]; exact h.n16
  unfold Dk.op
  rw [yA, vP (by omega)]; rfl
theorem flipS_enc {s : Sec} {m bit : Nat} (hm : m = bit / 8) (hb : m < 64) : yE m s.enc ++ [encY (s.l[m]'(by rw [s.h]; exact hb) ^^^ (1#8 <<< (bit % 8)))] ++ yF (m + 1) s.enc = (flipS s bit).enc := by
 have hl : m < s.l.length := by rw [s.h]; exact hb
 have e : (flipS s bit).enc = (s.l.set m (s.l[m] ^^^ (1#8 <<< (bit % 8)))).map encY := by
  subst hm
  have e2 : s.l.getD (bit / 8) 0 = s.l[bit / 8] := by rw [yA, yO hl]; rfl
  show (s.l.set (bit / 8) _).map encY = _
  rw [e2]
 rw [e, Sec.enc, vM, if_pos hl, yW, yB, List.map_take, List.map_drop]
 simp
theorem flipS_flipS {s : Sec} {bit : Nat} (hb : bit < 512) : flipS (flipS s bit) bit = s := by
 have hl : bit / 8 < s.l.length := by rw [s.h]; omega
 have e : ∀ a b : Sec, a.l = b.l → a = b := fun a b h => by cases a; cases b; cases h; rfl
 apply e
 show ((s.l.set (bit / 8) _).set (bit / 8) _) = _
 rw [vN]
 have h1 : (s.l.set (bit / 8) (s.l.getD (bit / 8) 0 ^^^ (1#8 <<< (bit % 8)))).getD (bit / 8) 0 = s.l.getD (bit / 8) 0 ^^^ (1#8 <<< (bit % 8)) := by
  rw [yA, yN, if_pos rfl, if_pos hl]; rfl
 show s.l.set (bit / 8) ((flipS s bit).l.getD (bit / 8) 0 ^^^ _) = _
 have h2 : (flipS s bit).l = s.l.set (bit / 8) (s.l.getD (bit / 8) 0 ^^^ (1#8 <<< (bit % 8))) := rfl
 rw [h2, h1, BitVec.xor_assoc, BitVec.xor_self, BitVec.xor_zero, yA, yO hl]
 exact List.set_getElem_self ..
theorem flipC_ok {s : Sec} {b : Nat} : flipC ⟨s, false⟩ b = ⟨flipS s b, false⟩ := by
 rw [flipC, if_neg]
 intro e
 cases e
set_option maxRecDepth 20000
theorem opVs_ren {op : List (List Sec)} {p q : Nat} {g : Nat → Option Nat} (hg : ∀ k, k < op.length → g (p + k) = some (q + k)) : rens g (opVs p op) = opVs q op := by
 have hm : ∀ l : List V, rens g l = l.map (ren g) := by
  intro l
  induction l with
  | nil => rfl
  | cons x r ih => simp only [rens, yB, ih]
 rw [hm]
 apply yP
 ·simp [opVs]
 ·intro j h1 h2
  have hj : j < op.length := by simpa [opVs] using h1
  simp only [opVs, yQ, yY, ren, hg j hj]
theorem opT_ren {op : List (List Sec)} {g : Nat → Option Nat} : (opT op).map (renB g) = opT op := by
 simp only [opT, vK]
 exact vL fun _ _ => rfl
theorem plain_ren {l : List V} (h : ∀ x ∈ l, ∃ u, x = .v u) {g : Nat → Option Nat} : rens g l = l := (plain_len h (H := []) (g := fun _ => none)).2.2 g
theorem call_13 {cx : Cx} {e : Env} {b : Nat} {K : V → St → Prop} {h : List Blk} (l : List Op) (sy : Int) (hl : l.length ≤ 40) (hC : cx.C = C0 Try.prog) (hfx : cx.fx = []) (hh : h.length = 2)
  (h3 : ∀ (S : MS) (su : List Sec) (op : List (List Sec)), J13 sy l.length S su op → K (.tup [.ptr 7 0 0, .agg (flS su), .agg (opVs 28 op)]) ⟨e, h ++ (.dead :: .dead :: .dead :: .dead :: .dead :: (S.bs 7 ++ .dead :: .dead :: opT op)), b⟩) : callP cx 13 [.ro 3 (l.map Op.enc), .i sy] ⟨e, h, b⟩ K := by
 refine ⟨[], [.ro 3 (l.map Op.enc), .i sy], [], r13 sy l.length, ⟨⟨List.nodup_nil, by simp⟩, by simp⟩, ⟨trivial, trivial, trivial⟩, ⟨⟨rfl, rfl⟩, rfl, trivial⟩, by rw [hC]; exact ok13 l sy hl, ?_⟩
 rintro r h' ⟨⟨S, su, op⟩, hJ, rfl, rfl⟩ _
 have hJ : J13 sy l.length S su op := hJ
 rw [hfx]
 refine ⟨trivial, ?_⟩
 have hk : ∀ l : List Blk, l.map (killB []) = l := killB_nil
 have hg : ∀ j, back [] h.length j = some (2 + j) := fun j => by simp [back, hh]
 have e1 : (S.bs 5).map (renB (back [] h.length)) = S.bs 7 := dk_ren S.ok fun j hj => by rw [hg]; congr 1; omega
 have e2 : setAll [] ((Blk.dead :: .dead :: .dead :: .dead :: .dead :: (S.bs 5 ++ .dead :: .dead :: opT op)).map (renB (back [] h.length))) (h.map (killB [])) = h ++ (.dead :: .dead :: .dead :: .dead :: .dead :: (S.bs 7 ++ .dead :: .dead :: opT op)) := by
  rw [hk]
  show h ++ _ = _
  simp only [yB, yW, e1, opT_ren]
  rfl
 have e3 : ren (back [] h.length) (.tup [.ptr 5 0 0, .agg (flS su), .agg (opVs 26 op)]) = .tup [.ptr 7 0 0, .agg (flS su), .agg (opVs 28 op)] := by
  have h1 := plain_ren (l := flS su) flS_plain (g := back [] h.length)
  have h2 := opVs_ren (op := op) (p := 26) (q := 28) (g := back [] h.length) fun k _ => by rw [hg]; congr 1; omega
  simp only [ren, rens, h1, h2, hg]
 have h4 := h3 S su op hJ
 rw [← e2, ← e3] at h4
 simp only [List.filterMap_nil, killE_nil]
 exact h4
theorem opVs_killM {q : Nat} {op : List (List Sec)} {M : List Nat} (hM : ∀ k, k < op.length → q + k ∉ M) : kills M (opVs q op) = opVs q op := by
 rw [kills_map]
 apply yP
 ·simp
 ·intro j h1 h2
  have hj : j < op.length := by simpa [opVs] using h2
  simp only [opVs, yQ, yY, kill, if_neg (hM j hj)]
theorem kill_28 {op : List (List Sec)} : kills (yK 10 16) (opVs 28 op) = opVs 28 op := opVs_killM fun k _ => by rw [yG]; omega
theorem A6_kill {su : List Sec} {op : List (List Sec)} {n : Nat} (hn : n = 16) : [Blk.var (flS su), .var (opVs 28 op), .dead, .dead, .dead, .dead, .dead].map (killB (yK (7 + 3) n)) = [Blk.var (flS su), .var (opVs 28 op), .dead, .dead, .dead, .dead, .dead] := by
 subst hn
 simp only [yB, yL, killB, plain_kill flS_plain, Nat.reduceAdd, kill_28]
theorem B6_kill {op : List (List Sec)} {M : List Nat} {X : List Blk} (hX : X.map (killB M) = X) : (Blk.dead :: .dead :: (opT op ++ X)).map (killB M) = Blk.dead :: .dead :: (opT op ++ X) := by
 rw [yB, yB, opT_kill, hX]; rfl
theorem B6_kill0 {op : List (List Sec)} {M : List Nat} : (Blk.dead :: .dead :: opT op).map (killB M) = Blk.dead :: .dead :: opT op := by
 have := B6_kill (op := op) (M := M) (X := []) rfl
 rwa [yJ] at this
theorem flS_at {L : List Sec} {k : Nat} (hk : k < L.length) : yE 64 (yF (k * 64) (flS L)) = (L.getD k zS).enc := by
 rw [Nat.mul_comm, flS_get hk, yA, yO hk]; rfl
def dd43 : List Blk := yC 43 .dead
theorem dd43_len : dd43.length = 43 := rfl
theorem g43 {X : List Blk} {j : Nat} : (dd43 ++ X)[j + 43]? = X[j]? := by
 rw [vC (by rw [dd43_len]; omega)]; congr 1
theorem st43 {X : List Blk} {j : Nat} {B : Blk} : (dd43 ++ X).set (j + 43) B = dd43 ++ X.set j B := by
 rw [vR _ _ (by rw [dd43_len]; omega)]; congr 2
theorem dd43_app {X Y : List Blk} : dd43 ++ X ++ Y = dd43 ++ (X ++ Y) := yV ..
def hq6 (su : List Sec) (sp x : Sec) (S : MS) (B : List Blk) : List Blk := .var (flS su) :: (dd43 ++ .var sp.enc :: .var x.enc :: .dead :: .dead :: .dead :: dkV 49 S.D :: dkC S.D :: .map (ents 49 S.D S.L) S.c :: (dkT S.D ++ B))
theorem call_49 {cx : Cx} {f : FuncId} {e : Env} {b : Nat} {K : V → St → Prop} {S : MS} {args xs : List V} {Q : V → MS → Prop} {su : List Sec} {sp x : Sec} (B : List Blk) (hbn : cx.bn = []) (hfx : cx.fx = []) (hC : cx.C f (.ptr 0 0 0 :: xs) (S.bs 0) (yK 3 S.n) (QD S.n Q))
  (ha : ∀ (H : List Blk) (g : Nat → Option Nat), lendsOk H g args ∧ wkL xs (lends H g args))
  (hB : B.map (killB (yK (49 + 3) S.n)) = B) (hE : killE (yK (49 + 3) S.n) e = e)
  (h3 : ∀ (r : V) (S' : MS), S'.n = S.n → Q r S' → (∀ g, ren g r = r) ∧ K r ⟨e, hq6 su sp x S' B, b⟩) : callP cx f (.ptr 49 0 0 :: args) ⟨e, hq6 su sp x S B, b⟩ K := by
 have hA : ∀ S : MS, hq6 su sp x S B = (.var (flS su) :: (dd43 ++ [.var sp.enc, .var x.enc, .dead, .dead, .dead])) ++ (dkV 49 S.D :: dkC S.D :: .map (ents 49 S.D S.L) S.c :: (dkT S.D ++ B)) := fun S => by
  unfold hq6
  rw [vO, yV]; rfl
 rw [hA]
 refine call_at 49 _ B rfl hbn hfx hC ha ?_ hB hE fun r S' h1 h2 => ?_
 ·rw [yB, yW]
  have : dd43.map (killB (yK (49 + 3) S.n)) = dd43 := by rw [dd43, List.map_replicate]; rfl
  rw [this]
  simp only [yB, yL, killB, plain_kill flS_plain, sec_kill]
 ·have := h3 r S' h1 h2
  rwa [hA] at this
theorem hq6_wf {su : List Sec} {sp x : Sec} {S : MS} : wfB (hq6 su sp x S []) (hq6 su sp x S []) := by
 have hA : hq6 su sp x S [] = (.var (flS su) :: (dd43 ++ [.var sp.enc, .var x.enc, .dead, .dead, .dead])) ++ (S.bs 49 ++ []) := by
  unfold hq6
  rw [vO, yV]; rfl
 have h1 := S.wf (p := 49) (.var (flS su) :: (dd43 ++ [.var sp.enc, .var x.enc, .dead, .dead, .dead])) [] rfl (C := []) trivial
 rw [← hA] at h1
 refine ⟨plain_wf flS_plain, ?_⟩
 have h2 : ∀ n (X : List Blk), wfB (hq6 su sp x S []) X → wfB (hq6 su sp x S []) (yC n .dead ++ X) := by
  intro n
  induction n with
  | zero => intro X h; exact h
  | succ n ih => intro X h; exact ih X h
 have h3 : wfB (hq6 su sp x S []) (dkV 49 S.D :: dkC S.D :: .map (ents 49 S.D S.L) S.c :: (dkT S.D ++ [])) := h1
 exact h2 43 _ ⟨sec_wf, sec_wf, h3⟩
theorem hq6_le {su : List Sec} {op : List (List Sec)} {sp x : Sec} {S S4 : MS} (hn : S.n = 16) (ho : op.length = 16) : leH (.var (flS su) :: .var (opVs 28 op) :: .dead :: .dead :: .dead :: .dead :: .dead :: (S.bs 7 ++ .dead :: .dead :: (opT op ++ [.var sp.enc, .var x.enc] ++ .dead :: .dead :: .dead :: S4.bs 49))) (hq6 su sp x S4 []) := by
 have hl : (.var (opVs 28 op) :: .dead :: .dead :: .dead :: .dead :: .dead :: (S.bs 7 ++ .dead :: .dead :: opT op) : List Blk).length = 43 := by
  simp only [vD, yX, S.len, hn, opT_len, ho]
 have h1 := leH_deadT (X := .var sp.enc :: .var x.enc :: .dead :: .dead :: .dead :: S4.bs 49) (Y := .var sp.enc :: .var x.enc :: .dead :: .dead :: .dead :: S4.bs 49) (leH_refl _) (T := .var (opVs 28 op) :: .dead :: .dead :: .dead :: .dead :: .dead :: (S.bs 7 ++ .dead :: .dead :: opT op))
 rw [hl] at h1
 have e1 : (.var (opVs 28 op) :: .dead :: .dead :: .dead :: .dead :: .dead :: (S.bs 7 ++ .dead :: .dead :: opT op)) ++ (.var sp.enc :: .var x.enc :: .dead :: .dead :: .dead :: S4.bs 49) = .var (opVs 28 op) :: .dead :: .dead :: .dead :: .dead :: .dead :: (S.bs 7 ++ .dead :: .dead :: (opT op ++ [.var sp.enc, .var x.enc] ++ .dead :: .dead :: .dead :: S4.bs 49)) := by
  simp
 rw [e1] at h1
 have e2 : hq6 su sp x S4 [] = .var (flS su) :: (yC 43 .dead ++ .var sp.enc :: .var x.enc :: .dead :: .dead :: .dead :: S4.bs 49) := by
  unfold hq6
  rw [yJ]; rfl
 rw [e2]
 exact ⟨leB_refl _, h1⟩
theorem leH_pre {X Y : List Blk} (h : leH X Y) : ∀ {T : List Blk}, leH (T ++ X) (T ++ Y)
 | [] => h
 | x :: T => ⟨leB_refl x, leH_pre h⟩
def hq60 (su : List Sec) (sp x : Sec) (S : MS) : List Blk := .var (flS su) :: (dd43 ++ .var sp.enc :: .var x.enc :: .dead :: .dead :: .dead :: dkV 49 S.D :: dkC S.D :: .map (ents 49 S.D S.L) S.c :: dkT S.D)
theorem hq60_eq {su : List Sec} {sp x : Sec} {S : MS} : hq60 su sp x S = hq6 su sp x S [] := by
 unfold hq6
 rw [yJ]; rfl
theorem hq60_wf {su : List Sec} {sp x : Sec} {S : MS} : wfB (hq60 su sp x S) (hq60 su sp x S) := by
 rw [hq60_eq]; exact hq6_wf
theorem hq6_rest {sp x : Sec} {S : MS} {X : List Blk} : leH (dd43 ++ .var sp.enc :: .var x.enc :: .dead :: .dead :: .dead :: dkV 49 S.D :: dkC S.D :: .map (ents 49 S.D S.L) S.c :: (dkT S.D ++ X)) (dd43 ++ .var sp.enc :: .var x.enc :: .dead :: .dead :: .dead :: dkV 49 S.D :: dkC S.D :: .map (ents 49 S.D S.L) S.c :: dkT S.D) := by
 refine leH_pre (T := dd43) ?_
 exact ⟨leB_refl _, leB_refl _, trivial, trivial, trivial, leB_refl _, leB_refl _, leB_refl _, leH_app⟩
theorem ok6 (l : List Op) (a bit : Nat) (ha : a ≤ 255) (hbit : bit ≤ 65535) (keep : List Int) : Ok 6 [.ro 3 (l.map Op.enc), .v (.int .u8 a), .v (.int .u16 bit), .ro 1 (keep.map encI)] (Is (.b true)) := by
 refine ok_of lw6 (by simp) ?_
 unfold c6
 simp -implicitDefEqProofs only [rX,↓rY,ofConst,↓reduceIte,Nat.reduceEqDiff,Nat.reduceAdd,reduceCtorEq,cxN,args0]
 simp only [br, decide_eq_true_eq, decide_eq_false_iff_not]
 refine fun hm => ⟨fun h1 => s8 rfl rfl ?_, fun h1 => ?_⟩
 ·simp -implicitDefEqProofs only [rX,↓reduceIte,resP,tupV,wfV]
 refine fun hm2 => call_13 l l.length (by omega) rfl rfl rfl fun S su op hJ => ?_
 have hF : (flS su).length = 1024 := by rw [flS_len, hJ.sl]
 have hF0 : (flS z16).length = 1024 := by rw [flS_len]; rfl
 have hV : (opVs 28 op).length = 16 := opVs_len.trans hJ.ol
 have hN : n16.length = 16 := rfl
 have hT : (dkT S.D).length = 16 := S.T_len.trans hJ.n16
 have hO : (opT op).length = 16 := opT_len.trans hJ.ol
 have t1 : yE 1024 (flS su) = flS su := yS (by rw [hF]; exact yI _)
 have t2 : yE 16 (opVs 28 op) = opVs 28 op := yS (by rw [hV]; exact yI _)
 have d1 : yF 1024 (flS z16) = [] := yR (by rw [hF0]; exact yI _)
 have d2 : yF 16 n16 = [] := yR (by rw [hN]; exact yI _)
 have hJ6 := hJ.j6 (by omega) rfl
 obtain ⟨k, hk, hk16⟩ : ∃ k : Nat, (a : Int).tmod 16 = k ∧ k < 16 := ⟨a % 16, by rw [yZ (by omega)]; omega, by omega⟩
 obtain ⟨b, hb, hb5⟩ : ∃ b : Nat, (bit : Int).tmod 512 = b ∧ b < 512 := ⟨bit % 512, by rw [yZ (by omega)]; omega, by omega⟩
 rw [bs_eq]
 simp -implicitDefEqProofs only [rX,↓rY,ofConst,cells?,splice,↓reduceIte,Nat.reduceEqDiff,Nat.reduceAdd,reduceCtorEq,freshP,resP,tupV,wfV,dkV,dkC,n61,n62,flS_0,n16_0,hF,hF0,hV,hN,d1,d2,flS_C,opVs_C,hk,hb]
 refine ⟨by simp only [lo, Fx.hi]; omega, by decide, by simp only [lo, Fx.hi]; omega, by decide, ?_⟩
 refine call_at (cx := cxN Try.prog []) (S := S) (args := [.i k, .i b]) (xs := [.i k, .i b]) 7 [.var (flS su), .var (opVs 28 op), .dead, .dead, .dead, .dead, .dead] (.dead :: .dead :: opT op) rfl rfl rfl (ok24 S k b) (fun _ _ => ⟨⟨trivial, trivial, trivial⟩, rfl, rfl, trivial⟩) ?_ ?_ ?_ ?_
 ·exact A6_kill hJ.n16
 ·exact B6_kill0
 ·simp [killE, kill, kills, yG, hJ.n16, opn_kill, sec_kill, kill_28, plain_kill flS_plain]
 rintro r S1 hn1 ⟨hS1, rfl⟩
 have hJ1 : J6 S1 _ := hS1 ▸ hJ6.flip hk16 hb5
 have hks : k < su.length := by rw [hJ.sl]; exact hk16
 rw [hJ6.flE hk16 hb5]
 have hb0 : ((0 : Int) != 0) = false := rfl
 have hT1 : (dkT S1.D).length = 16 := S1.T_len.trans hJ1.n16
 refine ⟨fun _ => rfl, ?_⟩
 have hat := flS_at hks
 have hk64 : (k * 64 + 64 ≤ 1024) = True := eq_true (by omega)
 generalize hsg : su.getD k zS = s at hat
 have e0 : (b : Int).tdiv 8 = ((b / 8 : Nat) : Int) := by
  rw [Int.tdiv_eq_ediv_of_nonneg (by omega)]; omega
 have e3 : (b : Int).tmod 8 = ((b % 8 : Nat) : Int) := by
  rw [yZ (by omega)]; omega
 have hb64 : b / 8 < 64 := by omega
 have hl : b / 8 < s.l.length := by rw [s.h]; exact hb64
 have hbyte : s.enc[b / 8]? = some (encY s.l[b / 8]) := by
  have := sec_get (s := s) (r := []) hl
  rwa [yJ] at this
 simp -implicitDefEqProofs only [rX,↓rY,ofConst,cells?,splice,↓reduceIte,Nat.reduceEqDiff,Nat.reduceAdd,freshP,resP,tupV,wfV,Nat.reduceLeDiff,arr64,sec_len,sec_C,dkV,dkC,sec_drop,dkT_app,n61,n62,hb0,hT1,g16 hT1,st16 hT1,hO,g16 hO,st16 hO,opT_app,yH,yD,hat,hF,hk64,e0,e3,vA,hbyte]
 have efl := flipS_enc (s := s) (bit := b) rfl hb64
 simp only [encY] at efl
 refine ⟨⟨by omega, by omega⟩, by decide, by simp only [lo, Fx.hi]; omega, ⟨by omega, by omega⟩, ?_⟩
 refine ⟨by decide, ?_⟩
 rw [shlI (by omega)]
 refine ⟨by omega, rfl, ?_⟩
 rw [xor8]
 refine ⟨⟨by omega, by omega⟩, ?_⟩
 simp -implicitDefEqProofs only [rX,↓rY,isC,encY,efl]
 refine ⟨by omega, ?_⟩
 refine call_at (cx := cxN Try.prog []) (S := S1) (args := [.i k]) (xs := [.i k]) 7 [.var (flS su), .var (opVs 28 op), .dead, .dead, .dead, .dead, .dead] (.dead :: .dead :: (opT op ++ [.var (flipS s b).enc, .dead])) rfl rfl rfl (ok11 S1 k) (fun _ _ => ⟨⟨trivial, trivial⟩, rfl, trivial⟩) (A6_kill hJ1.n16) (B6_kill ?_) ?_ ?_
 ·simp only [yB, yL, killB, sec_kill]
 ·simp [killE, kill, kills, yG, hJ1.n16, opn_kill, sec_kill, kill_28, plain_kill flS_plain]
 rintro r S2 hn2 ⟨hS2, rfl⟩
 subst S2
 have hr1 : S1.D.rd k = (flipS s b, 0) := by
  rw [hJ1.rd hk16]
  show (if (if k = k then flipC ⟨su.getD k zS, false⟩ b else _).bad then _ else _) = _
  rw [if_pos rfl, flipC_ok, hsg]; rfl
 refine ⟨rd_ren, ?_⟩
 rw [hr1]
 have es : ∀ {s t : Sec} {K : Bool → Prop}, (optK (aggC (.agg s.enc)) fun xs => optK (aggC (.agg t.enc)) fun ys => eqFs xs ys ((yK 0 64).map fun i => (i, .int .u8)) K) = K (decide (s = t)) := eqA_sec
 simp -implicitDefEqProofs only [rX,↓rY,ofConst,cells?,splice,↓reduceIte,Nat.reduceEqDiff,Nat.reduceAdd,freshP,resP,tupV,wfV,arr64,sec_len,sec_take,sec_C,dkV,dkC,sec_drop,n61,n62,hb0,hT1,g16 hT1,st16 hT1,hO,g16 hO,st16 hO,yH,yD,es,decide_true]
 refine call_at (cx := cxN Try.prog []) (S := S1) (args := [.i k, .i b]) (xs := [.i k, .i b]) 7 [.var (flS su), .var (opVs 28 op), .dead, .dead, .dead, .dead, .dead] (.dead :: .dead :: (opT op ++ [.var (flipS s b).enc, .var (flipS s b).enc])) rfl rfl rfl (ok24 S1 k b) (fun _ _ => ⟨⟨trivial, trivial, trivial⟩, rfl, rfl, trivial⟩) (A6_kill hJ1.n16) (B6_kill ?_) ?_ ?_
 ·simp only [yB, yL, killB, sec_kill]
 ·simp [killE, kill, kills, yG, hJ1.n16, opn_kill, sec_kill, kill_28, plain_kill flS_plain]
 rintro r S2 hn2 ⟨hS2, rfl⟩
 have hJ2 : J6 S2 _ := hS2 ▸ hJ1.flip hk16 hb5
 rw [hJ1.flE hk16 hb5]
 have hT2 : (dkT S2.D).length = 16 := S2.T_len.trans hJ2.n16
 refine ⟨fun _ => rfl, ?_⟩
 simp -implicitDefEqProofs only [rX,↓rY,ofConst,↓reduceIte,Nat.reduceEqDiff,Nat.reduceAdd,resP,tupV,wfV,dkV,dkC,n61,n62,hb0,hT2,g16 hT2,st16 hT2,hO,g16 hO,st16 hO]
 refine call_at (cx := cxN Try.prog []) (S := S2) (args := [.i k]) (xs := [.i k]) 7 [.var (flS su), .var (opVs 28 op), .dead, .dead, .dead, .dead, .dead] (.dead :: .dead :: (opT op ++ [.var (flipS s b).enc, .var (flipS s b).enc])) rfl rfl rfl (ok11 S2 k) (fun _ _ => ⟨⟨trivial, trivial⟩, rfl, trivial⟩) (A6_kill hJ2.n16) (B6_kill ?_) ?_ ?_
 ·simp only [yB, yL, killB, sec_kill]
 ·simp [killE, kill, kills, yG, hJ2.n16, opn_kill, sec_kill, kill_28, plain_kill flS_plain]
 rintro r S3 hn3 ⟨hS3, rfl⟩
 subst S3
 have hr2 : S2.D.rd k = (s, 0) := by
  rw [hJ2.rd hk16]
  show (if (if k = k then flipC (if k = k then flipC ⟨su.getD k zS, false⟩ b else _) b else _).bad then _ else _) = _
  rw [if_pos rfl, if_pos rfl, flipC_ok, flipC_ok, flipS_flipS hb5, hsg]; rfl
 refine ⟨rd_ren, ?_⟩
 rw [hr2]
 simp -implicitDefEqProofs only [rX,↓rY,ofConst,cells?,splice,↓reduceIte,Nat.reduceEqDiff,Nat.reduceAdd,resP,tupV,wfV,sec_len,sec_take,sec_C,dkV,dkC,sec_drop,n61,n62,hb0,hT2,g16 hT2,st16 hT2,hO,g16 hO,st16 hO,yH,yD,es,decide_true,hat,hF,hk64]
 refine ⟨⟨by omega, by omega⟩, ?_⟩
 refine call_at (cx := cxN Try.prog []) (S := S2) (args := [.i k]) (xs := [.i k]) 7 [.var (flS su), .var (opVs 28 op), .dead, .dead, .dead, .dead, .dead] (.dead :: .dead :: (opT op ++ [.var (flipS s b).enc, .var s.enc])) rfl rfl rfl (ok25 S2 k) (fun _ _ => ⟨⟨trivial, trivial⟩, rfl, trivial⟩) (A6_kill hJ2.n16) (B6_kill ?_) ?_ ?_
 ·simp only [yB, yL, killB, sec_kill]
 ·simp [killE, kill, kills, yG, hJ2.n16, opn_kill, sec_kill, kill_28, plain_kill flS_plain]
 rintro r S3 hn3 ⟨hS3, rfl⟩
 have hJ3 : J6 S3 _ := hS3 ▸ hJ2.rot hk16
 have hck : S2.D.chk k = 0 := hJ2.chk ⟨by omega, by omega⟩
 rw [hck]
 have hT3 : (dkT S3.D).length = 16 := S3.T_len.trans hJ3.n16
 refine ⟨fun _ => rfl, ?_⟩
 simp -implicitDefEqProofs only [rX,↓rY,ofConst,↓reduceIte,Nat.reduceEqDiff,Nat.reduceAdd,reduceCtorEq,resP,tupV,wfV,dkV,dkC,n61,n62,hb0,hT3,g16 hT3,st16 hT3,hO,g16 hO,st16 hO]
 refine call_14p (cx := cxN Try.prog []) [.var (flS su), .var (opVs 28 op), .dead, .dead, .dead, .dead, .dead] (.dead :: .dead :: (opT op ++ [.var (flipS s b).enc, .var s.enc])) S3 keep (.ro 1 (keep.map encI)) 49 ?_ (by rw [hJ3.n16]; omega) (fun k => by rw [hJ3.op]; exact yU _) rfl (fun _ _ => ⟨trivial, ?_⟩) rfl rfl (A6_kill hJ3.n16) (B6_kill ?_) ?_ ?_
 ·rw [hJ3.n16]
  simp only [vD, yX, hO, List.length_nil]
 ·simp [lend, wk, wkB]
 ·simp only [yB, yL, killB, sec_kill]
 ·simp [killE, kill, kills, yG, hJ3.n16, opn_kill, sec_kill, kill_28, plain_kill flS_plain]
 simp -implicitDefEqProofs only [rX,↓rY,ofConst,↓reduceIte,Nat.reduceAdd,resP,tupV,wfV,n61]
 have hJ4 : J6 (crE S3 keep) (fun j => if j = k then badC else ⟨su.getD j zS, false⟩) := by
  have h := hJ3.crash (keep := keep)
  refine ⟨h.n16, h.st, h.af, h.dd, h.op, fun j hj => (h.cl j hj).trans ?_⟩
  by_cases e : j = k
  ·simp only [if_pos e]
  ·simp only [if_neg e]
 have h40 : (crE S3 keep).D.steps ≤ 100 := yU _
 generalize crE S3 keep = S4 at hJ4 h40
 have hT4 : (dkT S4.D).length = 16 := S4.T_len.trans hJ4.n16
 refine loopP_intro (fun j : Nat => (⟨[(106, .i j), (17, .ptr 49 0 0), (12, .i k), (10, .ptr 0 0 0), (14, .ptr 44 0 0), (15, .ptr 45 0 0)], hq6 su (flipS s b) s S4 [], 0⟩ : St)) (fun j => j ≤ 16) (fun j => 16 - j) 0 (by omega) ?_ ?_
 ·have hle := hq6_le (su := su) (op := op) (sp := flipS s b) (x := s) (S := S3) (S4 := S4) hJ3.n16 hJ.ol
  refine ⟨⟨rfl, rfl, rfl, rfl, rfl, rfl, trivial⟩, hle, trivial, ?_, hq6_wf⟩
  have l1 : liveP (hq6 su (flipS s b) s S4 []) 49 := by
   unfold liveP hq6
   rw [show 49 = (5 + 43) + 1 from rfl, yD, g43]; trivial
  have l2 : liveP (hq6 su (flipS s b) s S4 []) 44 := by
   unfold liveP hq6
   rw [show 44 = (0 + 43) + 1 from rfl, yD, g43]; trivial
  have l3 : liveP (hq6 su (flipS s b) s S4 []) 45 := by
   unfold liveP hq6
   rw [show 45 = (1 + 43) + 1 from rfl, yD, g43]; trivial
  exact ⟨trivial, l1, trivial, trivial, l2, l3, trivial⟩
 rintro j hj
 have hj : j ≤ 16 := hj
 unfold c6l0 hq6
 simp -implicitDefEqProofs only [rX,↓rY,ofConst,↓reduceIte,Nat.reduceEqDiff,Nat.reduceAdd,sec_len,sec_take,dkV,dkC,n61,n62,hT4,g16 hT4,st16 hT4,g43,dd43_app,dd43_len,yD]
 simp only [br, decide_eq_true_eq, decide_eq_false_iff_not]
 refine ⟨fun hlt => ?_, fun hge => ?_⟩
 ·have hj16 : j < 16 := by omega
  have hjs : j < su.length := by rw [hJ.sl]; exact hj16
  refine call_49 (cx := cxN Try.prog []) (S := S4) (su := su) (sp := flipS s b) (x := s) (args := [.i j]) (xs := [.i j]) [.dead] rfl rfl (ok11 S4 j) (fun _ _ => ⟨⟨trivial, trivial⟩, rfl, trivial⟩) rfl ?_ ?_
  ·simp [killE, kill, kills, yG, hJ4.n16]
  rintro r S5 hn5 ⟨hS5, rfl⟩
  subst S5
  refine ⟨rd_ren, ?_⟩
  have hrj : S4.D.rd j = if j = k then (zS, 131) else (su.getD j zS, 0) := by
   rw [hJ4.rd hj16]
   by_cases e : j = k
   ·rw [if_pos e, if_pos e]; rfl
   ·rw [if_neg e, if_neg e]; rfl
  rw [hrj]
  have hatj := flS_at hjs
  have hjk64 : (j * 64 + 64 ≤ 1024) = True := eq_true (by omega)
  unfold hq6
  by_cases e : j = k
  ·rw [if_pos e]
   have hb1 : ((j : Int) == (k : Int)) = true := by simp [e]
   have hb2 : ((131 : Int) != 131) = false := rfl
   have hb3 : ((j : Int) != (k : Int)) = false := by simp [e]
   simp -implicitDefEqProofs only [rX,↓rY,ofConst,cells?,splice,↓reduceIte,Nat.reduceEqDiff,Nat.reduceAdd,freshP,resP,tupV,leE,leH,leB,keepP,liveP,wfE,wfB,wfV,arr64,sec_len,sec_C,dkV,dkC,sec_drop,n61,n62,hT4,g16 hT4,st16 hT4,g43,st43,dd43_len,yH,yD,hb1,hb2,hb3]
   have hw := hq60_wf (su := su) (sp := flipS s b) (x := s) (S := S4)
   exact ⟨by simp only [lo, Fx.hi]; omega, j + 1, ⟨by omega, by omega⟩, by omega, ⟨leVs_rf _, hq6_rest⟩, hw.1, hw.2⟩
  ·rw [if_neg e]
   have hb1 : ((j : Int) == (k : Int)) = false := by simp; omega
   have hb3 : ((j : Int) != (k : Int)) = true := by simp; omega
   simp -implicitDefEqProofs only [rX,↓rY,ofConst,cells?,splice,↓reduceIte,Nat.reduceEqDiff,Nat.reduceAdd,freshP,resP,tupV,leE,leH,leB,keepP,liveP,wfE,wfB,wfV,arr64,sec_len,sec_take,sec_C,dkV,dkC,sec_drop,n61,n62,hT4,g16 hT4,st16 hT4,g43,st43,dd43_len,yH,yD,hb0,hb1,hb3,hF,hatj,hjk64,es,decide_true]
   have hw := hq60_wf (su := su) (sp := flipS s b) (x := s) (S := S4)
   exact ⟨⟨by omega, by omega⟩, by simp only [lo, Fx.hi]; omega, j + 1, ⟨by omega, by omega⟩, by omega, ⟨leVs_rf _, hq6_rest⟩, hw.1, hw.2⟩
 ·have hsl : ∀ (H : List Blk) (g : Nat → Option Nat), lendsOk H g [.i k, .agg (flipS s b).enc] ∧ wkL [.i k, .agg (flipS s b).enc] (lends H g [.i k, .agg (flipS s b).enc]) := fun H g => by
   obtain ⟨p1, p2, _⟩ := plain_len (sec_plain (s := flipS s b)) (H := H) (g := g)
   exact ⟨⟨trivial, p1, trivial⟩, rfl, p2, trivial⟩
  show callP _ 22 _ ⟨_, hq60 su (flipS s b) s S4, _⟩ _
  rw [hq60_eq]
  refine call_49 (cx := cxN Try.prog []) (S := S4) (args := [.i k, .agg (flipS s b).enc]) (xs := [.i k, .agg (flipS s b).enc]) [] rfl rfl (ok22 S4 k (flipS s b) (by omega) (by rw [hJ4.af]; omega) fun q => by rw [hJ4.op]; exact yU _) hsl rfl ?_ ?_
  ·simp [killE, kill, kills, yG, hJ4.n16, sec_kill]
  rintro r S5 hn5 ⟨hD5, rfl⟩
  refine ⟨fun _ => rfl, ?_⟩
  rw [hJ4.wrE hk16]
  unfold hq6
  have hn56 : S5.n = 16 := hn5.trans hJ4.n16
  have hT5 : (dkT S5.D).length = 16 := S5.T_len.trans hn56
  have hwr := fun S6 hn6 hD6 => hJ4.write h40 hk16 hn5 hD5 (S3 := S6) hn6 hD6
  have hs5 : S5.D.steps ≤ 101 ∧ S5.D.after = -1 := by
   rw [hD5, Dk.wrD, hJ4.chk ⟨by omega, by omega⟩, if_neg (by decide), hJ4.stepE, if_neg (by decide), hJ4.stepD]
   exact ⟨by show S4.D.steps + 1 ≤ 101; omega, hJ4.af⟩
  simp -implicitDefEqProofs only [rX,↓rY,ofConst,↓reduceIte,Nat.reduceEqDiff,Nat.reduceAdd,resP,tupV,wfV,dkV,dkC,n61,n62,hb0,hT5,g16 hT5,st16 hT5,dd43_len]
  show callP _ 21 _ ⟨_, hq60 su (flipS s b) s S5, _⟩ _
  rw [hq60_eq]
  refine call_49 (cx := cxN Try.prog []) (S := S5) (args := []) (xs := []) [] rfl rfl (ok21 S5 (by omega) (by omega)) (fun _ _ => ⟨trivial, trivial⟩) rfl ?_ ?_
  ·simp [killE, kill, kills, yG, hn56, sec_kill]
  rintro r S6 hn6 ⟨hD6, rfl⟩
  obtain ⟨w1, _, _, hJ6'⟩ := hwr S6 hn6 hD6
  refine ⟨fun _ => rfl, ?_⟩
  rw [w1]
  unfold hq6
  have hT6 : (dkT S6.D).length = 16 := S6.T_len.trans hJ6'.n16
  simp -implicitDefEqProofs only [rX,↓rY,ofConst,↓reduceIte,Nat.reduceEqDiff,Nat.reduceAdd,resP,tupV,wfV,dkV,dkC,n61,n62,hb0,hT6,g16 hT6,st16 hT6,dd43_len]
  show callP _ 11 _ ⟨_, hq60 su (flipS s b) s S6, _⟩ _
  rw [hq60_eq]
  refine call_49 (cx := cxN Try.prog []) (S := S6) (args := [.i k]) (xs := [.i k]) [] rfl rfl (ok11 S6 k) (fun _ _ => ⟨⟨trivial, trivial⟩, rfl, trivial⟩) rfl ?_ ?_
  ·simp [killE, kill, kills, yG, hJ6'.n16, sec_kill]
  rintro r S7 hn7 ⟨hS7, rfl⟩
  subst S7
  have hr6 : S6.D.rd k = (flipS s b, 0) := by
   rw [hJ6'.rd hk16]
   show (if (if k = k then (⟨flipS s b, false⟩ : Cl) else _).bad then _ else _) = _
   rw [if_pos rfl]; rfl
  refine ⟨rd_ren, ?_⟩
  rw [hr6]
  unfold hq6
  simp -implicitDefEqProofs only [rX,↓rY,cells?,splice,↓reduceIte,Nat.reduceEqDiff,Nat.reduceAdd,sec_len,sec_C,dkV,dkC,sec_drop,n61,n62,hT6,g16 hT6,st16 hT6,g43,st43,dd43_len,yH,yD]
  refine s8 rfl rfl ?_
  simp -implicitDefEqProofs only [rX,↓rY,ofConst,↓reduceIte,Nat.reduceEqDiff,resP,tupV,wfV,sec_len,sec_take,g16 hT6,st16 hT6,g43,yD,es,decide_true]
  exact ⟨fun _ => trivial, fun h => absurd h (by decide)⟩
theorem fn_of {f : FuncId} {xs : List V} (h : Ok f xs (Is (.b true))) : Fn Try.prog f xs [] [] (fun r _ => r = .b true) := by
 have h := h.2
 intro ρ X w vals h1 h2
 refine Calls.mono (h ρ X w vals h1 h2) ?_
 rintro e w' ⟨val, r, h', ρ', q1, q2, q3, q4, q5, q6⟩
 exact ⟨val, r, h', ρ', q1, ⟨q2.1.1, q2.2⟩, q3, q4, q5, q6⟩
theorem ex_map {α β : Type} {g : α → β} : ∀ {els : List β}, (∀ x ∈ els, ∃ a, x = g a) → ∃ l : List α, els = l.map g
 | [], _ => ⟨[], rfl⟩
 | x :: r, h => by
  obtain ⟨a, rfl⟩ := h x vH
  obtain ⟨l, rfl⟩ := ex_map (els := r) fun y hy => h y (vI _ hy)
  exact ⟨a :: l, rfl⟩
abbrev tOp : Fx.T := .st [.int .i64, .int .i64, .int .i64]
abbrev tOps : Fx.T := .sl 3 tOp
abbrev tLi : Fx.T := .sl 1 (.int .i64)
theorem wf_op {x : List V} (h : WfT tOp x) : ∃ a : Op, x = a.enc := by
 simp only [WfT, WfTs] at h
 obtain ⟨_, _, rfl, ⟨a, rfl, _⟩, _, _, rfl, ⟨b, rfl, _⟩, _, _, rfl, ⟨c, rfl, _⟩, rfl⟩ := h
 exact ⟨⟨a, b, c⟩, rfl⟩
theorem wf_ops {x : V} (h : WfV tOps x) : ∃ l : List Op, x = .ro 3 (l.map Op.enc) := by
 simp only [WfV] at h
 rw [WfT] at h
 obtain ⟨els, h1, _, he⟩ := h
 obtain ⟨l, rfl⟩ := ex_map (fun x hx => wf_op (he x hx))
 exact ⟨l, by simpa using h1⟩
theorem wf_li {x : V} (h : WfV tLi x) : ∃ l : List Int, x = .ro 1 (l.map encI) := by
 simp only [WfV] at h
 rw [WfT] at h
 obtain ⟨els, h1, _, he⟩ := h
 obtain ⟨l, rfl⟩ := ex_map (g := encI) (fun x hx => by
  have := he x hx
  simp only [WfT] at this
  obtain ⟨n, rfl, _⟩ := this
  exact ⟨n, rfl⟩)
 exact ⟨l, by simpa using h1⟩
theorem wf_u8 {x : V} (h : WfV (.int .u8) x) : ∃ n : Nat, x = .v (.int .u8 n) ∧ n ≤ 255 := by
 simp only [WfV, WfT] at h
 obtain ⟨n, h, h1, h2⟩ := h
 refine ⟨n.toNat, ?_, ?_⟩
 ·have h3 : ((n.toNat : Nat) : Int) = n := by simp only [lo] at h1; omega
  rw [h3]; simpa using h
 ·simp only [hi] at h2; omega
theorem wf_u16 {x : V} (h : WfV (.int .u16) x) : ∃ n : Nat, x = .v (.int .u16 n) ∧ n ≤ 65535 := by
 simp only [WfV, WfT] at h
 obtain ⟨n, h, h1, h2⟩ := h
 refine ⟨n.toNat, ?_, ?_⟩
 ·have h3 : ((n.toNat : Nat) : Int) = n := by simp only [lo] at h1; omega
  rw [h3]; simpa using h
 ·simp only [hi] at h2; omega
theorem fn6 : ∀ xs, WfA [tOps, .int .u8, .int .u16, tLi] xs → Fn Try.prog 6 xs [] [] (fun r _ => r = .b true) := by
 intro xs h
 obtain ⟨x1, _, rfl, h1, h⟩ := h
 obtain ⟨x2, _, rfl, h2, h⟩ := h
 obtain ⟨x3, _, rfl, h3, h⟩ := h
 obtain ⟨x4, _, rfl, h4, h⟩ := h
 obtain rfl : _ = [] := h
 obtain ⟨l, rfl⟩ := wf_ops h1
 obtain ⟨n, rfl, hn⟩ := wf_u8 h2
 obtain ⟨b, rfl, hb⟩ := wf_u16 h3
 obtain ⟨keep, rfl⟩ := wf_li h4
 exact fn_of (ok6 l n b hn hb keep)
end Go.Fx.D
