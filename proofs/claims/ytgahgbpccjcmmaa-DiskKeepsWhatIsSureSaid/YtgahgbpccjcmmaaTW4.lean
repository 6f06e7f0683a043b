import Derived.Test.YtgahgbpccjcmmaaT14b
import Derived.Test.YtgahgbpccjcmmaaDSan
import Derived.Test.YtgahgbpccjcmmaaFxRun
set_option linter.unusedVariables false
set_option linter.unusedSimpArgs false
set_option linter.unusedSectionVars false
open List renaming map_cons → yA, getD_eq_getElem?_getD → yB, range' → yC, take → yD, mem_range'_1 → yE, replicate → yF, drop → yG, append_nil → yI, getElem?_eq_getElem → yJ, map_nil → yK, set_cons_succ → yL, getElem?_cons_succ → yM, take_of_length_le → yN, ext_getElem → yO, getElem_mapIdx → yP, drop_of_length_le → yQ, getElem?_replicate → yR, getElem?_set → yS, length_append → yT, map_append → yU, length_pos_iff → yW, length_cons → yX, getElem_map → yY, length_nil → vA, drop_zero → vB, drop_append → vC, all_eq_true → vD, getElem_set → vE, mem_cons_self → vF, mem_cons_of_mem → vG, mem_singleton → vH, map_map → vI, map_congr_left → vJ, getElem?_append_left → vK, length_set → vL, getElem?_append_right → vM, set_eq_take_append_cons_drop → vN, mem_map_of_mem → vO, getElem?_eq_none → vP, getElem_replicate → vQ
open Nat renaming le_refl → yH, mul_one → yV, zero_le → yZ
open Int renaming tmod_eq_emod_of_nonneg → vR
namespace Go.Fx.D
open Go Go.Fx Go.Proofs
set_option maxRecDepth 20000
theorem san8 : Ok 8 [] (Is (.b true)) := san
theorem s8 {cx : Cx} {e : Env} {h : List Blk} {b : Nat} {K : V → St → Prop} : cx.C = C0 Try.prog → cx.fx = [] → K (.b true) ⟨e, h, b⟩ → callP cx 8 [] ⟨e, h, b⟩ K := by
 intro hc hf hk
 exact call_is (by rw [hc]; exact san8) (by simp [lendsOk, lends, wkL]) rfl (by rw [hf]; trivial) hk
structure Op where
 kind : Int
 a : Int
 b : Int
 deriving Inhabited
def Op.enc (x : Op) : List V := [.i x.kind, .i x.a, .i x.b]
theorem opn_len (x : Op) : x.enc.length = 3 := rfl
theorem opn_take (x : Op) : yD 3 x.enc = x.enc := rfl
theorem opn_1 (x : Op) : x.enc[1]? = some (.i x.a) := rfl
theorem opn_2 (x : Op) : x.enc[2]? = some (.i x.b) := rfl
theorem opn_isC (x : Op) : x.enc.all isC = true := rfl
theorem g16 {T X : List Blk} {j : Nat} (h : T.length = 16) : (T ++ X)[j + 16]? = X[j]? := by
 rw [vM (by omega)]; congr 1; omega
theorem st16 {T X : List Blk} {j : Nat} {B : Blk} (h : T.length = 16) : (T ++ X).set (j + 16) B = T ++ X.set j B := by
 rw [List.set_append_right _ _ (by omega)]; congr 2; omega
theorem opn_kill {x : Op} {K : List Nat} : kills K x.enc = x.enc := rfl
theorem refl_leG {s p : St} (h : leS [] s p) : leG [] s p := ⟨s, .refl s, h⟩
set_option maxRecDepth 20000
def flS (L : List Sec) : List V := (L.map Sec.enc).flatten
theorem flS_len {L : List Sec} : (flS L).length = 64 * L.length := by
 unfold flS
 induction L with
 | nil => rfl
 | cons x r ih => simp only [yA, List.flatten_cons, yT, sec_len, ih, yX]; omega
theorem flS_get {L : List Sec} {k : Nat} (hk : k < L.length) : yD 64 (yG (64 * k) (flS L)) = L[k].enc := by
 induction L generalizing k with
 | nil => simp at hk
 | cons x r ih =>
  have e : flS (x :: r) = x.enc ++ flS r := rfl
  cases k with
  | zero => rw [e, Nat.mul_zero, vB, List.take_append_of_le_length (by simp [sec_len]), sec_take]; rfl
  | succ k =>
   have hl : 64 * (k + 1) = x.enc.length + 64 * k := by rw [sec_len]; omega
   rw [e, hl, vC]
   rw [yQ (by omega), List.nil_append, show x.enc.length + 64 * k - x.enc.length = 64 * k by omega]
   simpa using ih (k := k) (by simpa using hk)
theorem flS_set {L : List Sec} {k : Nat} {s : Sec} (hk : k < L.length) : yD (64 * k) (flS L) ++ s.enc ++ yG (64 * k + 64) (flS L) = flS (L.set k s) := by
 induction L generalizing k with
 | nil => simp at hk
 | cons x r ih =>
  have e : flS (x :: r) = x.enc ++ flS r := rfl
  cases k with
  | zero =>
   show yD 0 _ ++ s.enc ++ yG 64 (flS (x :: r)) = s.enc ++ flS r
   rw [e, vC, sec_drop, sec_len]; simp
  | succ k =>
   have e2 : flS ((x :: r).set (k + 1) s) = x.enc ++ flS (r.set k s) := rfl
   rw [e2, ← ih (k := k) (by simpa using hk), e]
   rw [List.take_append, vC, yN (by rw [sec_len]; omega), yQ (by rw [sec_len]; omega), sec_len, show 64 * (k + 1) - 64 = 64 * k by omega, show 64 * (k + 1) + 64 - 64 = 64 * k + 64 by omega]
   simp
theorem flS_plain {L : List Sec} : ∀ x ∈ flS L, ∃ u, x = V.v u := fun x hx => by
 unfold flS at hx
 rw [List.mem_flatten] at hx
 obtain ⟨l, hl, hx⟩ := hx
 obtain ⟨s, _, rfl⟩ := List.mem_map.1 hl
 exact sec_plain x hx
theorem flS_C {L : List Sec} : (flS L).all isC = true := by
 rw [vD]
 intro x hx
 unfold flS at hx
 rw [List.mem_flatten] at hx
 obtain ⟨l, hl, hx⟩ := hx
 obtain ⟨s, _, rfl⟩ := List.mem_map.1 hl
 exact vD.1 (sec_C s) x hx
def z16 : List Sec := yF 16 zS
theorem flS_0 : List.map V.v (Array.replicate 1024 (Value.int .u8 0)).toList = flS z16 := by
 simp [flS, z16, zS, Sec.enc, encY]
def n16 : List V := yF 16 .nil
theorem n16_0 : List.map V.v (Array.replicate 16 (Value.slice none 0 0)).toList = n16 := by simp [n16]
theorem n16_plain : ∀ x ∈ n16, ∃ u, x = V.v u := fun x hx => ⟨_, (List.mem_replicate.1 hx).2⟩
def opVs (q : Nat) (op : List (List Sec)) : List V := op.mapIdx fun k l => .sl (q + k) 0 l.length
def opT (op : List (List Sec)) : List Blk := op.map fun l => .arr 64 (l.map Sec.enc)
theorem opT_app {op : List (List Sec)} {X Y : List Blk} : opT op ++ X ++ Y = opT op ++ (X ++ Y) := List.append_assoc ..
theorem opVs_len {q : Nat} {op : List (List Sec)} : (opVs q op).length = op.length := by simp [opVs]
theorem opT_len {op : List (List Sec)} : (opT op).length = op.length := by simp [opT]
theorem opVs_get {q k : Nat} {op : List (List Sec)} (hk : k < op.length) : (opVs q op)[k]? = some (.sl (q + k) 0 op[k].length) := by simp [opVs, hk]
theorem opT_get {k : Nat} {op : List (List Sec)} (hk : k < op.length) : (opT op)[k]? = some (.arr 64 (op[k].map Sec.enc)) := by simp [opT, hk]
theorem opVs_set {q k : Nat} {op : List (List Sec)} {l : List Sec} : (opVs q op).set k (.sl (q + k) 0 l.length) = opVs q (op.set k l) := by
 apply yO
 ·simp [opVs]
 ·intro j h1 h2
  have hj : j < op.length := by simpa [opVs] using h1
  simp only [opVs, vE, yP]
  by_cases e : k = j
  ·subst e; simp
  ·simp [e]
theorem opT_set {k : Nat} {op : List (List Sec)} {l : List Sec} : (opT op).set k (.arr 64 (l.map Sec.enc)) = opT (op.set k l) := by
 rw [opT, opT, List.map_set]
theorem opVs_C {q : Nat} {op : List (List Sec)} : (opVs q op).all isC = true := by
 rw [vD]
 intro x hx
 rw [opVs, List.mem_mapIdx] at hx
 obtain ⟨k, h, rfl⟩ := hx
 rfl
theorem plain_kill {l : List V} (h : ∀ x ∈ l, ∃ u, x = .v u) {M : List Nat} : kills M l = l := by
 induction l with
 | nil => rfl
 | cons x r ih =>
  obtain ⟨u, rfl⟩ := h x vF
  simp only [kills, kill, ih fun y hy => h y (vG _ hy)]
theorem kills_map {l : List V} {M : List Nat} : kills M l = l.map (kill M) := by
 induction l with
 | nil => rfl
 | cons x r ih => simp only [kills, yA, ih]
theorem opVs_kill {q k : Nat} {op : List (List Sec)} : kills [q + k] (opVs q op) = (opVs q op).set k .any := by
 rw [kills_map]
 apply yO
 ·simp [opVs]
 ·intro j h1 h2
  have hj : j < op.length := by simpa [opVs] using h1
  simp only [opVs, vE, yP, yY, kill, vH]
  by_cases e : k = j
  ·subst e; simp
  ·rw [if_neg (by omega), if_neg e]
theorem ents_killp {p : Nat} {D : Dk} {L : List (Nat × Nat)} {M : List Nat} (hM : ∀ e ∈ L, p + 3 + e.1 ∉ M) : (ents p D L).map (fun e => (e.1, kill M e.2.1, e.2.2)) = ents p D L := by
 unfold ents
 rw [vI]
 refine vJ fun e he => ?_
 simp only [Function.comp, kill, if_neg (hM e he)]
structure J13 (sy : Int) (i : Nat) (S : MS) (su : List Sec) (op : List (List Sec)) : Prop where
 n16 : S.n = 16
 st : S.D.steps ≤ 2 * i
 af : S.D.after = -1
 dd : S.D.dead = false
 sl : su.length = 16
 ol : op.length = 16
 cl : ∀ k, k < 16 → S.D.cells.getD k zC = ⟨su.getD k zS, false⟩
 oq : ∀ k, k < 16 → S.D.op k = op.getD k []
 ln : ∀ k, (S.D.op k).length ≤ i
 sy : (i : Int) = sy → op = yF 16 []
theorem J13.chk {sy : Int} {i : Nat} {S : MS} {su : List Sec} {op : List (List Sec)} (h : J13 sy i S su op) {k : Int} (hk : 0 ≤ k ∧ k < 16) : S.D.chk k = 0 := by
 have hn : S.D.cells.length = 16 := h.n16
 unfold Dk.chk
 rw [h.dd, if_neg (by decide), if_neg (by show ¬ (k < 0 ∨ (S.D.cells.length : Int) ≤ k); rw [hn]; omega)]
theorem J13.stepE {sy : Int} {i : Nat} {S : MS} {su : List Sec} {op : List (List Sec)} (h : J13 sy i S su op) : S.D.stepE = 0 := by
 unfold Dk.stepE
 rw [h.af, if_neg (by decide)]
theorem J13.stepD {sy : Int} {i : Nat} {S : MS} {su : List Sec} {op : List (List Sec)} (h : J13 sy i S su op) : S.D.stepD = { S.D with steps := S.D.steps + 1 } := by
 unfold Dk.stepD
 rw [h.af, if_neg (by decide), if_neg (by decide), ← h.af]
theorem J13.start {sy : Int} : J13 sy 0 (newS 16) z16 (yF 16 []) := by
 refine ⟨newS_n, by simp [newS, newD], rfl, rfl, by simp [z16], by simp, fun k hk => ?_, fun k hk => ?_, fun k => ?_, fun _ => rfl⟩
 ·show (yF 16 zC).getD k zC = _
  rw [yB, yR, if_pos hk, z16, yB, yR, if_pos hk]; rfl
 ·have : (newS 16).D.op k = [] := new_op
  rw [this, yB, yR, if_pos hk]; rfl
 ·have : (newS 16).D.op k = [] := new_op
  rw [this]; exact yH _
theorem J13.write {sy sy' : Int} {i : Nat} {S S2 : MS} {su : List Sec} {op : List (List Sec)} (h : J13 sy i S su op) {k : Nat} {s : Sec} (hk : k < op.length) (hn : S2.n = S.n) (hD : S2.D = S.D.wrD k s) (hsy : ((i + 1 : Nat) : Int) ≠ sy') : J13 sy' (i + 1) S2 su (op.set k (op[k] ++ [s])) ∧ S2.D.steps + 1 ≤ 2 * (i + 1) := by
 have hk16 : k < 16 := by rw [← h.ol]; exact hk
 have hko : k < S.D.opn.length := by rw [S.ok.len]; show k < S.n; rw [h.n16]; exact hk16
 rw [Dk.wrD, h.chk ⟨by omega, by omega⟩, if_neg (by decide), h.stepE, if_neg (by decide), h.stepD, Int.toNat_natCast] at hD
 have hst := h.st
 have hs2 : S2.D.steps = S.D.steps + 1 := by rw [hD]; rfl
 have hop : ∀ j, S2.D.op j = if j = k then S.D.op k ++ [s] else S.D.op j := fun j => by
  rw [hD]
  exact add_op (D := { S.D with steps := S.D.steps + 1 }) hko
 refine ⟨⟨hn.trans h.n16, by rw [hs2]; omega, by rw [hD]; exact h.af, by rw [hD]; exact h.dd, h.sl, by simp [h.ol], fun j hj => by rw [hD]; exact h.cl j hj, fun j hj => ?_, fun j => ?_, fun e => absurd e hsy⟩, by rw [hs2]; omega⟩
 ·rw [hop, yB, yS]
  by_cases e : j = k
  ·subst e
   rw [if_pos rfl, if_pos rfl, if_pos hk, h.oq j hj, yB, yJ hk]; rfl
  ·rw [if_neg e, if_neg (fun h => e h.symm), ← yB]; exact h.oq j hj
 ·rw [hop]
  split
  ·have := h.ln k; simp; omega
  ·have := h.ln j; omega
theorem J13.sync {sy sy' : Int} {i : Nat} {S S2 : MS} {su su' : List Sec} {op : List (List Sec)} (h : J13 sy i S su op) (hn : S2.n = S.n) (hD : S2.D = S.D.syD) (hs : S.D.steps + 1 ≤ 2 * i) (hsl : su'.length = 16) (hsu : ∀ k, k < 16 → su'.getD k zS = if op.getD k [] = [] then su.getD k zS else lastS (op.getD k [])) : J13 sy' i S2 su' (yF 16 []) := by
 have hn6 : S.D.cells.length = 16 := h.n16
 rw [Dk.syD, h.chk ⟨by omega, by omega⟩, if_neg (by decide), h.stepE, if_neg (by decide), h.stepD] at hD
 have hop : ∀ k, S2.D.op k = [] := fun k => by
  rw [hD]
  show (yF S.D.cells.length ([] : List Sec)).getD k [] = []
  rw [yB, yR]
  split <;> rfl
 refine ⟨hn.trans h.n16, by rw [hD]; exact hs, by rw [hD]; exact h.af, by rw [hD]; exact h.dd, hsl, by simp, fun k hk => ?_, fun k hk => ?_, fun k => by rw [hop]; exact yZ _, fun _ => rfl⟩
 ·rw [hD]
  show ((List.range S.D.cells.length).map fun j => if S.D.op j = [] then S.D.cells.getD j zC else ⟨lastS (S.D.op j), false⟩).getD k zC = _
  rw [yB, List.getElem?_map, List.getElem?_range (by omega)]
  show (if S.D.op k = [] then S.D.cells.getD k zC else ⟨lastS (S.D.op k), false⟩) = _
  rw [hsu k hk, ← h.oq k hk]
  by_cases ho : S.D.op k = []
  ·rw [if_pos ho, if_pos ho, h.cl k hk]
  ·rw [if_neg ho, if_neg ho]
 ·rw [hop, yB, yR, if_pos hk]; rfl
theorem row_set {q k : Nat} {op : List (List Sec)} {l : List Sec} (hk : k < op.length) : yD k ((opVs q op).set k .any) ++ [.sl (q + k) 0 l.length] ++ yG (k + 1) ((opVs q op).set k .any) = opVs q (op.set k l) := by
 rw [← opVs_set]
 have h1 : k < ((opVs q op).set k .any).length := by simp [opVs_len, hk]
 have h2 := vN (l := (opVs q op).set k .any) (i := k) (a := V.sl (q + k) 0 l.length)
 rw [if_pos h1, List.set_set] at h2
 rw [h2]; simp
theorem row_set2 {q k : Nat} {op : List (List Sec)} {x : V} (hk : k < op.length) : yD k (opVs q op) ++ [x] ++ yG (k + 1) (opVs q op) = (opVs q op).set k x := by
 rw [vN, if_pos (by simp [opVs_len, hk])]; simp
abbrev W13 := MS × List Sec × List (List Sec)
def hp13 (S : MS) (X : List Blk) : List Blk := .var (flS z16) :: .var Go.Fx.D.n16 :: .dead :: .dead :: .dead :: dkV 5 S.D :: dkC S.D :: .map (ents 5 S.D S.L) S.c :: (dkT S.D ++ X)
def r13 (sy : Int) (m : Nat) : V → List Blk → Prop := IsQ (fun g : W13 => J13 sy m g.1 g.2.1 g.2.2) (fun g => .tup [.ptr 5 0 0, .agg (flS g.2.1), .agg (opVs 26 g.2.2)]) (fun g => .dead :: .dead :: .dead :: .dead :: .dead :: (g.1.bs 5 ++ .dead :: .dead :: opT g.2.2))
def X13 (su : List Sec) (op : List (List Sec)) : List Blk := .var (flS su) :: .var (opVs 26 op) :: opT op
theorem get_13 {S : MS} {X : List Blk} {j : Nat} (hn : S.n = 16) : (hp13 S X)[24 + j]? = X[j]? := by
 have := g16 (T := dkT S.D) (X := X) (j := j) (S.T_len.trans hn)
 rw [show 24 + j = (j + 16) + 8 by omega]
 exact this
theorem set_13 {S : MS} {X : List Blk} {j : Nat} {B : Blk} (hn : S.n = 16) : (hp13 S X).set (24 + j) B = hp13 S (X.set j B) := by
 have := st16 (T := dkT S.D) (X := X) (j := j) (B := B) (S.T_len.trans hn)
 rw [show 24 + j = (j + 16) + 8 by omega]
 show .var (flS z16) :: .var Go.Fx.D.n16 :: .dead :: .dead :: .dead :: dkV 5 S.D :: dkC S.D :: .map (ents 5 S.D S.L) S.c :: (dkT S.D ++ X).set (j + 16) B = _
 rw [this]; rfl
theorem liveP_of {h : List Blk} {k sz : Nat} {x : List (List V)} (e : h[k]? = some (.arr sz x)) : liveP h k := by
 unfold liveP
 rw [e]; trivial
theorem wfL_opVs {H : List Blk} : ∀ {op : List (List Sec)} {q : Nat}, (∀ k, k < op.length → liveP H (q + k)) → wfL H (opVs q op)
 | [], q, _ => trivial
 | x :: r, q, h => by
  have e : opVs q (x :: r) = .sl (q + 0) 0 x.length :: opVs (q + 1) r := by
   simp only [opVs, List.mapIdx_cons]
   congr 1
   apply yO
   ·simp
   ·intro j h1 h2
    simp only [yP]
    congr 1
    omega
  rw [e]
  refine ⟨h 0 (by simp), wfL_opVs fun k hk => ?_⟩
  have := h (k + 1) (by simp; omega)
  rwa [show q + (k + 1) = q + 1 + k by omega] at this
theorem wfB_opT {H B : List Blk} (hB : wfB H B) : ∀ {op : List (List Sec)}, wfB H (opT op ++ B)
 | [] => hB
 | x :: r => wfB_opT hB (op := r)
theorem wf_13 {S : MS} {su : List Sec} {op : List (List Sec)} (hn : S.n = 16) : wfB (hp13 S (X13 su op)) (hp13 S (X13 su op)) := by
 have h1 := S.wf (p := 5) [.var (flS z16), .var Go.Fx.D.n16, .dead, .dead, .dead] (X13 su op) rfl (C := X13 su op) (by
  refine ⟨plain_wf flS_plain, wfL_opVs fun k hk => ?_, ?_⟩
  ·have e : (hp13 S (X13 su op))[26 + k]? = some (.arr 64 (op[k].map Sec.enc)) := by
    rw [show 26 + k = 24 + (2 + k) by omega, get_13 hn]
    have := opT_get hk
    show (Blk.var (flS su) :: .var (opVs 26 op) :: opT op)[2 + k]? = _
    rw [show 2 + k = k + 2 by omega]
    exact this
   exact liveP_of e
  ·have := wfB_opT (H := [Blk.var (flS z16), .var Go.Fx.D.n16, .dead, .dead, .dead] ++ (S.bs 5 ++ X13 su op)) (B := []) trivial (op := op)
   rwa [yI] at this)
 exact ⟨plain_wf flS_plain, plain_wf n16_plain, h1⟩
theorem hp13_kill {S : MS} {X : List Blk} {k : Nat} (hn : S.n = 16) : (hp13 S X).map (killB [26 + k]) = hp13 S (X.map (killB [26 + k])) := by
 have e1 : killB [26 + k] (.var (flS z16)) = .var (flS z16) := by rw [killB, plain_kill flS_plain]
 have e2 : killB [26 + k] (.var Go.Fx.D.n16) = .var Go.Fx.D.n16 := by
  rw [killB, plain_kill n16_plain]
 have e3 : killB [26 + k] (dkV 5 S.D) = dkV 5 S.D := by
  have n1 : (6 = 26 + k) = False := eq_false (by omega)
  have n2 : (7 = 26 + k) = False := eq_false (by omega)
  simp only [dkV, killB, kills, kill, vH, n1, n2, if_false, Nat.reduceAdd]
 have e4 : killB [26 + k] (.map (ents 5 S.D S.L) S.c) = .map (ents 5 S.D S.L) S.c := by
  rw [killB, ents_killp fun e he => ?_]
  have := ((S.ok.key e.1).1 (vO he)).1
  have hn : S.D.n = 16 := hn
  rw [vH]
  omega
 show killB _ _ :: killB _ _ :: killB _ _ :: killB _ _ :: killB _ _ :: killB _ _ :: killB _ _ :: killB _ _ :: (dkT S.D ++ X).map (killB [26 + k]) = _
 rw [dkT_kills, e1, e2, e3, e4]; rfl
theorem opT_kill {M : List Nat} {op : List (List Sec)} {X : List Blk} : (opT op ++ X).map (killB M) = opT op ++ X.map (killB M) := by
 rw [yU]
 congr 1
 simp only [opT, vI]
 exact vJ fun _ _ => rfl
theorem app_13 {S : MS} {su : List Sec} {op : List (List Sec)} {X : List Blk} {e : Env} {b k id : Nat} {s : Sec} {K : V → St → Prop} (hn : S.n = 16) (hk : k < op.length) (ho : op.length = 16) (hX : X.map (killB [26 + k]) = X) (hl : op[k].length ≤ 1000)
  (h : K (.sl (26 + k) 0 (op[k].length + 1)) ⟨killE [26 + k] e, hp13 S (.var (flS su) :: .var ((opVs 26 op).set k .any) :: (opT (op.set k (op[k] ++ [s])) ++ X)), b⟩) :
  appP [] [] id 64 64 ⟨e, hp13 S (.var (flS su) :: .var (opVs 26 op) :: (opT op ++ X)), b⟩ (.sl (26 + k) 0 op[k].length) [s.enc] K := by
 have hb : blk (hp13 S (.var (flS su) :: .var (opVs 26 op) :: (opT op ++ X))) (26 + k) = .arr 64 (op[k].map Sec.enc) := by
  rw [blk, yB, show 26 + k = 24 + (2 + k) by omega, get_13 hn, show 2 + k = k + 2 by omega]
  show ((opT op ++ X)[k]?).getD .dead = _
  rw [vK (by rw [opT_len]; exact hk), opT_get hk]; rfl
 rw [kZ, hb, kY]
 refine ⟨⟨rfl, by simp, by simp; omega⟩, ⟨by simp, by simp⟩, ?_⟩
 have e1 : killB [26 + k] (.var (flS su)) = .var (flS su) := by rw [killB, plain_kill flS_plain]
 have e2 : killB [26 + k] (.var (opVs 26 op)) = .var ((opVs 26 op).set k .any) := by rw [killB, opVs_kill]
 rw [hp13_kill hn, yA, yA, e1, e2, opT_kill, hX, show 26 + k = 24 + (2 + k) by omega, set_13 hn, show 2 + k = k + 2 by omega]
 have e3 : (Blk.var (flS su) :: .var ((opVs 26 op).set k .any) :: (opT op ++ X)).set (k + 2) (.arr 64 (yD op[k].length (yG 0 (op[k].map Sec.enc)) ++ [s.enc])) = .var (flS su) :: .var ((opVs 26 op).set k .any) :: (opT (op.set k (op[k] ++ [s])) ++ X) := by
  show .var (flS su) :: .var ((opVs 26 op).set k .any) :: (opT op ++ X).set k _ = _
  rw [List.set_append_left _ _ (by rw [opT_len]; exact hk), ← opT_set, vB, yN (by simp), yU]; rfl
 rw [e3, show 24 + (k + 2) = 26 + k by omega]
 exact h
theorem A13_kill {n : Nat} : [Blk.var (flS z16), .var Go.Fx.D.n16, .dead, .dead, .dead].map (killB (yC (5 + 3) n)) = [Blk.var (flS z16), .var Go.Fx.D.n16, .dead, .dead, .dead] := by
 simp only [yA, yK, killB, plain_kill flS_plain, plain_kill n16_plain]
theorem B13_kill {su : List Sec} {op : List (List Sec)} {X : List Blk} {n : Nat} (hn : n = 16) (hX : X.map (killB (yC (5 + 3) n)) = X) : (Blk.var (flS su) :: .var (opVs 26 op) :: (opT op ++ X)).map (killB (yC (5 + 3) n)) = Blk.var (flS su) :: .var (opVs 26 op) :: (opT op ++ X) := by
 have e : kills (yC (5 + 3) n) (opVs 26 op) = opVs 26 op := by
  rw [kills_map]
  apply yO
  ·simp
  ·intro j h1 h2
   simp only [opVs, yP, yY, kill, yE]
   rw [if_neg (by omega)]
 rw [yA, yA, opT_kill, hX, killB, killB, plain_kill flS_plain, e]
def env13 (l : List Op) (sy : Int) (i : Nat) : Env := [(19, .i i), (18, .i l.length), (17, .ro 3 (l.map Op.enc)), (9, .ptr 25 0 0), (8, .ptr 24 0 0), (7, .ptr 5 0 0), (6, .ptr 1 0 0), (5, .ptr 0 0 0), (1, .i sy)]
theorem hp13_app {S : MS} {X Y : List Blk} : hp13 S (X ++ Y) = hp13 S X ++ Y := by
 show _ :: _ :: _ :: _ :: _ :: _ :: _ :: _ :: (dkT S.D ++ (X ++ Y)) = _ :: _ :: _ :: _ :: _ :: _ :: _ :: _ :: (dkT S.D ++ X ++ Y)
 rw [List.append_assoc]
theorem leS_13 {S : MS} {su : List Sec} {op : List (List Sec)} {l : List Op} {sy : Int} {i : Nat} {e p0 : Env} {h : List Blk} {b b' : Nat} (hn : S.n = 16) (hp : wfE (hp13 S (X13 su op)) p0) (he : leE e (p0 ++ env13 l sy i)) (hh : leH h (hp13 S (X13 su op))) : leS [] ⟨e, h, b⟩ ⟨p0 ++ env13 l sy i, hp13 S (X13 su op), b'⟩ := by
 refine ⟨he, hh, trivial, ?_, wf_13 hn⟩
 have h5 : wfE (hp13 S (X13 su op)) (env13 l sy i) := by
  have l24 : liveP (hp13 S (X13 su op)) 24 := by
   unfold liveP
   rw [show 24 = 24 + 0 from rfl, get_13 hn]; trivial
  have l25 : liveP (hp13 S (X13 su op)) 25 := by
   unfold liveP
   rw [show 25 = 24 + 1 from rfl, get_13 hn]; trivial
  exact ⟨trivial, trivial, trivial, l25, l24, trivial, trivial, trivial, trivial, trivial⟩
 induction p0 with
 | nil => exact h5
 | cons x r ih => exact ⟨hp.1, ih hp.2 (by simp only [List.cons_append, leE] at he; exact he.2)⟩
structure I13 (su : List Sec) (op : List (List Sec)) (j : Nat) (su' : List Sec) (op' : List (List Sec)) : Prop where
 sl : su'.length = 16
 ol : op'.length = 16
 at_ : ∀ k, k < 16 → (k < j → op'.getD k [] = [] ∧ su'.getD k zS = if op.getD k [] = [] then su.getD k zS else lastS (op.getD k [])) ∧ (j ≤ k → op'.getD k [] = op.getD k [] ∧ su'.getD k zS = su.getD k zS)
theorem wfL_of {H : List Blk} : ∀ {l : List V}, (∀ x ∈ l, wfV H x) → wfL H l
 | [], _ => trivial
 | x :: r, h => ⟨h x vF, wfL_of fun y hy => h y (vG _ hy)⟩
theorem back_13 {S : MS} {su : List Sec} {op : List (List Sec)} {j i k : Nat} {e : Env} {b : Nat} {l : List Op} {sy : Int} (hn : S.n = 16) (ho : op.length = 16) (hj : j < 16)
  (he : leE e ((58, .i k) :: env13 l sy i)) : leG [] ⟨e, hp13 S (.var (flS su) :: .var ((opVs 26 op).set j .nil) :: opT op), b⟩ ⟨(58, .i k) :: env13 l sy i, hp13 S (X13 su (op.set j [])), 0⟩ := by
 have hjo : j < op.length := by omega
 have hO : (opT op).length = 16 := opT_len.trans ho
 refine ⟨_, .le (p := ⟨(58, .i k) :: env13 l sy i, hp13 S (.var (flS su) :: .var ((opVs 26 op).set j .nil) :: (opT op).set j .dead), 0⟩) ⟨he, ?_, trivial, ?_, ?_⟩ (.virtAt (26 + j) 64 (by decide) ?_ (.nilB 25 ((opVs 26 op).set j .nil) (opVs 26 (op.set j [])) ?_ ?_ (.refl _))), ?_⟩
 ·have : ∀ T : List Blk, leH (T ++ (opT op)) (T ++ (opT op).set j .dead) := by
   intro T
   induction T with
   | nil =>
    have := leH_set (T := opT op) (X := []) (k := j)
    rwa [yI, yI] at this
   | cons a r ih => exact ⟨leB_refl _, ih⟩
  have h2 := this (hp13 S [.var (flS su), .var ((opVs 26 op).set j .nil)])
  rw [← hp13_app, ← hp13_app] at h2
  exact h2
 ·have l24 : liveP (hp13 S (.var (flS su) :: .var ((opVs 26 op).set j .nil) :: (opT op).set j .dead)) 24 := by
   unfold liveP
   rw [show 24 = 24 + 0 from rfl, get_13 hn]; trivial
  have l25 : liveP (hp13 S (.var (flS su) :: .var ((opVs 26 op).set j .nil) :: (opT op).set j .dead)) 25 := by
   unfold liveP
   rw [show 25 = 24 + 1 from rfl, get_13 hn]; trivial
  exact ⟨trivial, trivial, trivial, trivial, l25, l24, trivial, trivial, trivial, trivial, trivial⟩
 ·have hT : wfB (hp13 S (.var (flS su) :: .var ((opVs 26 op).set j .nil) :: (opT op).set j .dead)) ((opT op).set j .dead) := by
   have : ∀ (H : List Blk) (q : List (List Sec)) (m : Nat), wfB H ((opT q).set m .dead) := by
    intro H q
    induction q with
    | nil => intro m; exact trivial
    | cons x r ih =>
     intro m
     cases m with
     | zero => have := wfB_opT (H := H) (B := []) trivial (op := r); rwa [yI] at this
     | succ m => exact ih m
   exact this _ _ _
  have h1 := S.wf (p := 5) [.var (flS z16), .var Go.Fx.D.n16, .dead, .dead, .dead] (.var (flS su) :: .var ((opVs 26 op).set j .nil) :: (opT op).set j .dead) rfl (C := .var (flS su) :: .var ((opVs 26 op).set j .nil) :: (opT op).set j .dead) (by
   refine ⟨plain_wf flS_plain, wfL_of fun x hx => ?_, hT⟩
   obtain ⟨m, hm, rfl⟩ := List.mem_iff_getElem.1 hx
   have hm6 : m < op.length := by simpa [opVs] using hm
   rw [vE]
   by_cases em : j = m
   ·rw [if_pos em]; exact trivial
   ·rw [if_neg em]
    have e : (hp13 S (.var (flS su) :: .var ((opVs 26 op).set j .nil) :: (opT op).set j .dead))[26 + m]? = some (.arr 64 (op[m].map Sec.enc)) := by
     rw [show 26 + m = 24 + (m + 2) by omega, get_13 hn]
     show ((opT op).set j .dead)[m]? = _
     rw [yS, if_neg em, opT_get hm6]
    simp only [opVs, yP]
    exact liveP_of e)
  exact ⟨plain_wf flS_plain, plain_wf n16_plain, h1⟩
 ·show (hp13 S _)[26 + j]? = _
  rw [show 26 + j = 24 + (j + 2) by omega, get_13 hn]
  show ((opT op).set j .dead)[j]? = _
  rw [yS, if_pos rfl, if_pos (by omega)]
 ·show ((hp13 S _).set (26 + j) _)[25]? = _
  rw [show 26 + j = 24 + (j + 2) by omega, set_13 hn, show 25 = 24 + 1 from rfl, get_13 hn]; rfl
 ·refine ⟨by simp [opVs_len], fun m x y hx hy => ?_⟩
  have hm : m < op.length := by
   rcases Nat.lt_or_ge m op.length with h | h
   ·exact h
   ·rw [vP (by simpa [opVs] using h)] at hx; cases hx
  rw [← opVs_set] at hy
  rw [yS] at hx hy
  by_cases em : j = m
  ·rw [if_pos em, if_pos (by rw [opVs_len]; omega)] at hx hy
   refine .inr ⟨?_, 26 + j, ?_⟩
   ·simpa using hx.symm
   ·simpa using hy.symm
  ·rw [if_neg em] at hx hy
   rw [hx] at hy
   exact .inl (by simpa using hy.symm)
 ·refine leS_13 (p0 := [(58, .i k)]) hn ⟨trivial, trivial⟩ ⟨rfl, rfl, rfl, rfl, rfl, rfl, rfl, rfl, rfl, rfl, trivial⟩ ?_
  show leH (((hp13 S _).set (26 + j) _).set 25 _) _
  rw [show 26 + j = 24 + (j + 2) by omega, set_13 hn, show 25 = 24 + 1 from rfl, set_13 hn]
  show leH (hp13 S (.var (flS su) :: .var (opVs 26 (op.set j [])) :: ((opT op).set j .dead).set j (.arr 64 []))) _
  rw [List.set_set]
  have := opT_set (op := op) (k := j) (l := [])
  rw [yK] at this
  rw [this]
  exact leH_refl _
theorem last_get {L : List Sec} (hx : ((L.length : Int) - 1).toNat < L.length) : L[((L.length : Int) - 1).toNat]'hx = lastS L := by
 rw [lastS, List.getLast?_eq_getElem?, yJ (by omega)]
 show _ = L[L.length - 1]
 congr 1; omega
theorem I13.next {su : List Sec} {op : List (List Sec)} {j : Nat} {su' : List Sec} {op' : List (List Sec)} (h : I13 su op j su' op') (hj : j < 16) (ho : op'.getD j [] ≠ []) : I13 su op (j + 1) (su'.set j (lastS (op'.getD j []))) (op'.set j []) := by
 have hjo : j < op'.length := by rw [h.ol]; exact hj
 have hjs : j < su'.length := by rw [h.sl]; exact hj
 refine ⟨by simp [h.sl], by simp [h.ol], fun k hk => ?_⟩
 have hk2 := h.at_ k hk
 have eo : (op'.set j []).getD k [] = if j = k then [] else op'.getD k [] := by
  rw [yB, yS]
  by_cases e : j = k
  ·rw [if_pos e, if_pos e, if_pos hjo]; rfl
  ·rw [if_neg e, if_neg e, ← yB]
 have es : (su'.set j (lastS (op'.getD j []))).getD k zS = if j = k then lastS (op'.getD j []) else su'.getD k zS := by
  rw [yB, yS]
  by_cases e : j = k
  ·rw [if_pos e, if_pos e, if_pos hjs]; rfl
  ·rw [if_neg e, if_neg e, ← yB]
 rw [eo, es]
 by_cases e : j = k
 ·subst e
  rw [if_pos rfl, if_pos rfl]
  have h3 := hk2.2 (yH _)
  refine ⟨fun _ => ⟨rfl, ?_⟩, fun h => absurd h (by omega)⟩
  rw [← h3.1, if_neg ho]
 ·rw [if_neg e, if_neg e]
  exact ⟨fun h4 => hk2.1 (by omega), fun h4 => hk2.2 (by omega)⟩
theorem I13.skip {su : List Sec} {op : List (List Sec)} {j : Nat} {su' : List Sec} {op' : List (List Sec)} (h : I13 su op j su' op') (ho : op'.getD j [] = []) : I13 su op (j + 1) su' op' := by
 refine ⟨h.sl, h.ol, fun k hk => ?_⟩
 have hk2 := h.at_ k hk
 refine ⟨fun h4 => ?_, fun h4 => hk2.2 (by omega)⟩
 by_cases e : k = j
 ·subst e
  have h3 := hk2.2 (yH _)
  refine ⟨ho, ?_⟩
  rw [← h3.1, if_pos ho, h3.2]
 ·exact hk2.1 (by omega)
theorem leH_dd {a b : Blk} {X : List Blk} : ∀ {T : List Blk}, leH (T ++ a :: b :: X) (T ++ .dead :: .dead :: X)
 | [] => ⟨trivial, trivial, leH_refl _⟩
 | x :: T => ⟨leB_refl x, leH_dd⟩
def hr13 (S : MS) (op : List (List Sec)) : List Blk := .dead :: .dead :: .dead :: .dead :: .dead :: (S.bs 5 ++ .dead :: .dead :: opT op)
theorem hr13_wf {S : MS} {op : List (List Sec)} : wfB (hr13 S op) (hr13 S op) := by
 have := S.wf (p := 5) [.dead, .dead, .dead, .dead, .dead] (.dead :: .dead :: opT op) rfl (C := .dead :: .dead :: opT op) (by
  have := wfB_opT (H := [Blk.dead, .dead, .dead, .dead, .dead] ++ (S.bs 5 ++ .dead :: .dead :: opT op)) (B := []) trivial (op := op)
  rwa [yI] at this)
 exact this
theorem hr13_get {S : MS} {op : List (List Sec)} {k : Nat} (hn : S.n = 16) (hk : k < op.length) : (hr13 S op)[26 + k]? = some (.arr 64 (op[k].map Sec.enc)) := by
 have h1 : (S.bs 5 ++ .dead :: .dead :: opT op)[21 + k]? = some (.arr 64 (op[k].map Sec.enc)) := by
  rw [vM (by rw [S.len, hn]; omega), S.len, hn, show 21 + k - (3 + 16) = k + 2 by omega]
  exact opT_get hk
 rw [show 26 + k = (21 + k) + 5 by omega]
 exact h1
theorem hr13_ops {S : MS} {op : List (List Sec)} (hn : S.n = 16) : wfL (hr13 S op) (opVs 26 op) := wfL_opVs fun k hk => liveP_of (hr13_get hn hk)
theorem ok13 (l : List Op) (sy : Int) (hl : l.length ≤ 40) : Ok 13 [.ro 3 (l.map Op.enc), .i sy] (r13 sy l.length) := by
 refine ok_of lw13 (by simp) ?_
 unfold c13
 simp -implicitDefEqProofs only [rX,↓rY,ofConst,cells?,Nat.reduceAdd,freshP,cxN,args0]
 refine call_isA [.i (16 : Int)] (.ptr 3 0 0) (.ptr 5 0 0) (.dead :: .dead :: .dead :: (newS 16).bs 3) (.dead :: .dead :: .dead :: (newS 16).bs 5) (okN_post (ok7 16) fun r h hr => ?_) ⟨⟨trivial, trivial⟩, rfl, trivial⟩ rfl ?_ trivial ?_
 ·rw [rN, if_neg (by omega)] at hr
  exact hr
 ·have : ((newS 16).bs 3).map (renB fun j => some (2 + j)) = (newS 16).bs 5 := dk_ren (newS 16).ok fun j hj => by simp; omega
  rw [yA, yA, yA, ← this]; rfl
 have h0 : (newS 16).bs 5 = dkV 5 (newS 16).D :: dkC (newS 16).D :: .map (ents 5 (newS 16).D (newS 16).L) (newS 16).c :: (dkT (newS 16).D ++ []) := by rw [yI]; rfl
 rw [h0]
 have hT0 : (dkT (newS 16).D).length = 16 := (newS 16).T_len
 simp -implicitDefEqProofs only [rX,↓rY,ofConst,cells?,↓reduceIte,Nat.reduceAdd,reduceCtorEq,freshP,dkV,dkC,dkT_app,n61,n62,flS_0,n16_0,hT0,g16 hT0,st16 hT0,yL,yM]
 intro hm
 have hJ0 : J13 sy 0 (newS 16) z16 (yF 16 []) := J13.start
 refine loopP_back (fun g : Nat × W13 => (⟨[(19, .i g.1), (18, .i l.length), (17, .ro 3 (l.map Op.enc)), (9, .ptr 25 0 0), (8, .ptr 24 0 0), (7, .ptr 5 0 0), (6, .ptr 1 0 0), (5, .ptr 0 0 0), (1, .i sy)], hp13 g.2.1 (X13 g.2.2.1 g.2.2.2), 0⟩ : St)) (fun g => g.1 ≤ l.length ∧ J13 sy g.1 g.2.1 g.2.2.1 g.2.2.2) (fun g => l.length - g.1) (0, newS 16, z16, yF 16 []) ⟨yZ _, hJ0⟩ ?_ ?_
 ·refine ⟨_, .virt 16 64 (by decide) (.nilB 25 n16 (opVs 26 (yF 16 [])) ?_ ?_ (.refl _)), ?_⟩
  ·show (hp13 (newS 16) [.var (flS z16), .var n16] ++ _)[25]? = _
   rw [vK (by show 25 < _; simp [hp13, hT0])]
   exact get_13 (j := 1) newS_n
  ·refine ⟨by simp [opVs, n16], fun i x y hx hy => .inr ?_⟩
   have hi : i < 16 := by
    rcases Nat.lt_or_ge i 16 with h | h
    ·exact h
    ·rw [vP (by simpa [n16] using h)] at hx; cases hx
   rw [n16, yR, if_pos hi] at hx
   rw [opVs_get (by simpa using hi)] at hy
   simp only [vQ, vA, Option.some.injEq] at hx hy
   exact ⟨hx.symm, _, hy.symm⟩
  ·refine leS_13 (p0 := []) (l := l) (sy := sy) (i := 0) newS_n trivial ⟨rfl, rfl, rfl, rfl, rfl, rfl, rfl, rfl, rfl, trivial⟩ ?_
   show leH ((hp13 (newS 16) [.var (flS z16), .var n16] ++ yF 16 (Blk.arr 64 [])).set (24 + 1) (.var (opVs 26 (yF 16 [])))) _
   rw [← hp13_app, set_13 newS_n]
   exact leH_refl _
 rintro ⟨i, S, su, op⟩ ⟨hi, hJ⟩
 have hi : i ≤ l.length := hi
 have hJ : J13 sy i S su op := hJ
 have hT : (dkT S.D).length = 16 := S.T_len.trans hJ.n16
 have hO : (opT op).length = 16 := opT_len.trans hJ.ol
 unfold c13l0 hp13 X13
 simp -implicitDefEqProofs only [rX,↓rY,rdK,ofConst,cells?,splice,↓reduceIte,Nat.reduceEqDiff,Nat.reduceAdd,reduceCtorEq,freshP,dkV,dkC,dkT_app,n61,hT,g16 hT,st16 hT,hO,g16 hO,st16 hO,opT_app,opn_len,opn_take,opn_1,opn_2,opn_isC,yL,yM]
 simp only [br, decide_eq_true_eq, decide_eq_false_iff_not, beq_iff_eq, beq_eq_false_iff_ne]
 refine ⟨fun h => ?_, fun h => ?_⟩
 ·have hil : i < l.length := by omega
  have hm1 : -16 < l[i].a.tmod 16 ∧ l[i].a.tmod 16 < 16 := ⟨Int.lt_tmod_of_pos _ (by decide), Int.tmod_lt_of_pos _ (by decide)⟩
  have hm2 : (l[i].a.tmod 16 + 16).tmod 16 = (l[i].a.tmod 16 + 16) % 16 := vR (by omega)
  obtain ⟨k, hk⟩ : ∃ k : Nat, (l[i].a.tmod 16 + 16).tmod 16 = k := ⟨((l[i].a.tmod 16 + 16) % 16).toNat, by rw [hm2]; omega⟩
  have hk16 : k < 16 := by omega
  simp only [hk]
  refine ⟨⟨by omega, h⟩, hil, by decide, by simp only [lo, Fx.hi]; omega, by decide, ?_⟩
  refine call_is (ok23 l[i].b) ⟨⟨trivial, trivial⟩, rfl, trivial⟩ (congrArg V.agg ((plain_len (sec_plain (s := filledS l[i].b)) (H := []) (g := fun _ => none)).2.2 _)) trivial ?_
  simp -implicitDefEqProofs only [rX,↓rY,ofConst,cells?,splice,↓reduceIte,Nat.reduceEqDiff,Nat.reduceAdd,freshP,arr64,sec_len,sec_take,sec_C,sec_drop,n61,n62,hT,g16 hT,st16 hT,hO,g16 hO,st16 hO,yL,yM]
  have hsl : ∀ (H : List Blk) (g : Nat → Option Nat), lendsOk H g [.i k, .agg (filledS l[i].b).enc] ∧ wkL [.i k, .agg (filledS l[i].b).enc] (lends H g [.i k, .agg (filledS l[i].b).enc]) := fun H g => by
   obtain ⟨p1, p2, _⟩ := plain_len (sec_plain (s := filledS l[i].b)) (H := H) (g := g)
   exact ⟨⟨trivial, p1, trivial⟩, rfl, p2, trivial⟩
  have hst : S.D.steps ≤ 100000 := by have := hJ.st; omega
  have haf : -1 ≤ S.D.after ∧ S.D.after ≤ 9223372036854775807 := by rw [hJ.af]; omega
  refine call_at (cx := cxN Try.prog []) (S := S) (args := [.i k, .agg (filledS l[i].b).enc]) (xs := [.i k, .agg (filledS l[i].b).enc]) 5 [.var (flS z16), .var n16, .dead, .dead, .dead] (.var (flS su) :: .var (opVs 26 op) :: (opT op ++ [.var l[i].enc, .var (filledS l[i].b).enc])) rfl rfl rfl (ok22 S k (filledS l[i].b) hst haf fun j => by have := hJ.ln j; omega) hsl ?_ ?_ ?_ ?_
  ·exact A13_kill
  ·exact B13_kill hJ.n16 (by simp only [yA, yK, killB, sec_kill, opn_kill])
  ·simp [killE, kill, kills, yE, hJ.n16, opn_kill, sec_kill]
  rintro r S2 hn2 ⟨hD2, rfl⟩
  have hn16 : S2.n = 16 := hn2.trans hJ.n16
  have hT2 : (dkT S2.D).length = 16 := S2.T_len.trans hn16
  have hwe : S.D.wrE k = 0 := by rw [Dk.wrE, hJ.chk ⟨by omega, by omega⟩, if_neg (by decide), hJ.stepE]
  rw [hwe]
  refine ⟨fun _ => rfl, ?_⟩
  have hb0 : ((0 : Int) != 0) = false := rfl
  simp -implicitDefEqProofs only [rX,↓rY,rdK,ofConst,cells?,splice,↓reduceIte,Nat.reduceEqDiff,Nat.reduceAdd,reduceCtorEq,freshP,litsP,Nat.reduceLT,rep64,sec_len,sec_take,sec_D,dkV,dkC,dkT_app,n61,n62,hT2,g16 hT2,st16 hT2,hO,g16 hO,st16 hO,opT_app,yL,yM,hb0]
  have hko : k < op.length := by rw [hJ.ol]; exact hk16
  have hok : op[k].length ≤ i := by
   have := hJ.ln k
   rw [hJ.oq k hk16, yB, yJ hko] at this
   exact this
  refine ⟨⟨by omega, by omega⟩, ?_⟩
  rw [yV, opVs_get hko, ko]
  refine app_13 hn16 hko hJ.ol ?_ (by omega) ?_
  ·simp only [yA, yK, killB, sec_kill, opn_kill]
  have q0 : (0 = 26 + k) = False := eq_false (by omega)
  have q1 : (1 = 26 + k) = False := eq_false (by omega)
  have q5 : (5 = 26 + k) = False := eq_false (by omega)
  have q24 : (24 = 26 + k) = False := eq_false (by omega)
  have q25 : (25 = 26 + k) = False := eq_false (by omega)
  unfold hp13
  simp -implicitDefEqProofs only [rX,↓rY,ofConst,cells?,splice,↓reduceIte,Nat.reduceEqDiff,Nat.reduceAdd,killE,kill,St.kill,isC,sec_kill,dkV,dkC,n61,hT2,g16 hT2,st16 hT2,g16 hO,st16 hO,yL,yM,q0,q1,q5,q24,q25]
  have hO2 : (opT (op.set k (op[k] ++ [filledS l[i].b]))).length = 16 := by rw [opT_len, vL]; exact hJ.ol
  have hrow : yD k ((opVs 26 op).set k .any) ++ [.sl (26 + k) 0 (op[k].length + 1)] ++ yG (k + 1) ((opVs 26 op).set k .any) = opVs 26 (op.set k (op[k] ++ [filledS l[i].b])) := by
   have := row_set (q := 26) (l := op[k] ++ [filledS l[i].b]) hko
   rw [yT, List.length_singleton] at this
   exact this
  simp only [yV, hrow, hO2]
  refine ⟨⟨by omega, by omega⟩, by rw [vL, opVs_len]; omega, by simp only [lo, Fx.hi]; omega, ?_⟩
  simp only [br, decide_eq_true_eq, decide_eq_false_iff_not, beq_iff_eq, beq_eq_false_iff_ne]
  refine ⟨fun hy => ?_, fun hy => ?_⟩
  ·have hOo : (op.set k (op[k] ++ [filledS l[i].b])).length = 16 := by rw [vL]; exact hJ.ol
   obtain ⟨hW, hWs⟩ := hJ.write (sy' := -1) hko hn2 hD2 (by omega)
   generalize op.set k (op[k] ++ [filledS l[i].b]) = op2 at hW hO2 hOo ⊢
   have hst2 : S2.D.steps ≤ 100000 := by have := hW.st; omega
   have haf2 : -1 ≤ S2.D.after ∧ S2.D.after ≤ 9223372036854775807 := by rw [hW.af]; omega
   refine call_at (cx := cxN Try.prog []) (S := S2) (args := []) (xs := []) 5 [.var (flS z16), .var n16, .dead, .dead, .dead] (.var (flS su) :: .var (opVs 26 op2) :: (opT op2 ++ [.var l[i].enc, .var (filledS l[i].b).enc, .arr 64 [(filledS l[i].b).enc], .dead])) rfl rfl rfl (ok21 S2 hst2 haf2) (fun _ _ => ⟨trivial, trivial⟩) A13_kill ?_ ?_ ?_
   ·exact B13_kill hW.n16 (by simp only [yA, yK, killB, sec_kill, opn_kill])
   ·simp [killE, kill, kills, yE, hn16, opn_kill, sec_kill, apply_ite (kill (yC 8 16))]
    omega
   rintro r S3 hn3 ⟨hD3, rfl⟩
   have hn36 : S3.n = 16 := hn3.trans hn16
   have hT3 : (dkT S3.D).length = 16 := S3.T_len.trans hn36
   have hse : S2.D.syE = 0 := by rw [Dk.syE, hW.chk ⟨by omega, by omega⟩, if_neg (by decide), hW.stepE]
   rw [hse]
   refine ⟨fun _ => rfl, ?_⟩
   simp -implicitDefEqProofs only [rX,↓rY,rdK,ofConst,cells?,splice,↓reduceIte,Nat.reduceEqDiff,Nat.reduceAdd,reduceCtorEq,dkV,dkC,n61,hT3,g16 hT3,st16 hT3,hO2,g16 hO2,st16 hO2,yL,yM,hb0]
   refine loopP_back (fun g : Nat × List Sec × List (List Sec) => (⟨(58, .i g.1) :: env13 l sy i, hp13 S3 (X13 g.2.1 g.2.2), 0⟩ : St)) (fun g => g.1 ≤ 16 ∧ I13 su op2 g.1 g.2.1 g.2.2) (fun g => 16 - g.1) (0, su, op2) ⟨by omega, ⟨hW.sl, hOo, fun j _ => ⟨fun h => absurd h (by omega), fun _ => ⟨rfl, rfl⟩⟩⟩⟩ ?_ ?_
   ·refine refl_leG (leS_13 (p0 := [(58, .i ((0 : Nat) : Int))]) hn36 ⟨trivial, trivial⟩ ⟨rfl, rfl, rfl, rfl, rfl, rfl, rfl, rfl, rfl, rfl, trivial⟩ ?_)
    show leH (hp13 S3 (X13 su op2 ++ [.var l[i].enc, .var (filledS l[i].b).enc, .arr 64 [(filledS l[i].b).enc], .dead])) _
    rw [hp13_app]
    exact leH_app
   rintro ⟨j, su3, op3⟩ ⟨hj, hI⟩
   have hj : j ≤ 16 := hj
   have hI : I13 su op2 j su3 op3 := hI
   have hO3 : (opT op3).length = 16 := opT_len.trans hI.ol
   have hF3 : (flS su3).length = 1024 := by rw [flS_len, hI.sl]
   unfold c13l1 hp13 X13 env13
   simp -implicitDefEqProofs only [rX,↓rY,ofConst,cells?,splice,↓reduceIte,Nat.reduceEqDiff,Nat.reduceAdd,isC,Nat.reduceLeDiff,dkV,dkC,n61,hT3,g16 hT3,st16 hT3,hO3,g16 hO3,st16 hO3,hF3,yL,yM]
   simp only [br, decide_eq_true_eq, decide_eq_false_iff_not, beq_iff_eq, beq_eq_false_iff_ne]
   refine ⟨fun h2 => ?_, fun h2 => ?_⟩
   ·have hj16 : j < 16 := by omega
    have hjo : j < op3.length := by rw [hI.ol]; exact hj16
    have hjs : j < su3.length := by rw [hI.sl]; exact hj16
    have h3 := (hI.at_ j hj16).2 (yH _)
    have hge : op3.getD j [] = op3[j] := by rw [yB, yJ hjo]; rfl
    have hb1 : (op3[j].length : Int) ≤ 1000 := by
     have h4 := hW.oq j hj16
     have h5 := hW.ln j
     rw [h4, ← h3.1, hge] at h5
     omega
    rw [yV, opVs_get hjo]
    simp -implicitDefEqProofs only [rX,↓rY,Nat.reduceEqDiff,arrSz]
    have hgT : (Blk.var (flS z16) :: .var n16 :: .dead :: .dead :: .dead :: .var [.sl 6 0 S3.D.n, .mp 7, .i S3.D.steps, .i S3.D.after, .b S3.D.dead] :: .arr 65 (S3.D.cells.map Cl.enc) :: .map (ents 5 S3.D S3.L) S3.c :: (dkT S3.D ++ .var (flS su3) :: .var (opVs 26 op3) :: opT op3))[26 + j]? = some (.arr 64 (op3[j].map Sec.enc)) := by
     have := get_13 (X := X13 su3 op3) (j := 2 + j) hn36
     rw [show 24 + (2 + j) = 26 + j by omega, show 2 + j = j + 2 by omega] at this
     exact this.trans (opT_get hjo)
    refine ⟨⟨by omega, by omega⟩, fun hm9 => ⟨fun hp => ?_, fun hp => ?_⟩⟩
    ·rw [hgT]
     have hro := row_set2 (q := 26) (x := .nil) hjo
     simp -implicitDefEqProofs only [rX,↓rY,sec_len,sec_take,sec_C]
     have hne : op3.getD j [] ≠ [] := by
      rw [hge]; intro e
      rw [e] at hp; simp at hp
     refine ⟨⟨by omega, by omega⟩, by simp only [lo, Fx.hi]; omega, ⟨by omega, by omega⟩, by omega, ⟨by omega, by omega⟩, by omega, ⟨by omega, by omega⟩, by rw [opVs_len]; omega, by simp only [lo, Fx.hi]; omega, (j + 1, su3.set j (lastS (op3.getD j [])), op3.set j []), ⟨⟨hj16, hI.next hj16 hne⟩, by show 16 - (j + 1) < _; omega⟩, ?_⟩
     have hfs : yD (j * 64) (flS su3) ++ (op3[j][((op3[j].length : Int) - 1).toNat]'(by omega)).enc ++ yG (j * 64 + 64) (flS su3) = flS (su3.set j (lastS (op3.getD j []))) := by
      rw [last_get, ← hge, Nat.mul_comm j 64]
      exact flS_set hjs
     rw [hfs, hro]
     exact back_13 (k := j + 1) hn36 hI.ol hj16 ⟨rfl, rfl, rfl, rfl, rfl, rfl, rfl, rfl, rfl, rfl, trivial⟩
    ·have hz : op3.getD j [] = [] := by
      rw [hge]; exact List.length_eq_zero_iff.1 (by omega)
     refine ⟨by simp only [lo, Fx.hi]; omega, (j + 1, su3, op3), ⟨⟨hj16, hI.skip hz⟩, by show 16 - (j + 1) < _; omega⟩, ?_⟩
     exact refl_leG (leS_13 (p0 := [(58, .i ((j + 1 : Nat) : Int))]) hn36 ⟨trivial, trivial⟩ ⟨rfl, rfl, rfl, rfl, rfl, rfl, rfl, rfl, rfl, rfl, trivial⟩ (leH_refl _))
   ·have hje : j = 16 := by omega
    subst hje
    have hop3 : op3 = yF 16 [] := by
     apply yO
     ·simp [hI.ol]
     ·intro m h1 h2
      have hm : m < 16 := by rw [← hI.ol]; exact h1
      have := ((hI.at_ m hm).1 hm).1
      rw [yB, yJ h1] at this
      rw [vQ]; exact this
    have hY := hW.sync (sy' := sy) (su' := su3) hn3 hD3 hWs hI.sl fun m hm => ((hI.at_ m hm).1 hm).2
    rw [hop3]
    refine ⟨by simp only [lo, Fx.hi]; omega, (i + 1, S3, su3, yF 16 []), ⟨⟨hil, hY⟩, by show l.length - (i + 1) < _; omega⟩, ?_⟩
    exact refl_leG (leS_13 (p0 := []) hn36 trivial ⟨rfl, rfl, rfl, rfl, rfl, rfl, rfl, rfl, rfl, trivial⟩ (leH_refl _))
  ·simp -implicitDefEqProofs only [Nat.reduceAdd,n61]
   have hW := (hJ.write (sy' := sy) hko hn2 hD2 (by omega)).1
   refine ⟨by simp only [lo, Fx.hi]; omega, (i + 1, S2, su, op.set k (op[k] ++ [filledS l[i].b])), ⟨⟨hil, hW⟩, by show l.length - (i + 1) < _; omega⟩, ?_⟩
   exact refl_leG (leS_13 (p0 := []) hn16 trivial ⟨rfl, rfl, rfl, rfl, rfl, rfl, rfl, rfl, rfl, trivial⟩ (by
    have := hp13_app (S := S2) (X := X13 su (op.set k (op[k] ++ [filledS l[i].b]))) (Y := [.var l[i].enc, .var (filledS l[i].b).enc, .arr 64 [(filledS l[i].b).enc], .dead])
    show leH (hp13 S2 (X13 su (op.set k (op[k] ++ [filledS l[i].b])) ++ [.var l[i].enc, .var (filledS l[i].b).enc, .arr 64 [(filledS l[i].b).enc], .dead])) _
    rw [this]
    exact leH_app))
 ·have hie : i = l.length := by omega
  subst hie
  have hF : (flS su).length = 1024 := by rw [flS_len, hJ.sl]
  have hF0 : (flS z16).length = 1024 := by rw [flS_len]; rfl
  have hV : (opVs 26 op).length = 16 := opVs_len.trans hJ.ol
  have hN : n16.length = 16 := rfl
  simp -implicitDefEqProofs only [rX,hF,hF0,hV,hN]
  have t1 : yD 1024 (flS su) = flS su := yN (by rw [hF]; exact yH _)
  have t2 : yD 16 (opVs 26 op) = opVs 26 op := yN (by rw [hV]; exact yH _)
  have d1 : yG 1024 (flS z16) = [] := yQ (by rw [hF0]; exact yH _)
  have d2 : yG 16 n16 = [] := yQ (by rw [hN]; exact yH _)
  rw [t1, t2, hF, hV, d1, d2, yI, yI]
  refine ⟨rfl, flS_C, rfl, opVs_C, ?_⟩
  refine retP_isQ (S, su, op) hJ ?_
  simp -implicitDefEqProofs only [rX,↓rY,↓reduceIte,Nat.reduceEqDiff,resP,tupV,leH,leB,keepP,liveP,wfB,wfV,wfL,Nat.reduceLeDiff,hF,hV,t1,t2]
  exact ⟨⟨⟨rfl, rfl, rfl, rfl, rfl, trivial⟩, leB_refl _, leB_refl _, leH_dd⟩, ⟨trivial, plain_wf flS_plain, hr13_ops hJ.n16⟩, hr13_wf⟩
set_option maxRecDepth 20000
set_option maxRecDepth 20000
theorem opVs_ren {op : List (List Sec)} {p q : Nat} {g : Nat → Option Nat} (hg : ∀ k, k < op.length → g (p + k) = some (q + k)) : rens g (opVs p op) = opVs q op := by
 have hm : ∀ l : List V, rens g l = l.map (ren g) := by
  intro l
  induction l with
  | nil => rfl
  | cons x r ih => simp only [rens, yA, ih]
 rw [hm]
 apply yO
 ·simp [opVs]
 ·intro j h1 h2
  have hj : j < op.length := by simpa [opVs] using h1
  simp only [opVs, yP, yY, ren, hg j hj]
theorem opT_ren {op : List (List Sec)} {g : Nat → Option Nat} : (opT op).map (renB g) = opT op := by
 simp only [opT, vI]
 exact vJ fun _ _ => rfl
theorem plain_ren {l : List V} (h : ∀ x ∈ l, ∃ u, x = .v u) {g : Nat → Option Nat} : rens g l = l := (plain_len h (H := []) (g := fun _ => none)).2.2 g
theorem call_13 {cx : Cx} {e : Env} {b : Nat} {K : V → St → Prop} {h : List Blk} (l : List Op) (sy : Int) (hl : l.length ≤ 40) (hC : cx.C = C0 Try.prog) (hfx : cx.fx = []) (hh : h.length = 2)
  (h3 : ∀ (S : MS) (su : List Sec) (op : List (List Sec)), J13 sy l.length S su op → K (.tup [.ptr 7 0 0, .agg (flS su), .agg (opVs 28 op)]) ⟨e, h ++ (.dead :: .dead :: .dead :: .dead :: .dead :: (S.bs 7 ++ .dead :: .dead :: opT op)), b⟩) : callP cx 13 [.ro 3 (l.map Op.enc), .i sy] ⟨e, h, b⟩ K := by
 refine ⟨[], [.ro 3 (l.map Op.enc), .i sy], [], r13 sy l.length, ⟨⟨List.nodup_nil, by simp⟩, by simp⟩, ⟨trivial, trivial, trivial⟩, ⟨⟨rfl, rfl⟩, rfl, trivial⟩, by rw [hC]; exact ok13 l sy hl, ?_⟩
 rintro r h' ⟨⟨S, su, op⟩, hJ, rfl, rfl⟩ _
 have hJ : J13 sy l.length S su op := hJ
 rw [hfx]
 refine ⟨trivial, ?_⟩
 have hk : ∀ l : List Blk, l.map (killB []) = l := killB_nil
 have hg : ∀ j, back [] h.length j = some (2 + j) := fun j => by simp [back, hh]
 have e1 : (S.bs 5).map (renB (back [] h.length)) = S.bs 7 := dk_ren S.ok fun j hj => by rw [hg]; congr 1; omega
 have e2 : setAll [] ((Blk.dead :: .dead :: .dead :: .dead :: .dead :: (S.bs 5 ++ .dead :: .dead :: opT op)).map (renB (back [] h.length))) (h.map (killB [])) = h ++ (.dead :: .dead :: .dead :: .dead :: .dead :: (S.bs 7 ++ .dead :: .dead :: opT op)) := by
  rw [hk]
  show h ++ _ = _
  simp only [yA, yU, e1, opT_ren]
  rfl
 have e3 : ren (back [] h.length) (.tup [.ptr 5 0 0, .agg (flS su), .agg (opVs 26 op)]) = .tup [.ptr 7 0 0, .agg (flS su), .agg (opVs 28 op)] := by
  have h1 := plain_ren (l := flS su) flS_plain (g := back [] h.length)
  have h2 := opVs_ren (op := op) (p := 26) (q := 28) (g := back [] h.length) fun k _ => by rw [hg]; congr 1; omega
  simp only [ren, rens, h1, h2, hg]
 have h4 := h3 S su op hJ
 rw [← e2, ← e3] at h4
 simp only [List.filterMap_nil, killE_nil]
 exact h4
theorem opVs_killM {q : Nat} {op : List (List Sec)} {M : List Nat} (hM : ∀ k, k < op.length → q + k ∉ M) : kills M (opVs q op) = opVs q op := by
 rw [kills_map]
 apply yO
 ·simp
 ·intro j h1 h2
  have hj : j < op.length := by simpa [opVs] using h2
  simp only [opVs, yP, yY, kill, if_neg (hM j hj)]
theorem kill_28 {op : List (List Sec)} : kills (yC 10 16) (opVs 28 op) = opVs 28 op := opVs_killM fun k _ => by rw [yE]; omega
theorem A6_kill {su : List Sec} {op : List (List Sec)} {n : Nat} (hn : n = 16) : [Blk.var (flS su), .var (opVs 28 op), .dead, .dead, .dead, .dead, .dead].map (killB (yC (7 + 3) n)) = [Blk.var (flS su), .var (opVs 28 op), .dead, .dead, .dead, .dead, .dead] := by
 subst hn
 simp only [yA, yK, killB, plain_kill flS_plain, Nat.reduceAdd, kill_28]
theorem B6_kill {op : List (List Sec)} {M : List Nat} {X : List Blk} (hX : X.map (killB M) = X) : (Blk.dead :: .dead :: (opT op ++ X)).map (killB M) = Blk.dead :: .dead :: (opT op ++ X) := by
 rw [yA, yA, opT_kill, hX]; rfl
theorem B6_kill0 {op : List (List Sec)} {M : List Nat} : (Blk.dead :: .dead :: opT op).map (killB M) = Blk.dead :: .dead :: opT op := by
 have := B6_kill (op := op) (M := M) (X := []) rfl
 rwa [yI] at this
theorem flS_at {L : List Sec} {k : Nat} (hk : k < L.length) : yD 64 (yG (k * 64) (flS L)) = (L.getD k zS).enc := by
 rw [Nat.mul_comm, flS_get hk, yB, yJ hk]; rfl
theorem leH_pre {X Y : List Blk} (h : leH X Y) : ∀ {T : List Blk}, leH (T ++ X) (T ++ Y)
 | [] => h
 | x :: T => ⟨leB_refl x, leH_pre h⟩
set_option maxRecDepth 20000
def possA (s : Sec) (e : Int) (t : Sec) (l : List Sec) (k : Nat) : Bool := (e == 0 && decide (s = t)) || (l.take k).any fun x => e == 0 && decide (s = x)
def possB (s : Sec) (e : Int) (t : Sec) (l : List Sec) : Bool :=
 if e = 131 then decide (s = zS) else possA s e t l l.length || (e == 0 && decide (s = tornS (if 1 < l.length then l.getD (l.length - 2) zS else t) (l.getD (l.length - 1) zS)))
theorem possA_s {s : Sec} {e : Int} {t : Sec} {l : List Sec} {k : Nat} (hk : k < l.length) : possA s e t l (k + 1) = (possA s e t l k || (e == 0 && decide (s = l[k]))) := by
 unfold possA
 rw [List.take_succ_eq_append_getElem hk, List.any_append]
 simp [Bool.or_assoc]
theorem ok19 (s t : Sec) (e : Int) (l : List Sec) (h0 : l ≠ []) (hl : l.length ≤ 1000) : Ok 19 [.agg s.enc, .i e, .agg t.enc, .bro 64 (l.map Sec.enc)] (Is (.b (possB s e t l))) := by
 have hl0 : 0 < l.length := yW.2 h0
 refine ok_of lw19 (by simp) ?_
 unfold c19
 have es : ∀ {s t : Sec} {K : Bool → Prop}, (optK (aggC (.agg s.enc)) fun xs => optK (aggC (.agg t.enc)) fun ys => eqFs xs ys ((yC 0 64).map fun i => (i, .int .u8)) K) = K (decide (s = t)) := eqA_sec
 simp -implicitDefEqProofs only [rX,↓rY,ofConst,cells?,↓reduceIte,Nat.reduceEqDiff,Nat.reduceAdd,reduceCtorEq,freshP,buildP,resP,tupV,wfV,cxN,rep64,sec_len,sec_take,args0,es]
 simp only [br, decide_eq_true_eq, decide_eq_false_iff_not, beq_iff_eq, beq_eq_false_iff_ne]
 refine ⟨fun h => by rw [possB, if_pos h], fun h => ⟨fun he hm => ?_, fun he hm => ?_⟩⟩
 all_goals
  refine loopP_intro (fun k : Nat => (⟨[(29, .i k), (28, .i l.length), (27, .bro 64 (l.map Sec.enc)), (9, .b (possA s e t l k)), (3, .bro 64 (l.map Sec.enc)), (1, .i e), (4, .ptr 0 0 0), (6, .ptr 1 0 0)], [.var s.enc, .var t.enc], 0⟩ : St)) (fun k => k ≤ l.length) (fun k => l.length - k) 0 (yZ _) ?_ ?_
  ·refine ⟨⟨rfl, rfl, rfl, ?_, rfl, rfl, rfl, rfl, trivial⟩, ⟨leB_refl _, leB_refl _, trivial⟩, trivial, ⟨trivial, trivial, trivial, trivial, trivial, trivial, trivial, trivial, trivial⟩, ⟨sec_wf, sec_wf, trivial⟩⟩
   show V.b _ = V.b _
   congr 2
   simp [possA, he]
  rintro k hk
  have hk : k ≤ l.length := hk
  unfold c19l0
  simp -implicitDefEqProofs only [rX,↓rY,rdK,ofConst,cells?,splice,↓reduceIte,Nat.reduceEqDiff,Nat.reduceAdd,freshP,slcOk,resP,tupV,leE,leH,leB,keepP,liveP,wfE,wfB,wfV,Nat.reduceLeDiff,arr64,sec_len,sec_take,sec_C,sec_drop,es,toNat32,s6432,a3232,flat_sing,take_sing,sec_d32,sec_t32,sec_D32,torn_enc]
  simp only [br, decide_eq_true_eq, decide_eq_false_iff_not, beq_iff_eq, beq_eq_false_iff_ne]
  have hB : possB s e t l = (possA s e t l l.length || (e == 0 && decide (s = tornS (if 1 < l.length then l.getD (l.length - 2) zS else t) (l.getD (l.length - 1) zS)))) := by rw [possB, if_neg h]
  have hg1 : ∀ hx, l[((l.length : Int) - 1).toNat]'hx = l.getD (l.length - 1) zS := fun hx => by
   rw [yB, yJ (by omega)]
   show _ = l[l.length - 1]
   congr 1; omega
  have hg2 : 1 < l.length → ∀ hx, l[((l.length : Int) - 2).toNat]'hx = l.getD (l.length - 2) zS := fun _ hx => by
   rw [yB, yJ (by omega)]
   show _ = l[l.length - 2]
   congr 1; omega
  have hg3 : ∀ x : Sec, 32 ≤ (yD 32 x.enc).length := fun x => by simp [sec_len]
  refine ⟨fun hlt => ?_, fun hge hm2 => ?_⟩
  ·have hkl : k < l.length := by omega
   have hs := possA_s (s := s) (e := e) (t := t) hkl
   refine ⟨⟨by omega, hlt⟩, hkl, fun ha => ⟨by simp only [lo, Fx.hi]; omega, k + 1, ⟨by omega, by omega⟩, ⟨by omega, ?_⟩, ⟨leVs_rf _, leVs_rf _⟩, sec_wf, sec_wf⟩, fun ha => ⟨fun h2 => ⟨by simp only [lo, Fx.hi]; omega, k + 1, ⟨by omega, by omega⟩, ⟨by omega, ?_⟩, ⟨leVs_rf _, leVs_rf _⟩, sec_wf, sec_wf⟩, fun h2 => ⟨by simp only [lo, Fx.hi]; omega, k + 1, ⟨by omega, by omega⟩, ⟨by omega, ?_⟩, ⟨leVs_rf _, leVs_rf _⟩, sec_wf, sec_wf⟩⟩⟩
   ·rw [hs, ha]; rfl
   ·rw [hs, ha, h2]; rfl
   ·rw [hs, ha]; simp [h2]
  ·have hkl : k = l.length := by omega
   subst hkl
   refine ⟨by simp only [lo, Fx.hi]; omega, ⟨by omega, by omega⟩, by omega, fun hl2 => ⟨by simp only [lo, Fx.hi]; omega, ⟨by omega, by omega⟩, by omega, by omega, by omega, .inr trivial, fun ha => ?_, fun ha => ⟨fun h2 => ⟨hg3 _, ?_⟩, fun h2 => ?_⟩⟩, fun hl2 => ⟨by omega, by omega, .inr trivial, fun ha => ?_, fun ha => ⟨fun h2 => ⟨hg3 _, ?_⟩, fun h2 => ?_⟩⟩⟩
   ·rw [hB, ha]; rfl
   ·rw [hB, ha, hg1, hg2 (by omega), if_pos (by omega)]; simp [h2]
   ·rw [hB, ha]; simp [h2]
   ·rw [hB, ha]; rfl
   ·rw [hB, ha, hg1, if_neg (by omega)]; simp [h2]
   ·rw [hB, ha]; simp [h2]
set_option maxRecDepth 20000
theorem poss_found {t : Sec} {l : List Sec} {x : Int} (h0 : l ≠ []) : possB (if (foundC ⟨t, false⟩ l x).bad then ((zS, 131) : Sec × Int) else ((foundC ⟨t, false⟩ l x).s, 0)).1 (if (foundC ⟨t, false⟩ l x).bad then ((zS, 131) : Sec × Int) else ((foundC ⟨t, false⟩ l x).s, 0)).2 t l = true := by
 have hl0 : 0 < l.length := yW.2 h0
 have hp := pickR_b (n := l.length) (x := x)
 unfold foundC
 simp only
 by_cases h1 : pickR l.length x = 0
 ·rw [if_pos h1]
  simp [possB, possA]
 ·rw [if_neg h1]
  by_cases h2 : pickR l.length x ≤ l.length
  ·rw [if_pos h2]
   have hi : (pickR l.length x - 1).toNat < l.length := by omega
   have hm : l.getD (pickR l.length x - 1).toNat zS ∈ l := by
    rw [yB, yJ hi]; exact List.getElem_mem hi
   generalize l.getD (pickR l.length x - 1).toNat zS = y at hm
   have : possA y 0 t l l.length = true := by
    unfold possA
    rw [List.take_length, Bool.or_eq_true]
    exact .inr (List.any_eq_true.2 ⟨y, hm, by simp⟩)
   simp [possB, this]
  ·rw [if_neg h2]
   by_cases h3 : pickR l.length x = l.length + 1
   ·rw [if_pos h3]
    simp [possB]
   ·rw [if_neg h3]
    simp [possB]
def hp4 (S : MS) (su : List Sec) (op : List (List Sec)) (S2 : MS) (B : List Blk) : List Blk := .var (flS su) :: .var (opVs 28 op) :: .dead :: .dead :: .dead :: .dead :: .dead :: dkV 7 S.D :: dkC S.D :: .map (ents 7 S.D S.L) S.c :: (dkT S.D ++ .dead :: .dead :: (opT op ++ .dead :: .dead :: .dead :: dkV 47 S2.D :: dkC S2.D :: .map (ents 47 S2.D S2.L) S2.c :: (dkT S2.D ++ B)))
theorem dk_killM {S : MS} {p : Nat} {M : List Nat} (hM : ∀ j, j < 3 + S.n → p + j ∉ M) : (S.bs p).map (killB M) = S.bs p := by
 have h1 := hM 1 (by omega)
 have h2 := hM 2 (by omega)
 show killB M (dkV p S.D) :: killB M (dkC S.D) :: killB M (.map (ents p S.D S.L) S.c) :: (dkT S.D).map (killB M) = _
 rw [dkT_kill]
 have e1 : killB M (dkV p S.D) = dkV p S.D := by
  simp only [dkV, killB, kills, kill, if_neg h1, if_neg h2]
 have e2 : killB M (.map (ents p S.D S.L) S.c) = .map (ents p S.D S.L) S.c := by
  rw [killB, ents_killp fun e he => ?_]
  have := ((S.ok.key e.1).1 (vO he)).1
  have h3 := hM (3 + e.1) (by show _ < 3 + S.D.n; omega)
  rwa [← Nat.add_assoc] at h3
 rw [e1, e2]; rfl
section
variable {cx : Cx} {f : FuncId} {e : Env} {b : Nat} {K : V → St → Prop} {S S2 : MS} {su : List Sec} {op : List (List Sec)} {args xs : List V} {Q : V → MS → Prop}
theorem call_4a (B : List Blk) (hn : S.n = 16) (hn2 : S2.n = 16) (ho : op.length = 16) (hbn : cx.bn = []) (hfx : cx.fx = []) (hC : cx.C f (.ptr 0 0 0 :: xs) (S.bs 0) (yC 3 S.n) (QD S.n Q))
  (ha : ∀ (H : List Blk) (g : Nat → Option Nat), lendsOk H g args ∧ wkL xs (lends H g args))
  (hB : B.map (killB (yC (7 + 3) S.n)) = B) (hE : killE (yC (7 + 3) S.n) e = e)
  (h3 : ∀ (r : V) (S' : MS), S'.n = S.n → Q r S' → (∀ g, ren g r = r) ∧ K r ⟨e, hp4 S' su op S2 B, b⟩) : callP cx f (.ptr 7 0 0 :: args) ⟨e, hp4 S su op S2 B, b⟩ K := by
 refine call_at 7 [.var (flS su), .var (opVs 28 op), .dead, .dead, .dead, .dead, .dead] (.dead :: .dead :: (opT op ++ .dead :: .dead :: .dead :: (S2.bs 47 ++ B))) rfl hbn hfx hC ha (A6_kill hn) (B6_kill ?_) hE h3
 rw [yA, yA, yA, yU, hB, dk_killM fun j hj => by rw [yE]; omega]; rfl
theorem call_4b (B : List Blk) (hn : S.n = 16) (hn2 : S2.n = 16) (ho : op.length = 16) (hbn : cx.bn = []) (hfx : cx.fx = []) (hC : cx.C f (.ptr 0 0 0 :: xs) (S2.bs 0) (yC 3 S2.n) (QD S2.n Q))
  (ha : ∀ (H : List Blk) (g : Nat → Option Nat), lendsOk H g args ∧ wkL xs (lends H g args))
  (hB : B.map (killB (yC (47 + 3) S2.n)) = B) (hE : killE (yC (47 + 3) S2.n) e = e)
  (h3 : ∀ (r : V) (S' : MS), S'.n = S2.n → Q r S' → (∀ g, ren g r = r) ∧ K r ⟨e, hp4 S su op S' B, b⟩) : callP cx f (.ptr 47 0 0 :: args) ⟨e, hp4 S su op S2 B, b⟩ K := by
 have hA : ∀ S2 : MS, hp4 S su op S2 B = (.var (flS su) :: .var (opVs 28 op) :: .dead :: .dead :: .dead :: .dead :: .dead :: (S.bs 7 ++ .dead :: .dead :: (opT op ++ [.dead, .dead, .dead]))) ++ (dkV 47 S2.D :: dkC S2.D :: .map (ents 47 S2.D S2.L) S2.c :: (dkT S2.D ++ B)) := fun S2 => by
  unfold hp4
  rw [bs_eq]
  simp
 rw [hA]
 refine call_at 47 _ B ?_ hbn hfx hC ha ?_ hB hE fun r S' h1 h2 => ?_
 ·simp only [yX, yT, S.len, hn, opT_len, ho, vA]
 ·have e2 : kills (yC (47 + 3) S2.n) (opVs 28 op) = opVs 28 op := opVs_killM fun k hk => by rw [yE]; omega
  have e3 : (S.bs 7).map (killB (yC (47 + 3) S2.n)) = S.bs 7 := dk_killM fun j hj => by rw [yE]; omega
  have e4 : (opT op).map (killB (yC (47 + 3) S2.n)) = opT op := by
   have := opT_kill (op := op) (X := []) (M := yC (47 + 3) S2.n)
   rwa [yI, yK, yI] at this
  simp only [yA, yU, e3, e4, yK]
  simp only [killB, plain_kill flS_plain, e2]
 ·have := h3 r S' h1 h2
  rwa [hA] at this
end
theorem hp4_get {S S2 : MS} {su : List Sec} {op : List (List Sec)} {B : List Blk} {k : Nat} (hn : S.n = 16) (hk : k < op.length) : (hp4 S su op S2 B)[28 + k]? = some (.arr 64 (op[k].map Sec.enc)) := by
 have h1 := g16 (T := dkT S.D) (X := .dead :: .dead :: (opT op ++ .dead :: .dead :: .dead :: dkV 47 S2.D :: dkC S2.D :: .map (ents 47 S2.D S2.L) S2.c :: (dkT S2.D ++ B))) (j := k + 2) (S.T_len.trans hn)
 rw [show 28 + k = (k + 2 + 16) + 10 by omega]
 refine Eq.trans h1 ?_
 show (opT op ++ _)[k]? = _
 rw [vK (by rw [opT_len]; exact hk), opT_get hk]
theorem hp4_wf {S S2 : MS} {su : List Sec} {op : List (List Sec)} (hn : S.n = 16) (ho : op.length = 16) : wfB (hp4 S su op S2 []) (hp4 S su op S2 []) := by
 have hA : hp4 S su op S2 [] = (.var (flS su) :: .var (opVs 28 op) :: .dead :: .dead :: .dead :: .dead :: .dead :: (S.bs 7 ++ .dead :: .dead :: (opT op ++ [.dead, .dead, .dead]))) ++ (S2.bs 47 ++ []) := by
  unfold hp4
  rw [bs_eq, bs_eq]
  simp
 have h1 := S2.wf (p := 47) (.var (flS su) :: .var (opVs 28 op) :: .dead :: .dead :: .dead :: .dead :: .dead :: (S.bs 7 ++ .dead :: .dead :: (opT op ++ [.dead, .dead, .dead]))) [] (by simp only [yX, yT, S.len, hn, opT_len, ho, vA]) (C := []) trivial
 rw [← hA] at h1
 have h2 : wfB (hp4 S su op S2 []) (.dead :: .dead :: (opT op ++ .dead :: .dead :: .dead :: (S2.bs 47 ++ []))) := wfB_opT (B := .dead :: .dead :: .dead :: (S2.bs 47 ++ [])) h1
 have hH : hp4 S su op S2 [] = [.var (flS su), .var (opVs 28 op), .dead, .dead, .dead, .dead, .dead] ++ (S.bs 7 ++ (.dead :: .dead :: (opT op ++ .dead :: .dead :: .dead :: (S2.bs 47 ++ [])))) := rfl
 rw [hH] at h2 ⊢
 have h3 := S.wf (p := 7) [.var (flS su), .var (opVs 28 op), .dead, .dead, .dead, .dead, .dead] (.dead :: .dead :: (opT op ++ .dead :: .dead :: .dead :: (S2.bs 47 ++ []))) rfl (C := .dead :: .dead :: (opT op ++ .dead :: .dead :: .dead :: (S2.bs 47 ++ []))) h2
 exact ⟨plain_wf flS_plain, wfL_opVs fun k hk => liveP_of (hH ▸ hp4_get hn hk), h3⟩
def hp4' (S : MS) (su : List Sec) (op : List (List Sec)) (S2 : MS) : List Blk := .var (flS su) :: .var (opVs 28 op) :: .dead :: .dead :: .dead :: .dead :: .dead :: dkV 7 S.D :: dkC S.D :: .map (ents 7 S.D S.L) S.c :: (dkT S.D ++ .dead :: .dead :: (opT op ++ .dead :: .dead :: .dead :: dkV 47 S2.D :: dkC S2.D :: .map (ents 47 S2.D S2.L) S2.c :: dkT S2.D))
theorem hp4_eq {S : MS} {su : List Sec} {op : List (List Sec)} {S2 : MS} : hp4' S su op S2 = hp4 S su op S2 [] := by
 unfold hp4
 rw [yI]; rfl
theorem hp4_wf' {S S2 : MS} {su : List Sec} {op : List (List Sec)} (hn : S.n = 16) (ho : op.length = 16) : wfB (hp4' S su op S2) (hp4' S su op S2) := by
 rw [hp4_eq]; exact hp4_wf hn ho
set_option maxRecDepth 20000
theorem kill_28b {op : List (List Sec)} (h : op.length = 16) : kills (yC 50 16) (opVs 28 op) = opVs 28 op := opVs_killM fun k hk => by rw [yE]; omega
theorem opens_nil {D : Dk} (h : ∀ k, D.op k = []) : D.opens = [] := by
 have : D.secs = [] := by
  unfold Dk.secs
  rw [List.filter_eq_nil_iff]
  intro k hk
  simp [h k]
 rw [Dk.opens, this]; rfl
theorem hp4_rest {S S2 : MS} {op : List (List Sec)} {X : List Blk} : leH (dkT S.D ++ .dead :: .dead :: (opT op ++ .dead :: .dead :: .dead :: dkV 47 S2.D :: dkC S2.D :: .map (ents 47 S2.D S2.L) S2.c :: (dkT S2.D ++ X))) (dkT S.D ++ .dead :: .dead :: (opT op ++ .dead :: .dead :: .dead :: dkV 47 S2.D :: dkC S2.D :: .map (ents 47 S2.D S2.L) S2.c :: dkT S2.D)) := by
 refine leH_pre (T := dkT S.D) ?_
 refine ⟨trivial, trivial, ?_⟩
 refine leH_pre (T := opT op) ?_
 exact ⟨trivial, trivial, trivial, leB_refl _, leB_refl _, leB_refl _, leH_app⟩
theorem poss_args {H : List Blk} {q : Nat} {s t : Sec} {x : Int} {l : List Sec} (hb : H[q]? = some (.arr 64 (l.map Sec.enc))) : lendsOk H (fun _ => none) [.agg s.enc, .i x, .agg t.enc, .sl q 0 l.length] ∧ wkL [.agg s.enc, .i x, .agg t.enc, .bro 64 (l.map Sec.enc)] (lends H (fun _ => none) [.agg s.enc, .i x, .agg t.enc, .sl q 0 l.length]) := by
 have hb2 : blk H q = .arr 64 (l.map Sec.enc) := by rw [blk, yB, hb]; rfl
 obtain ⟨h1, h2, _⟩ := plain_len (sec_plain (s := s)) (H := H) (g := fun _ => none)
 obtain ⟨h3, h4, _⟩ := plain_len (sec_plain (s := t)) (H := H) (g := fun _ => none)
 refine ⟨⟨h1, trivial, h3, ?_, trivial⟩, h2, rfl, h4, ?_, trivial⟩
 ·simp only [lendOk, hb2]
  simp
 ·simp only [lend, hb2, wk, wkB]
  refine ⟨trivial, ?_⟩
  rw [vB, yN (by simp)]
theorem ok4 (l : List Op) (a : Nat) (ha : a ≤ 255) (keep : List Int) : Ok 4 [.ro 3 (l.map Op.enc), .v (.int .u8 a), .ro 1 (keep.map encI)] (Is (.b true)) := by
 refine ok_of lw4 (by simp) ?_
 unfold c4
 simp -implicitDefEqProofs only [rX,↓rY,ofConst,↓reduceIte,Nat.reduceEqDiff,Nat.reduceAdd,reduceCtorEq,cxN,args0]
 simp only [br, decide_eq_true_eq, decide_eq_false_iff_not]
 have early : ∀ (e : Env) (h : List Blk) (b : Nat) (K : V → St → Prop), K (.b true) ⟨e, h, b⟩ → callP (cxN Try.prog []) 8 [] ⟨e, h, b⟩ K := fun e h b K hk => s8 rfl rfl hk
 refine fun hm => ⟨fun h1 => early _ _ _ _ ?_, fun h1 hm2 => ⟨fun h2 => early _ _ _ _ ?_, fun h2 => ?_⟩⟩
 ·simp -implicitDefEqProofs only [rX,↓reduceIte,resP,tupV,wfV]
 ·simp -implicitDefEqProofs only [rX,↓reduceIte,resP,tupV,wfV]
 obtain ⟨sy, hsy, hsyb⟩ : ∃ sy : Nat, (a : Int).tmod 41 = sy ∧ sy < 41 := ⟨a % 41, by rw [vR (by omega)]; omega, by omega⟩
 refine ⟨by simp only [lo, hi]; omega, by decide, ?_⟩
 rw [hsy]
 refine call_13 l sy (by omega) rfl rfl rfl fun S su op hJ => ?_
 have hF : (flS su).length = 1024 := by rw [flS_len, hJ.sl]
 have hF0 : (flS z16).length = 1024 := by rw [flS_len]; rfl
 have hV : (opVs 28 op).length = 16 := opVs_len.trans hJ.ol
 have hN : n16.length = 16 := rfl
 have hT : (dkT S.D).length = 16 := S.T_len.trans hJ.n16
 have hO : (opT op).length = 16 := opT_len.trans hJ.ol
 have t1 : yD 1024 (flS su) = flS su := yN (by rw [hF]; exact yH _)
 have t2 : yD 16 (opVs 28 op) = opVs 28 op := yN (by rw [hV]; exact yH _)
 have d1 : yG 1024 (flS z16) = [] := yQ (by rw [hF0]; exact yH _)
 have d2 : yG 16 n16 = [] := yQ (by rw [hN]; exact yH _)
 rw [bs_eq]
 simp -implicitDefEqProofs only [rX,↓rY,ofConst,cells?,splice,↓reduceIte,Nat.reduceEqDiff,Nat.reduceAdd,reduceCtorEq,freshP,resP,tupV,wfV,dkV,dkC,n61,n62,flS_0,n16_0,hF,hF0,hV,hN,d1,d2,flS_C,opVs_C]
 refine call_14p (cx := cxN Try.prog []) [.var (flS su), .var (opVs 28 op), .dead, .dead, .dead, .dead, .dead] (.dead :: .dead :: opT op) S keep (.ro 1 (keep.map encI)) 47 ?_ (by rw [hJ.n16]; omega) (fun k => by have := hJ.ln k; omega) rfl (fun _ _ => ⟨trivial, ?_⟩) rfl rfl (A6_kill hJ.n16) B6_kill0 ?_ ?_
 ·rw [hJ.n16]
  simp only [yX, yT, hO, vA]
 ·simp [lend, wk, wkB]
 ·simp [killE, kill, kills, yE, hJ.n16, opn_kill, sec_kill, kill_28, plain_kill flS_plain]
 have hS2n : (crE S keep).n = 16 := crE_n.trans hJ.n16
 have hT2 : (dkT (crE S keep).D).length = 16 := (crE S keep).T_len.trans hS2n
 simp -implicitDefEqProofs only [rX,↓rY,ofConst,↓reduceIte,Nat.reduceEqDiff,Nat.reduceAdd,resP,tupV,wfV,n61]
 show callP _ 15 _ ⟨_, hp4' S su op (crE S keep), _⟩ _
 rw [hp4_eq]
 have hk8 := kill_28b hJ.ol
 have hc16 : (crE S keep).n = 16 := hS2n
 refine call_4b (cx := cxN Try.prog []) (args := []) (xs := []) [] hJ.n16 hS2n hJ.ol rfl rfl (ok15 (crE S keep)) (fun _ _ => ⟨trivial, trivial⟩) rfl ?_ ?_
 ·simp [killE, kill, kills, yE, hS2n, hk8, plain_kill flS_plain]
 rintro r S3 _ ⟨hS3, rfl⟩
 subst S3
 refine ⟨fun _ => rfl, ?_⟩
 rw [hS2n]
 have hb6 : (((16 : Nat) : Int) != 16) = false := rfl
 simp -implicitDefEqProofs only [rX,↓rY,ofConst,↓reduceIte,Nat.reduceEqDiff,resP,tupV,wfV,hb6]
 refine call_4b (cx := cxN Try.prog []) (args := []) (xs := []) [] hJ.n16 hS2n hJ.ol rfl rfl (ok16 (crE S keep)) (fun _ _ => ⟨trivial, trivial⟩) rfl ?_ ?_
 ·simp [killE, kill, kills, yE, hS2n, hk8, plain_kill flS_plain]
 rintro r S3 _ ⟨hS3, rfl⟩
 subst S3
 refine ⟨fun _ => rfl, ?_⟩
 have hdd : (crE S keep).D.dead = false := rfl
 rw [hdd]
 simp -implicitDefEqProofs only [rX,↓rY,↓reduceIte,Nat.reduceEqDiff]
 refine call_4b (cx := cxN Try.prog []) (args := []) (xs := []) [] hJ.n16 hS2n hJ.ol rfl rfl (ok17 (crE S keep)) (fun _ _ => ⟨trivial, trivial⟩) rfl ?_ ?_
 ·simp [killE, kill, kills, yE, hS2n, hk8, plain_kill flS_plain]
 rintro r S3 _ ⟨hS3, rfl⟩
 subst S3
 refine ⟨fun _ => rfl, ?_⟩
 have hst0 : (((crE S keep).D.steps : Nat) : Int) = 0 := rfl
 have hb0 : ((0 : Int) != 0) = false := rfl
 rw [hst0]
 simp -implicitDefEqProofs only [rX,↓rY,ofConst,↓reduceIte,Nat.reduceEqDiff,resP,tupV,wfV,hb0]
 refine call_4b (cx := cxN Try.prog []) (args := []) (xs := []) [] hJ.n16 hS2n hJ.ol rfl rfl (ok18 (crE S keep) (by omega) fun k => by rw [crE_op]; exact yZ _) (fun _ _ => ⟨trivial, trivial⟩) rfl ?_ ?_
 ·simp [killE, kill, kills, yE, hS2n, hk8, plain_kill flS_plain]
 rintro r S3 _ ⟨hS3, rfl⟩
 subst S3
 refine ⟨fun _ => rfl, ?_⟩
 rw [opens_nil fun _ => crE_op]
 have hln : lnat [] = .ro 1 [] := rfl
 rw [hln]
 simp -implicitDefEqProofs only [rX,↓rY,ofConst,↓reduceIte,Nat.reduceEqDiff,resP,tupV,wfV]
 have hb00 : (((0 : Nat) : Int) != 0) = false := rfl
 refine fun _ => ?_
 rw [hb00, zv]
 have hcr : ∀ j, j < 16 → (op.getD j [] = [] → (crE S keep).D.rd j = (su.getD j zS, 0)) ∧ (op.getD j [] ≠ [] → possB ((crE S keep).D.rd j).1 ((crE S keep).D.rd j).2 (su.getD j zS) (op.getD j []) = true) := by
  intro j hj
  have hcl := hJ.cl j hj
  have hop := hJ.oq j hj
  have hrd := crE_rd (S := S) (keep := keep) (i := j) (by rw [hJ.n16]; exact hj)
  refine ⟨fun h0 => ?_, fun h0 => ?_⟩
  ·rw [hrd, crE_no (by rw [hop, h0]), hcl]; rfl
  ·obtain ⟨x, hx⟩ := crE_yes (S := S) (keep := keep) (i := j) (by rw [hJ.n16]; exact hj) (by rw [hop]; exact h0)
   rw [hrd, hx, hcl, hop]
   exact poss_found h0
 generalize crE S keep = S2 at hS2n hT2 hcr
 rw [← hp4_eq]
 refine loopP_intro (fun j : Nat => (⟨[(61, .i j), (10, .ptr 47 0 0), (7, .ptr 7 0 0), (9, .ptr 1 0 0), (8, .ptr 0 0 0)], hp4' S su op S2, 0⟩ : St)) (fun j => j ≤ 16) (fun j => 16 - j) 0 (by omega) ?_ ?_
 ·have l1 : liveP (hp4' S su op S2) 47 := by
   have h1 := g16 (T := dkT S.D) (X := .dead :: .dead :: (opT op ++ .dead :: .dead :: .dead :: dkV 47 S2.D :: dkC S2.D :: .map (ents 47 S2.D S2.L) S2.c :: dkT S2.D)) (j := 21) hT
   have h2 := g16 (T := opT op) (X := .dead :: .dead :: .dead :: dkV 47 S2.D :: dkC S2.D :: .map (ents 47 S2.D S2.L) S2.c :: dkT S2.D) (j := 3) hO
   have h3 : (hp4' S su op S2)[47]? = some (dkV 47 S2.D) := Eq.trans h1 h2
   unfold liveP
   rw [h3]; trivial
  exact ⟨⟨rfl, rfl, rfl, rfl, rfl, trivial⟩, leH_refl _, trivial, ⟨trivial, l1, trivial, trivial, trivial, trivial⟩, hp4_wf' hJ.n16 hJ.ol⟩
 rintro j hj
 have hj : j ≤ 16 := hj
 have es : ∀ {s t : Sec} {K : Bool → Prop}, (optK (aggC (.agg s.enc)) fun xs => optK (aggC (.agg t.enc)) fun ys => eqFs xs ys ((yC 0 64).map fun i => (i, .int .u8)) K) = K (decide (s = t)) := eqA_sec
 unfold c4l0 hp4'
 simp -implicitDefEqProofs only [rX,↓rY,ofConst,↓reduceIte,Nat.reduceEqDiff,Nat.reduceAdd,dkV,dkC,dkT_app,n61,n62,hT,g16 hT,st16 hT,hO,g16 hO,st16 hO,hT2,g16 hT2,st16 hT2,opT_app]
 simp only [br, decide_eq_true_eq, decide_eq_false_iff_not]
 refine ⟨fun hlt => ?_, fun hge => s8 rfl rfl ?_⟩
 ·have hj16 : j < 16 := by omega
  have hjs : j < su.length := by rw [hJ.sl]; exact hj16
  have hjo : j < op.length := by rw [hJ.ol]; exact hj16
  show callP _ 11 _ ⟨_, hp4 S su op S2 [.dead], _⟩ _
  refine call_4b (cx := cxN Try.prog []) (args := [.i j]) (xs := [.i j]) [.dead] hJ.n16 hS2n hJ.ol rfl rfl (ok11 S2 j) (fun _ _ => ⟨⟨trivial, trivial⟩, rfl, trivial⟩) rfl ?_ ?_
  ·simp [killE, kill, kills, yE, hS2n]
  rintro r S3 _ ⟨hS3, rfl⟩
  subst S3
  refine ⟨rd_ren, ?_⟩
  unfold hp4
  obtain ⟨hc1, hc2⟩ := hcr j hj16
  have hatj := flS_at hjs
  generalize su.getD j zS = sj at hatj hc1 hc2
  have hjk64 : (j * 64 + 64 ≤ 1024) = True := eq_true (by omega)
  simp -implicitDefEqProofs only [rX,↓rY,ofConst,cells?,splice,↓reduceIte,Nat.reduceEqDiff,Nat.reduceAdd,freshP,resP,tupV,leE,leH,leB,leV,leVs,keepP,liveP,wfE,wfB,wfV,wfL,arr64,sec_len,sec_take,sec_C,dkV,dkC,sec_drop,n61,n62,hT,g16 hT,st16 hT,hO,g16 hO,st16 hO,hT2,g16 hT2,st16 hT2,yL,yM,hF,hatj,hjk64,es]
  have hgo : op.getD j [] = op[j] := by rw [yB, yJ hjo]; rfl
  have hw := hp4_wf' (S := S) (S2 := S2) (su := su) (op := op) hJ.n16 hJ.ol
  refine ⟨⟨by omega, by omega⟩, ?_⟩
  rw [yV, opVs_get hjo, ko]
  by_cases h0 : op.getD j [] = []
  ·have hl0 : op[j].length = 0 := by rw [← hgo, h0]; rfl
   rw [hc1 h0, hl0]
   have hbz : (((0 : Nat) : Int) == 0) = true := rfl
   have hsu : decide (sj = sj) = true := by simp
   simp -implicitDefEqProofs only [rX,↓rY,hbz,hb0,decide_true]
   exact fun _ => ⟨⟨by omega, by omega⟩, by simp only [lo, Fx.hi]; omega, j + 1, ⟨by omega, by omega⟩, by omega, ⟨leVs_rf _, leVs_rf _, hp4_rest⟩, hw.1, hw.2.1, hw.2.2.2.1, hw.2.2.2.2⟩
  ·have hl0 : 0 < op[j].length := by rw [← hgo]; exact yW.2 h0
   have hbz : (((op[j].length : Nat) : Int) == 0) = false := by rw [beq_eq_false_iff_ne]; omega
   have hl1 : op[j].length ≤ 1000 := by
    have h5 := hJ.ln j
    rw [hJ.oq j hj16, hgo] at h5
    omega
   simp -implicitDefEqProofs only [rX,↓rY,hbz]
   refine fun _ => ⟨⟨by omega, by omega⟩, ⟨by omega, by omega⟩, ?_⟩
   refine call_is (ok19 (S2.D.rd j).1 sj (S2.D.rd j).2 op[j] (yW.1 hl0) hl1) (poss_args (hp4_get (S := S) (S2 := S2) (su := su) (op := op) (B := [.var (S2.D.rd j).1.enc]) hJ.n16 hjo)) rfl trivial ?_
   have hpo := hc2 h0
   rw [hgo] at hpo
   rw [hpo]
   simp -implicitDefEqProofs only [rX,↓rY,↓reduceIte,Nat.reduceEqDiff,Nat.reduceAdd,dkT_app,n61,hT,g16 hT,st16 hT,hO,g16 hO,st16 hO,hT2,g16 hT2,st16 hT2,opT_app]
   show callP _ 11 _ ⟨_, hp4 S su op S2 [.var (S2.D.rd j).1.enc, .dead], _⟩ _
   refine call_4a (cx := cxN Try.prog []) (args := [.i j]) (xs := [.i j]) [.var (S2.D.rd j).1.enc, .dead] hJ.n16 hS2n hJ.ol rfl rfl (ok11 S j) (fun _ _ => ⟨⟨trivial, trivial⟩, rfl, trivial⟩) ?_ ?_ ?_
   ·simp only [yA, yK, killB, sec_kill]
   ·simp [killE, kill, kills, yE, hJ.n16, sec_kill]
    omega
   rintro r S3 _ ⟨hS3, rfl⟩
   subst S3
   have hrS : S.D.rd j = (lastS op[j], 0) := by
    unfold Dk.rd
    rw [if_neg (by rw [hJ.chk ⟨by omega, by omega⟩]; decide), Int.toNat_natCast, hJ.oq j hj16, hgo]
    unfold lastS
    cases hl : op[j].getLast? with
    | none => exact absurd (List.getLast?_eq_none_iff.1 hl) (yW.1 hl0)
    | some y => rfl
   refine ⟨rd_ren, ?_⟩
   rw [hrS]
   have hgT : (hp4 S su op S2 [.var (S2.D.rd j).1.enc, .var (lastS op[j]).enc])[28 + j]? = some (.arr 64 (op[j].map Sec.enc)) := hp4_get hJ.n16 hjo
   unfold hp4 at hgT ⊢
   simp -implicitDefEqProofs only [rX,↓rY,ofConst,cells?,splice,↓reduceIte,Nat.reduceEqDiff,Nat.reduceAdd,freshP,resP,tupV,leE,leH,leB,leV,leVs,keepP,liveP,wfE,wfB,wfV,wfL,arr64,sec_len,sec_take,sec_C,dkV,dkC,sec_drop,n61,n62,hT,g16 hT,st16 hT,hO,g16 hO,st16 hO,hT2,g16 hT2,st16 hT2,yL,yM,hb0]
   refine ⟨⟨by omega, by omega⟩, ?_⟩
   rw [yV, opVs_get hjo, ko]
   simp -implicitDefEqProofs only [rX,↓rY,Nat.reduceEqDiff,arrSz,Nat.reduceAdd,dkV,dkC,n61,n62] at hgT ⊢
   rw [hgT]
   have hsu : ∀ x : Sec, decide (x = x) = true := fun x => by simp
   have hll : ∀ (L : List Sec) (hx : ((L.length : Int) - 1).toNat < L.length), decide (lastS L = L[((L.length : Int) - 1).toNat]'hx) = true := fun L hx => by rw [last_get]; simp
   simp -implicitDefEqProofs only [rX,↓rY,sec_len,sec_take,es,hll]
   exact ⟨⟨by omega, by omega⟩, fun _ => ⟨by simp only [lo, Fx.hi]; omega, ⟨by omega, by omega⟩, by omega, by simp only [lo, Fx.hi]; omega, j + 1, ⟨by omega, by omega⟩, by omega, ⟨leVs_rf _, leVs_rf _, hp4_rest⟩, hw.1, hw.2.1, hw.2.2.2.1, hw.2.2.2.2⟩⟩
 ·simp -implicitDefEqProofs only [rX,↓reduceIte,resP,tupV,wfV]
theorem fn_of {f : FuncId} {xs : List V} (h : Ok f xs (Is (.b true))) : Fn Try.prog f xs [] [] (fun r _ => r = .b true) := by
 have h := h.2
 intro ρ X w vals h1 h2
 refine Calls.mono (h ρ X w vals h1 h2) ?_
 rintro e w' ⟨val, r, h', ρ', q1, q2, q3, q4, q5, q6⟩
 exact ⟨val, r, h', ρ', q1, ⟨q2.1.1, q2.2⟩, q3, q4, q5, q6⟩
theorem ex_map {α β : Type} {g : α → β} : ∀ {els : List β}, (∀ x ∈ els, ∃ a, x = g a) → ∃ l : List α, els = l.map g
 | [], _ => ⟨[], rfl⟩
 | x :: r, h => by
  obtain ⟨a, rfl⟩ := h x vF
  obtain ⟨l, rfl⟩ := ex_map (els := r) fun y hy => h y (vG _ hy)
  exact ⟨a :: l, rfl⟩
abbrev tOp : Fx.T := .st [.int .i64, .int .i64, .int .i64]
abbrev tOps : Fx.T := .sl 3 tOp
abbrev tLi : Fx.T := .sl 1 (.int .i64)
theorem wf_op {x : List V} (h : WfT tOp x) : ∃ a : Op, x = a.enc := by
 simp only [WfT, WfTs] at h
 obtain ⟨_, _, rfl, ⟨a, rfl, _⟩, _, _, rfl, ⟨b, rfl, _⟩, _, _, rfl, ⟨c, rfl, _⟩, rfl⟩ := h
 exact ⟨⟨a, b, c⟩, rfl⟩
theorem wf_ops {x : V} (h : WfV tOps x) : ∃ l : List Op, x = .ro 3 (l.map Op.enc) := by
 simp only [WfV] at h
 rw [WfT] at h
 obtain ⟨els, h1, _, he⟩ := h
 obtain ⟨l, rfl⟩ := ex_map (fun x hx => wf_op (he x hx))
 exact ⟨l, by simpa using h1⟩
theorem wf_li {x : V} (h : WfV tLi x) : ∃ l : List Int, x = .ro 1 (l.map encI) := by
 simp only [WfV] at h
 rw [WfT] at h
 obtain ⟨els, h1, _, he⟩ := h
 obtain ⟨l, rfl⟩ := ex_map (g := encI) (fun x hx => by
  have := he x hx
  simp only [WfT] at this
  obtain ⟨n, rfl, _⟩ := this
  exact ⟨n, rfl⟩)
 exact ⟨l, by simpa using h1⟩
theorem wf_u8 {x : V} (h : WfV (.int .u8) x) : ∃ n : Nat, x = .v (.int .u8 n) ∧ n ≤ 255 := by
 simp only [WfV, WfT] at h
 obtain ⟨n, h, h1, h2⟩ := h
 refine ⟨n.toNat, ?_, ?_⟩
 ·have h3 : ((n.toNat : Nat) : Int) = n := by simp only [lo] at h1; omega
  rw [h3]; simpa using h
 ·simp only [hi] at h2; omega
theorem fn4 : ∀ xs, WfA [tOps, .int .u8, tLi] xs → Fn Try.prog 4 xs [] [] (fun r _ => r = .b true) := by
 intro xs h
 obtain ⟨x1, _, rfl, h1, h⟩ := h
 obtain ⟨x2, _, rfl, h2, h⟩ := h
 obtain ⟨x3, _, rfl, h3, h⟩ := h
 obtain rfl : _ = [] := h
 obtain ⟨l, rfl⟩ := wf_ops h1
 obtain ⟨n, rfl, hn⟩ := wf_u8 h2
 obtain ⟨keep, rfl⟩ := wf_li h3
 exact fn_of (ok4 l n hn keep)
end Go.Fx.D
