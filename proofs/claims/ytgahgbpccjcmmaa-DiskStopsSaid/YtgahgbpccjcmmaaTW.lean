import Derived.Test.YtgahgbpccjcmmaaT14b
import Derived.Test.YtgahgbpccjcmmaaDSan
import Derived.Test.YtgahgbpccjcmmaaFxRun
set_option linter.unusedVariables false
set_option linter.unusedSimpArgs false
set_option linter.unusedSectionVars false
open List renaming getElem?_cons_succ → yA, mem_range'_1 → yB, set_cons_succ → yC, range' → yD, map_cons → yE, append_nil → yF, map_map → yG, map_congr_left → yH, getD_eq_getElem?_getD → yI, mem_map_of_mem → yJ, mem_map → yK, getElem?_replicate → yL, getLast?_eq_none_iff → yM, mem_cons_of_mem → yN, mem_iff_getElem → yO, nodup_iff_pairwise_ne → yP, length_singleton → yR
open List.Nodup renaming length_le_of_subset → yQ
namespace Go.Fx.D
open Go Go.Fx Go.Proofs
set_option maxRecDepth 20000
theorem san8 : Ok 8 [] (Is (.b true)) := san
theorem s8 {cx : Cx} {e : Env} {h : List Blk} {b : Nat} {K : V → St → Prop} : cx.C = C0 Try.prog → cx.fx = [] → K (.b true) ⟨e, h, b⟩ → callP cx 8 [] ⟨e, h, b⟩ K := by
 intro hc hf hk
 exact call_is (by rw [hc]; exact san8) (by simp [lendsOk, lends, wkL]) rfl (by rw [hf]; trivial) hk
structure Op where
 kind : Int
 a : Int
 b : Int
 deriving Inhabited
def Op.enc (x : Op) : List V := [.i x.kind, .i x.a, .i x.b]
theorem opn_len (x : Op) : x.enc.length = 3 := rfl
theorem opn_take (x : Op) : List.take 3 x.enc = x.enc := rfl
theorem opn_0 (x : Op) : x.enc[0]? = some (.i x.kind) := rfl
theorem opn_1 (x : Op) : x.enc[1]? = some (.i x.a) := rfl
theorem opn_2 (x : Op) : x.enc[2]? = some (.i x.b) := rfl
theorem opn_isC (x : Op) : x.enc.all isC = true := rfl
theorem g16 {T X : List Blk} {j : Nat} (h : T.length = 16) : (T ++ X)[j + 16]? = X[j]? := by
 rw [List.getElem?_append_right (by omega)]; congr 1; omega
theorem st16 {T X : List Blk} {j : Nat} {B : Blk} (h : T.length = 16) : (T ++ X).set (j + 16) B = T ++ X.set j B := by
 rw [List.set_append_right _ _ (by omega)]; congr 2; omega
theorem call_3 {cx : Cx} {f : FuncId} {e : Env} {b : Nat} {K : V → St → Prop} {B : List Blk} {S : MS} {args xs : List V} {Q : V → MS → Prop} (hC : cx.C f (.ptr 0 0 0 :: xs) (S.bs 0) (yD 3 S.n) (QD S.n Q))
  (ha : ∀ (H : List Blk) (g : Nat → Option Nat), lendsOk H g args ∧ wkL xs (lends H g args)) (hbn : cx.bn = []) (hfx : cx.fx = [])
  (hB : B.map (killB (yD 6 S.n)) = B) (hE : killE (yD 6 S.n) e = e)
  (h3 : ∀ (r : V) (S' : MS), S'.n = S.n → Q r S' → (∀ g, ren g r = r) ∧ K r ⟨e, .dead :: .dead :: .dead :: dkV 3 S'.D :: dkC S'.D :: .map (ents 3 S'.D S'.L) S'.c :: (dkT S'.D ++ B), b⟩) : callP cx f (.ptr 3 0 0 :: args) ⟨e, .dead :: .dead :: .dead :: dkV 3 S.D :: dkC S.D :: .map (ents 3 S.D S.L) S.c :: (dkT S.D ++ B), b⟩ K := by
 refine call_dk [.dead, .dead, .dead] B S args xs Q hC (ha _ _) (by rw [hbn]; simp) (by rw [hfx]; simp) rfl hB hE fun r S' h1 h2 => ?_
 obtain ⟨g1, g2⟩ := h3 r S' h1 h2
 exact ⟨g1, by rw [hfx]; trivial, g2⟩
theorem call_3z {cx : Cx} {f : FuncId} {e : Env} {b : Nat} {K : V → St → Prop} {S : MS} {args xs : List V} {Q : V → MS → Prop} (hC : cx.C f (.ptr 0 0 0 :: xs) (S.bs 0) (yD 3 S.n) (QD S.n Q))
  (ha : ∀ (H : List Blk) (g : Nat → Option Nat), lendsOk H g args ∧ wkL xs (lends H g args)) (hbn : cx.bn = []) (hfx : cx.fx = []) (hE : killE (yD 6 S.n) e = e)
  (h3 : ∀ (r : V) (S' : MS), S'.n = S.n → Q r S' → (∀ g, ren g r = r) ∧ K r ⟨e, .dead :: .dead :: .dead :: dkV 3 S'.D :: dkC S'.D :: .map (ents 3 S'.D S'.L) S'.c :: dkT S'.D, b⟩) : callP cx f (.ptr 3 0 0 :: args) ⟨e, .dead :: .dead :: .dead :: dkV 3 S.D :: dkC S.D :: .map (ents 3 S.D S.L) S.c :: dkT S.D, b⟩ K := by
 have := call_3 (B := []) (b := b) (K := K) hC ha hbn hfx rfl hE fun r S' h1 h2 => by
  have := h3 r S' h1 h2
  rwa [yF]
 rwa [yF] at this
structure J5 (n i : Nat) (S : MS) (su no : SM) : Prop where
 n16 : S.n = 16
 st : S.D.steps = min i n
 af : S.D.after = (n : Int) - (min i n : Nat)
 dd : S.D.dead = decide (n < i)
 cl : ∀ k, k < 16 → S.D.cells.getD k zC = ⟨(su.get k).getD zS, false⟩
 op : ∀ k, k < 16 → (S.D.op k).getLast? = no.get k
 ln : ∀ k, (S.D.op k).length ≤ i
 nk : ∀ k s, no.get k = some s → k < 16
theorem J5.chk {n i : Nat} {S : MS} {su no : SM} (h : J5 n i S su no) {k : Int} (hk : 0 ≤ k ∧ k < 16) : S.D.chk k = if n < i then 130 else 0 := by
 have hn : S.D.cells.length = 16 := h.n16
 unfold Dk.chk
 rw [h.dd]
 by_cases e : n < i
 ·rw [if_pos (by simpa using e), if_pos e]
 ·rw [if_neg (by simpa using e), if_neg (by show ¬ (k < 0 ∨ (S.D.cells.length : Int) ≤ k); rw [hn]; omega), if_neg e]
theorem J5.stepE {n i : Nat} {S : MS} {su no : SM} (h : J5 n i S su no) : S.D.stepE = if i < n then 0 else 130 := by
 unfold Dk.stepE
 rw [h.af]
 by_cases e : i < n
 ·rw [if_pos e, if_neg (by omega)]
 ·rw [if_neg e, if_pos (by omega)]
theorem J5.syE {n i : Nat} {S : MS} {su no : SM} (h : J5 n i S su no) : S.D.syE = if i < n then 0 else 130 := by
 unfold Dk.syE
 rw [h.chk (k := 0) ⟨by omega, by omega⟩, h.stepE]
 by_cases e : n < i
 ·rw [if_pos e, if_pos (by decide), if_neg (by omega)]
 ·rw [if_neg e, if_neg (by decide)]
theorem J5.wrE {n i : Nat} {S : MS} {su no : SM} (h : J5 n i S su no) {k : Int} (hk : 0 ≤ k ∧ k < 16) : S.D.wrE k = if i < n then 0 else 130 := by
 unfold Dk.wrE
 rw [h.chk hk, h.stepE]
 by_cases e : n < i
 ·rw [if_pos e, if_pos (by decide), if_neg (by omega)]
 ·rw [if_neg e, if_neg (by decide)]
theorem J5.stepD {n i : Nat} {S : MS} {su no : SM} (h : J5 n i S su no) : (i < n → S.D.stepD = { S.D with steps := i + 1, after := (n : Int) - ((i + 1 : Nat) : Int) }) ∧ (n ≤ i → n = i → S.D.stepD = { S.D with dead := true }) := by
 have ha := h.af
 have hs := h.st
 constructor
 ·intro e
  have h1 : S.D.after = (n : Int) - (i : Int) := by rw [ha]; omega
  have h2 : S.D.steps = i := by rw [hs]; omega
  unfold Dk.stepD
  rw [if_neg (by rw [h1]; omega), if_pos (by rw [h1]; omega), h1, h2]
  congr 1
  omega
 ·intro e1 e2
  unfold Dk.stepD
  rw [if_pos (by rw [ha]; omega)]
theorem J5.rd2 {n i : Nat} {S : MS} {su no : SM} (h : J5 n i S su no) : (S.D.rd 3).2 = if n < i then 130 else 0 := by
 have hc := h.chk (k := 3) ⟨by omega, by omega⟩
 unfold Dk.rd
 by_cases e : n < i
 ·rw [if_pos e] at hc ⊢
  rw [if_pos (by rw [hc]; decide), hc]
 ·rw [if_neg e] at hc ⊢
  rw [if_neg (by rw [hc]; decide)]
  have h3 := h.cl 3 (by omega)
  show (match (S.D.op 3).getLast? with | some s => (s, (0 : Int)) | none => if (S.D.cells.getD 3 zC).bad then (zS, 131) else ((S.D.cells.getD 3 zC).s, 0)).2 = 0
  rw [h3]
  cases (S.D.op 3).getLast? <;> rfl
theorem J5.no_more {n i : Nat} {S S' : MS} {su no : SM} (h : J5 n i S su no) (e : n ≤ i) (hD : S'.D = if n < i then S.D else S.D.stepD) : J5 n (i + 1) S' su no := by
 have hk : S'.D.cells = S.D.cells ∧ S'.D.opn = S.D.opn ∧ S'.D.steps = S.D.steps ∧ S'.D.after = S.D.after ∧ S'.D.dead = true := by
  rw [hD]
  by_cases e1 : n < i
  ·rw [if_pos e1]
   exact ⟨rfl, rfl, rfl, rfl, by rw [h.dd]; simpa using e1⟩
  ·rw [if_neg e1, h.stepD.2 e (by omega)]
   exact ⟨rfl, rfl, rfl, rfl, rfl⟩
 obtain ⟨k1, k2, k3, k4, k5⟩ := hk
 have hop : ∀ k, S'.D.op k = S.D.op k := fun k => by simp only [Dk.op, k2]
 refine ⟨by show S'.D.cells.length = 16; rw [k1]; exact h.n16, by rw [k3, h.st]; omega, by rw [k4, h.af]; omega, by rw [k5]; symm; simp; omega, fun k hk => by rw [k1]; exact h.cl k hk, fun k hk => by rw [hop]; exact h.op k hk, fun k => by rw [hop]; exact Nat.le_succ_of_le (h.ln k), h.nk⟩
theorem J5.sync {n i : Nat} {S S' : MS} {su su' no : SM} (h : J5 n i S su no) (e : i < n) (hD : S'.D = S.D.stepD.allD) (hsu : ∀ k, su'.get k = (no.get k).or (su.get k)) : J5 n (i + 1) S' su' SM.nil := by
 have hn : S.D.cells.length = 16 := h.n16
 rw [h.stepD.1 e] at hD
 have hop : ∀ k, S'.D.op k = [] := fun k => by
  rw [hD]
  show (List.replicate S.D.cells.length ([] : List Sec)).getD k [] = []
  rw [yI, yL]
  split <;> rfl
 refine ⟨by show S'.D.cells.length = 16; rw [hD]; simp [Dk.allD, hn], by rw [hD]; show i + 1 = _; omega, by rw [hD]; show (n : Int) - ((i + 1 : Nat) : Int) = _; omega, by rw [hD]; show S.D.dead = _; rw [h.dd]; simp; omega, fun k hk => ?_, fun k hk => by rw [hop]; rfl, fun k => by rw [hop]; exact Nat.zero_le _, fun k s hk => by simp [SM.get, SM.nil, getL] at hk⟩
 rw [hD]
 show ((List.range S.D.cells.length).map fun j => if S.D.op j = [] then S.D.cells.getD j zC else ⟨lastS (S.D.op j), false⟩).getD k zC = _
 rw [yI, List.getElem?_map, List.getElem?_range (by omega)]
 show (if S.D.op k = [] then S.D.cells.getD k zC else ⟨lastS (S.D.op k), false⟩) = _
 rw [hsu, ← h.op k hk]
 by_cases ho : S.D.op k = []
 ·rw [if_pos ho, h.cl k hk, ho]; rfl
 ·rw [if_neg ho, lastS]
  cases hl : (S.D.op k).getLast? with
  | none => exact absurd (yM.1 hl) ho
  | some s => rfl
theorem J5.write {n i : Nat} {S S' : MS} {su no no' : SM} (h : J5 n i S su no) (e : i < n) {k : Nat} (hk : k < 16) {s : Sec} (hD : S'.D = S.D.stepD.addD k s) (hno : ∀ j, no'.get j = if j = k then some s else no.get j) : J5 n (i + 1) S' su no' := by
 have hn : S.D.cells.length = 16 := h.n16
 have hko : k < S.D.opn.length := by rw [S.ok.len]; show k < S.D.cells.length; omega
 rw [h.stepD.1 e] at hD
 have hop : ∀ j, S'.D.op j = if j = k then S.D.op k ++ [s] else S.D.op j := fun j => by
  rw [hD]
  exact add_op (D := { S.D with steps := i + 1, after := (n : Int) - ((i + 1 : Nat) : Int) }) hko
 refine ⟨by show S'.D.cells.length = 16; rw [hD]; exact hn, by rw [hD]; show i + 1 = _; omega, by rw [hD]; show (n : Int) - ((i + 1 : Nat) : Int) = _; omega, by rw [hD]; show S.D.dead = _; rw [h.dd]; simp; omega, fun j hj => by rw [hD]; exact h.cl j hj, fun j hj => ?_, fun j => ?_, fun j x hj => ?_⟩
 ·rw [hop, hno]
  by_cases ej : j = k
  ·rw [if_pos ej, if_pos ej]; simp
  ·rw [if_neg ej, if_neg ej]; exact h.op j hj
 ·rw [hop]
  split
  ·have := h.ln k; simp; omega
  ·have := h.ln j; omega
 ·rw [hno] at hj
  split at hj
  ·omega
  ·exact h.nk j x hj
theorem sm_kill {M : SM} {K : List Nat} : killB K M.blk = M.blk := by
 simp only [SM.blk, killB, smE, yG]
 congr 1
 refine yH fun e _ => ?_
 simp only [Function.comp, kill, sec_kill]
theorem sm_kill' {L : List (Nat × Sec × Nat)} {c : Nat} {K : List Nat} : killB K (.map (smE L) c) = .map (smE L) c := by
 simp only [killB, smE, yG]
 congr 1
 refine yH fun e _ => ?_
 simp only [Function.comp, kill, sec_kill]
theorem opn_kill {x : Op} {K : List Nat} : kills K x.enc = x.enc := rfl
def envS (l : List Op) (n : Nat) (keep : List Int) : Env := [(7, .ptr 3 0 0), (8, .mp 22), (9, .mp 23), (0, .ro 3 (l.map Op.enc)), (1, .v (.int .u8 n)), (2, .ro 1 (keep.map encI))]
def hp5 (S : MS) (X : List Blk) : List Blk := .dead :: .dead :: .dead :: dkV 3 S.D :: dkC S.D :: .map (ents 3 S.D S.L) S.c :: (dkT S.D ++ X)
theorem leS_5 (S : MS) {h X : List Blk} {e p : Env} {b b' : Nat} (he : leE e p) (hh : leH h (hp5 S X)) (hwe : wfE (hp5 S X) p) (hwb : wfB (hp5 S X) X) : leS [] ⟨e, h, b⟩ ⟨p, hp5 S X, b'⟩ := by
 refine ⟨he, hh, trivial, hwe, ?_⟩
 exact S.wf (p := 3) [.dead, .dead, .dead] X rfl (C := X) hwb
theorem live_5 {S : MS} {X : List Blk} {j : Nat} (hn : S.n = 16) (hX : liveP X j) : liveP (hp5 S X) (22 + j) := by
 have e : (hp5 S X)[22 + j]? = X[j]? := by
  rw [show 22 + j = (j + 16) + 6 by omega]
  exact g16 (S.T_len.trans hn)
 unfold liveP at hX ⊢
 rw [e]; exact hX
theorem sm_wf {M : SM} {H B : List Blk} (hB : wfB H B) : wfB H (M.blk :: B) := by
 refine ⟨?_, hB⟩
 have : ∀ L : List (Nat × Sec × Nat), wfL H ((smE L).map (·.2.1)) := by
  intro L
  induction L with
  | nil => trivial
  | cons x r ih => exact ⟨sec_wf, ih⟩
 exact this M.L
theorem envS_wf {l : List Op} {n : Nat} {keep : List Int} {S : MS} {su no : SM} {X : List Blk} (hn : S.n = 16) : wfE (hp5 S (su.blk :: no.blk :: X)) (envS l n keep) :=
 ⟨trivial, live_5 (j := 0) hn trivial, live_5 (j := 1) hn trivial, trivial, trivial, trivial, trivial⟩
theorem refl_leG {s p : St} (h : leS [] s p) : leG [] s p := ⟨s, .refl s, h⟩
theorem set_5 {S : MS} {X : List Blk} {m : Nat} {B : Blk} (hn : S.n = 16) : (hp5 S X).set (22 + m) B = hp5 S (X.set m B) := by
 rw [show 22 + m = (m + 16) + 6 by omega]
 show .dead :: .dead :: .dead :: dkV 3 S.D :: dkC S.D :: .map (ents 3 S.D S.L) S.c :: (dkT S.D ++ X).set (m + 16) B = _
 rw [st16 (S.T_len.trans hn)]; rfl
theorem get_5 {S : MS} {X : List Blk} {m : Nat} (hn : S.n = 16) : (hp5 S X)[22 + m]? = X[m]? := by
 rw [show 22 + m = (m + 16) + 6 by omega]
 exact g16 (S.T_len.trans hn)
theorem mvL_plain {l : List V} (h : ∀ x ∈ l, ∃ u, x = .v u) {i j : Nat} : mvL i j l = l := by
 induction l with
 | nil => rfl
 | cons x r ih =>
  obtain ⟨u, rfl⟩ := h x List.mem_cons_self
  simp only [mvL, mvV, ih fun y hy => h y (yN _ hy)]
theorem sm_mv {M : SM} {i j : Nat} : mvB i j M.blk = M.blk := by
 simp only [SM.blk, mvB, smE, yG]
 congr 1
 refine yH fun e _ => ?_
 simp only [Function.comp, mvV, mvL_plain sec_plain]
theorem mv_5 {S : MS} {X : List Blk} {i j : Nat} (hn : S.n = 16) (hj : 22 ≤ j) : (hp5 S X).map (mvB i j) = hp5 S (X.map (mvB i j)) := by
 have e1 : mvB i j (dkV 3 S.D) = dkV 3 S.D := by
  have n1 : (3 + 1 = j) = False := eq_false (by omega)
  have n2 : (3 + 2 = j) = False := eq_false (by omega)
  simp only [dkV, mvB, mvL, mvV, n1, n2, if_false]
 have e2 : mvB i j (.map (ents 3 S.D S.L) S.c) = .map (ents 3 S.D S.L) S.c := by
  simp only [mvB, ents, yG]
  congr 1
  refine yH fun e he => ?_
  have h1 := ((S.ok.key e.1).1 (yJ he)).1
  have h2 : e.1 < 16 := by rw [← hn]; exact h1
  simp only [Function.comp, mvV, if_neg (show ¬ (3 + 3 + e.1 = j) by omega)]
 show [mvB i j .dead, mvB i j .dead, mvB i j .dead, mvB i j (dkV 3 S.D), mvB i j (dkC S.D), mvB i j (.map (ents 3 S.D S.L) S.c)] ++ (dkT S.D ++ X).map (mvB i j) = _
 rw [List.map_append, mvB_T, e1, e2]; rfl
theorem back_5 {S : MS} {su no : SM} {x y : Blk} {e : Env} {b : Nat} {l : List Op} {n i : Nat} {keep : List Int} (hn : S.n = 16)
  (he : leE e ((44, .i i) :: (43, .i l.length) :: (42, .ro 3 (l.map Op.enc)) :: [(7, .ptr 3 0 0), (8, .mp 22), (9, .mp 26), (0, .ro 3 (l.map Op.enc)), (1, .v (.int .u8 n)), (2, .ro 1 (keep.map encI))])) :
  leG [] ⟨e, hp5 S [su.blk, no.blk, x, y, .map [] 0], b⟩ ⟨(44, .i i) :: (43, .i l.length) :: (42, .ro 3 (l.map Op.enc)) :: envS l n keep, hp5 S [su.blk, SM.nil.blk], 0⟩ := by
 refine ⟨_, .le (p := ⟨_, hp5 S [su.blk, .dead, .dead, .dead, .map [] 0], 0⟩) (leS_5 S he ?_ ?_ (sm_wf ⟨trivial, trivial⟩)) (.mv 23 26 (.map [] 0) (by decide) ?_ ?_ (by simp) (.refl _)), ?_⟩
 ·refine ⟨trivial, trivial, trivial, leB_refl _, leB_refl _, leB_refl _, ?_⟩
  have : ∀ T : List Blk, leH (T ++ [su.blk, no.blk, x, y, .map [] 0]) (T ++ [su.blk, .dead, .dead, .dead, .map [] 0]) := by
   intro T
   induction T with
   | nil => exact ⟨leB_refl _, trivial, trivial, trivial, leB_refl _, trivial⟩
   | cons a r ih => exact ⟨leB_refl _, ih⟩
  exact this _
 ·exact ⟨trivial, trivial, trivial, trivial, live_5 (j := 0) hn trivial, live_5 (j := 4) hn trivial, trivial, trivial, trivial, trivial⟩
 ·exact get_5 (m := 1) hn
 ·exact get_5 (m := 4) hn
 ·show leS [] ⟨mvE 23 26 _, ((((hp5 S [su.blk, .dead, .dead, .dead, .map [] 0]).map (mvB 23 26)).set 23 (.map [] 0)).set 26 .dead), 0⟩ _
  rw [mv_5 hn (by decide)]
  have e1 : [su.blk, .dead, .dead, .dead, .map [] 0].map (mvB 23 26) = [su.blk, .dead, .dead, .dead, .map [] 0] := by
   simp only [yE, List.map_nil, sm_mv]; rfl
  rw [e1, show 23 = 22 + 1 from rfl, set_5 hn, show 26 = 22 + 4 from rfl, set_5 hn]
  refine leS_5 S ⟨rfl, rfl, rfl, rfl, rfl, rfl, rfl, rfl, rfl, trivial⟩ ?_ ⟨trivial, trivial, trivial, envS_wf hn⟩ (sm_wf (sm_wf trivial))
  refine ⟨trivial, trivial, trivial, leB_refl _, leB_refl _, leB_refl _, ?_⟩
  exact leH_2
theorem leH_4 {a b c d : Blk} : ∀ {T X : List Blk}, leH (T ++ a :: b :: c :: d :: X) (T ++ [a, b, c, d])
 | [], X => ⟨leB_refl a, leB_refl b, leB_refl c, leB_refl d, by cases X <;> trivial⟩
 | x :: T, X => ⟨leB_refl x, leH_4⟩
theorem nd_inj {α β : Type} {f : α → β} {L : List α} (h : (L.map f).Nodup) {a b : α} (ha : a ∈ L) (hb : b ∈ L) (e : f a = f b) : a = b := by
 obtain ⟨i, hi, hie⟩ := yO.1 ha
 obtain ⟨j, hj, hje⟩ := yO.1 hb
 have := (List.getElem_inj (xs := L.map f) (i := i) (j := j) (h₀ := by simpa using hi) (h₁ := by simpa using hj) h).1 (by simp [hie, hje, e])
 subst this
 rw [← hie, ← hje]
theorem sub_nod {α β : Type} {f : α → β} {L E : List α} (h : (L.map f).Nodup) (hE : E.Nodup) (hs : ∀ e ∈ E, e ∈ L) : (E.map f).Nodup := by
 rw [yP, List.pairwise_map]
 refine List.Pairwise.imp_of_mem ?_ (yP.1 hE)
 intro a b ha hb hab he
 exact hab (nd_inj h (hs a ha) (hs b hb) he)
theorem smE_st {L : List (Nat × Sec × Nat)} : (smE L).map (·.2.2) = L.map (·.2.2) := by simp [smE]
theorem smE_mem {L : List (Nat × Sec × Nat)} {e : Value × V × Nat} (h : e ∈ smE L) : ∃ x ∈ L, e = (.int .i64 x.1, .agg x.2.1.enc, x.2.2) := by
 unfold smE at h
 obtain ⟨x, hx, rfl⟩ := yK.1 h
 exact ⟨x, hx, rfl⟩
theorem all_get {M : SM} {E : List (Nat × Sec × Nat)} (h1 : E.Nodup) (h2 : ∀ e ∈ E, e ∈ M.L) (h3 : ∀ e ∈ M.L, e ∈ E) (k : Nat) : getL k E = M.get k := by
 have hk := sub_nod M.nod h1 h2
 unfold SM.get
 cases hg : getL k M.L with
 | some s =>
  obtain ⟨c, hc⟩ := getL_of hg
  exact getL_mem hk (h3 _ hc)
 | none =>
  cases hE : getL k E with
  | none => rfl
  | some s =>
   obtain ⟨c, hc⟩ := getL_of hE
   rw [getL_mem M.nod (h2 _ hc)] at hg; cases hg
def hpF (S2 : MS) (su no : SM) : List Blk := .dead :: .dead :: .dead :: .dead :: .dead :: .dead :: .dead :: .dead :: .dead :: .dead :: .dead :: .dead :: .dead :: .dead :: .dead :: .dead :: .dead :: .dead :: .dead :: .dead :: .dead :: .dead :: su.blk :: no.blk :: .dead :: .dead :: .dead :: .dead :: S2.bs 28
theorem hpF_wf {S2 : MS} {su no : SM} : wfB (hpF S2 su no) (hpF S2 su no) := by
 have h1 := S2.wf (p := 28) [.dead, .dead, .dead, .dead, .dead, .dead, .dead, .dead, .dead, .dead, .dead, .dead, .dead, .dead, .dead, .dead, .dead, .dead, .dead, .dead, .dead, .dead, su.blk, no.blk, .dead, .dead, .dead, .dead] [] rfl (C := []) trivial
 rw [yF] at h1
 have h2 : wfB (hpF S2 su no) (su.blk :: no.blk :: .dead :: .dead :: .dead :: .dead :: S2.bs 28) := sm_wf (sm_wf h1)
 exact h2
theorem ok5 (l : List Op) (n : Nat) (hn : n ≤ 255) (keep : List Int) : Ok 5 [.ro 3 (l.map Op.enc), .v (.int .u8 n), .ro 1 (keep.map encI)] (Is (.b true)) := by
 refine ok_of lw5 (by simp) ?_
 unfold c5
 simp -implicitDefEqProofs only [rX,↓rY,ofConst,↓reduceIte,Nat.reduceEqDiff,Nat.reduceAdd,reduceCtorEq,cxN,args0]
 simp only [br, decide_eq_true_eq, decide_eq_false_iff_not]
 have early : ∀ (e : Env) (h : List Blk) (b : Nat) (K : V → St → Prop), K (.b true) ⟨e, h, b⟩ → callP (cxN Try.prog []) 8 [] ⟨e, h, b⟩ K := fun e h b K hk => s8 rfl rfl hk
 refine fun hm => ⟨fun h1 => early _ _ _ _ ?_, fun h1 hm2 => ⟨fun h2 => early _ _ _ _ ?_, fun h2 => ?_⟩⟩
 ·simp -implicitDefEqProofs only [rX,↓reduceIte,resP,tupV,wfV]
 ·simp -implicitDefEqProofs only [rX,↓reduceIte,resP,tupV,wfV]
 refine call_isA [.i (16 : Int)] (.ptr 3 0 0) (.ptr 3 0 0) (.dead :: .dead :: .dead :: (newS 16).bs 3) (.dead :: .dead :: .dead :: (newS 16).bs 3) (okN_post (ok7 16) fun r h hr => ?_) ⟨⟨trivial, trivial⟩, rfl, trivial⟩ rfl ?_ trivial ?_
 ·rw [rN, if_neg (by omega)] at hr
  exact hr
 ·have : ((newS 16).bs 3).map (renB fun j => some (([] : List Blk).length + j)) = (newS 16).bs 3 := dk_ren (newS 16).ok fun j hj => by simp
  rw [yE, yE, yE, this]; rfl
 have h0 : (newS 16).bs 3 = dkV 3 (newS 16).D :: dkC (newS 16).D :: .map (ents 3 (newS 16).D (newS 16).L) (newS 16).c :: (dkT (newS 16).D ++ []) := by rw [yF]; rfl
 rw [h0]
 have hT0 : (dkT (newS 16).D).length = 16 := (newS 16).T_len
 simp -implicitDefEqProofs only [rX,↓rY,ofConst,↓reduceIte,Nat.reduceEqDiff,Nat.reduceAdd,reduceCtorEq,resP,tupV,wfV,dkV,dkC]
 refine ⟨by simp only [lo, hi]; omega, ?_⟩
 refine call_3z (S := newS 16) (ok20 (newS 16) n) (fun _ _ => ⟨⟨trivial, trivial⟩, rfl, trivial⟩) rfl rfl (by simp [killE, kill, yB]) ?_
 rintro r S1 hn1 ⟨hS1, rfl⟩
 refine ⟨fun _ => rfl, ?_⟩
 have hT1 : (dkT S1.D).length = 16 := S1.T_len.trans hn1
 simp -implicitDefEqProofs only [rX,↓rY,ofConst,↓reduceIte,Nat.reduceEqDiff,Nat.reduceAdd,reduceCtorEq,freshP,dkV,dkC,n61,n62,hT1,g16 hT1,st16 hT1]
 intro hm3
 have hJ0 : J5 n 0 S1 SM.nil SM.nil := by
  rw [hS1]
  refine ⟨newS_n, by simp [MS.set, newS, newD], ?_, by simp [MS.set, newS, newD], fun k hk => ?_, fun k hk => ?_, fun k => ?_, fun k s h => ?_⟩
  ·show max (n : Int) (-1) = _; omega
  ·show (List.replicate 16 zC).getD k zC = _
   rw [yI, yL, if_pos hk]; rfl
  ·have : ((newS 16).set (newS 16).D.steps (max (n : Int) (-1)) (newS 16).D.dead).D.op k = [] := new_op
   rw [this]; rfl
  ·have : ((newS 16).set (newS 16).D.steps (max (n : Int) (-1)) (newS 16).D.dead).D.op k = [] := new_op
   rw [this]; exact Nat.le_refl _
  ·simp [SM.get, SM.nil, getL] at h
 refine loopP_back (fun g : Nat × MS × SM × SM => (⟨(44, .i g.1) :: (43, .i l.length) :: (42, .ro 3 (l.map Op.enc)) :: envS l n keep, hp5 g.2.1 [g.2.2.1.blk, g.2.2.2.blk], 0⟩ : St)) (fun g => g.1 ≤ l.length ∧ J5 n g.1 g.2.1 g.2.2.1 g.2.2.2) (fun g => l.length - g.1) (0, S1, SM.nil, SM.nil) ⟨Nat.zero_le _, hJ0⟩ ?_ ?_
 ·refine refl_leG (leS_5 S1 (X := [SM.nil.blk, SM.nil.blk]) ⟨rfl, rfl, rfl, rfl, rfl, rfl, rfl, rfl, rfl, trivial⟩ (leH_refl _) ⟨trivial, trivial, trivial, envS_wf hJ0.n16⟩ (sm_wf (sm_wf trivial)))
 rintro ⟨i, S, su, no⟩ ⟨hi, hJ⟩
 have hi : i ≤ l.length := hi
 have hJ : J5 n i S su no := hJ
 have hT : (dkT S.D).length = 16 := S.T_len.trans hJ.n16
 unfold c5l0 hp5 envS SM.blk
 simp -implicitDefEqProofs only [rX,↓rY,ofConst,cells?,splice,↓reduceIte,Nat.reduceEqDiff,Nat.reduceAdd,freshP,dkV,dkC,dkT_app,n61,n62,hT,g16 hT,st16 hT,opn_len,opn_take,opn_0,opn_1,opn_2,opn_isC]
 simp only [br, decide_eq_true_eq, decide_eq_false_iff_not, beq_iff_eq, beq_eq_false_iff_ne]
 refine ⟨fun h => ?_, fun h => ?_⟩
 ·have hil : i < l.length := by omega
  have hm1 : -16 < l[i].a.tmod 16 ∧ l[i].a.tmod 16 < 16 := ⟨Int.lt_tmod_of_pos _ (by decide), Int.tmod_lt_of_pos _ (by decide)⟩
  have hm2 : (l[i].a.tmod 16 + 16).tmod 16 = (l[i].a.tmod 16 + 16) % 16 := Int.tmod_eq_emod_of_nonneg (by omega)
  obtain ⟨k, hk⟩ : ∃ k : Nat, (l[i].a.tmod 16 + 16).tmod 16 = k := ⟨((l[i].a.tmod 16 + 16) % 16).toNat, by rw [hm2]; omega⟩
  have hk16 : k < 16 := by omega
  simp only [hk]
  have hst : S.D.steps ≤ 100000 := by rw [hJ.st]; omega
  have haf : -1 ≤ S.D.after ∧ S.D.after ≤ 9223372036854775807 := by rw [hJ.af]; omega
  refine ⟨⟨by omega, h⟩, hil, by decide, by simp only [lo, Fx.hi]; omega, by decide, by decide, fun hk0 => ?_, fun hk0 => ?_⟩
  ·refine call_3 (S := S) (ok21 S hst haf) (fun _ _ => ⟨trivial, trivial⟩) rfl rfl ?_ ?_ ?_
   ·show [killB _ _, killB _ _, killB _ _] = _
    rw [sm_kill', sm_kill']; rfl
   ·simp [killE, kill, yB, hJ.n16, opn_kill]
   rintro r S2 hn2 ⟨hD2, rfl⟩
   have hT2 : (dkT S2.D).length = 16 := S2.T_len.trans (hn2.trans hJ.n16)
   refine ⟨fun _ => rfl, ?_⟩
   rw [hJ.syE]
   by_cases hin : i < n
   ·rw [if_pos hin]
    have hb0 : ((i : Int) < (n : Int)) = True := eq_true (by omega)
    simp -implicitDefEqProofs only [rX,↓rY,ofConst,↓reduceIte,Nat.reduceEqDiff,Nat.reduceAdd,reduceCtorEq,freshP,resP,tupV,wfV,dkV,dkC,dkT_app,n61,hT2,g16 hT2,st16 hT2,hb0,yC,yA]
    simp only [br, decide_eq_true_eq, decide_eq_false_iff_not, beq_iff_eq, beq_eq_false_iff_ne]
    refine ⟨fun _ => ?_, fun h0 => absurd rfl h0⟩
    refine loopP_intro (fun g : List (Nat × Sec × Nat) × SM => (⟨(63, .ptr 25 0 0) :: (12, .i 0) :: (10, .i i) :: (44, .i i) :: (43, .i l.length) :: (42, .ro 3 (l.map Op.enc)) :: envS l n keep, hp5 S2 [g.2.blk, no.blk, .var l[i].enc, .it (.mp 23) no.c (g.1.map (·.2.2)) no.c], 0⟩ : St)) (fun g => g.1.Nodup ∧ (∀ e ∈ g.1, e ∈ no.L) ∧ ∀ k, g.2.get k = (getL k g.1).or (su.get k)) (fun g => no.L.length - g.1.length) ([], su) ⟨List.nodup_nil, by simp, fun k => rfl⟩ ?_ ?_
    ·refine leS_5 S2 (X := [su.blk, no.blk, .var l[i].enc, .it (.mp 23) no.c [] no.c]) ⟨rfl, rfl, rfl, rfl, rfl, rfl, rfl, rfl, rfl, rfl, rfl, rfl, trivial⟩ (leH_refl _) ⟨live_5 (j := 3) (hn2.trans hJ.n16) trivial, trivial, trivial, trivial, trivial, trivial, envS_wf (hn2.trans hJ.n16)⟩ (sm_wf (sm_wf ⟨⟨trivial, trivial, trivial, trivial⟩, live_5 (j := 1) (hn2.trans hJ.n16) trivial, trivial⟩))
    rintro ⟨E, su2⟩ ⟨hE1, hE2, hE3⟩
    have hE1 : E.Nodup := hE1
    have hE2 : ∀ e ∈ E, e ∈ no.L := hE2
    have hE3 : ∀ k, su2.get k = (getL k E).or (su.get k) := hE3
    unfold c5l1 hp5 envS SM.blk
    simp -implicitDefEqProofs only [rX,↓rY,ofConst,cells?,splice,↓reduceIte,Nat.reduceEqDiff,Nat.reduceAdd,reduceCtorEq,freshP,resP,tupV,leE,leH,leB,leV,leVs,keepP,liveP,wfE,wfB,wfV,wfL,arr64,sec_len,dkV,dkC,dkT_app,n61,hT2,g16 hT2,st16 hT2,yC,yA]
    have hn16 : S2.n = 16 := hn2.trans hJ.n16
    have hD3 : S2.D = S.D.stepD.allD := by
     rw [hD2, Dk.syD, hJ.chk (k := 0) ⟨by omega, by omega⟩, hJ.stepE, if_neg (by omega), if_pos hin]
     rfl
    have hel := yQ hE1 (l₂ := no.L) (fun e he => hE2 e he)
    refine ⟨⟨?_, Nat.le_refl _⟩, fun hall => ?_, fun q hq hqn => ?_⟩
    ·rw [List.all_eq_true]
     intro q hq
     obtain ⟨x, hx, rfl⟩ := smE_mem hq
     simpa using no.clk x hx
    ·have hin2 : ∀ e ∈ no.L, e ∈ E := fun e he => by
      have h3 := List.all_eq_true.1 hall _ (yJ (f := fun e : Nat × Sec × Nat => ((.int .i64 e.1, .agg e.2.1.enc, e.2.2) : Value × V × Nat)) he)
      have h4 : e.2.2 ∈ E.map (·.2.2) := by simpa using h3
      obtain ⟨e2, h5, h6⟩ := yK.1 h4
      rw [← nd_inj no.st (hE2 e2 h5) he h6]; exact h5
     have hJ2 : J5 n (i + 1) S2 su2 SM.nil := hJ.sync hin hD3 fun k => by rw [hE3, all_get hE1 hE2 hin2]
     refine ⟨by simp only [lo, Fx.hi]; omega, fun h6 => ?_, fun h6 => ⟨fun h7 => absurd h7 (by decide), fun h7 => ⟨by simp only [lo, Fx.hi]; omega, (i + 1, S2, su2, SM.nil), ⟨⟨hil, hJ2⟩, by show l.length - (i + 1) < _; omega⟩, ?_⟩⟩⟩
     ·have : decide ((i : Int) < (n : Int)) = true := decide_eq_true (by omega)
      rw [this] at h6
      exact absurd h6 (by decide)
     ·exact back_5 hn16 (no := no) ⟨by show V.i _ = V.i _; congr 2, rfl, rfl, rfl, rfl, rfl, rfl, rfl, rfl, trivial⟩
    ·obtain ⟨x, hx, rfl⟩ := smE_mem hq
     have hfind := find_st (es := smE no.L) (by rw [smE_st]; exact no.st) hq
     have hxE : x ∉ E := fun h => by
      have h2 : (E.map (·.2.2)).contains x.2.2 = true := by
       simpa using yJ (f := fun e : Nat × Sec × Nat => e.2.2) h
      have hq2 : (E.map (·.2.2)).contains x.2.2 = false := hqn
      rw [h2] at hq2; cases hq2
     rw [List.getLast?_concat]
     simp -implicitDefEqProofs only [rX,↓rY,sec_len,sec_take,sec_C,sec_drop,hfind]
     obtain ⟨su3, hs1, hs2⟩ := su2.put x.1 x.2.1
     rw [hs2]
     have hE4 : (E ++ [x]).Nodup := by
      rw [List.nodup_append]
      refine ⟨hE1, by simp, fun a ha b hb e => ?_⟩
      simp at hb; subst hb
      exact hxE (e ▸ ha)
     have hE5 : ∀ e ∈ E ++ [x], e ∈ no.L := fun e he => by
      rcases List.mem_append.1 he with h | h
      ·exact hE2 e h
      ·simp at h; subst h; exact hx
     have hel2 := yQ hE4 (l₂ := no.L) (fun e he => hE5 e he)
     rw [List.length_append, yR] at hel2
     have hxk : x.1 ∉ E.map (·.1) := fun hm => by
      obtain ⟨e2, h5, h6⟩ := yK.1 hm
      exact hxE (nd_inj no.nod (hE2 e2 h5) hx h6 ▸ h5)
     refine ⟨(E ++ [x], su3), ⟨⟨hE4, hE5, fun k => ?_⟩, by simp only [List.length_append, yR]; omega⟩, ?_, ?_⟩
     ·obtain ⟨x1, x2, x3⟩ := x
      rw [hs1, hE3, getL_app hxk]
      by_cases ek : k = x1
      ·rw [if_pos ek, if_pos ek]; rfl
      ·rw [if_neg ek, if_neg ek]
     ·rw [List.map_append]
      exact leH_4
     ·have hw := S2.wf (p := 3) [.dead, .dead, .dead] [su3.blk, no.blk, .var l[i].enc, .it (.mp 23) no.c ((E ++ [x]).map (·.2.2)) no.c] rfl (C := [su3.blk, no.blk, .var l[i].enc, .it (.mp 23) no.c ((E ++ [x]).map (·.2.2)) no.c]) (sm_wf (sm_wf ⟨⟨trivial, trivial, trivial, trivial⟩, live_5 (j := 1) hn16 trivial, trivial⟩))
      exact ⟨hw.2.1, hw.2.2⟩
   ·rw [if_neg hin]
    have hb0 : ((i : Int) < (n : Int)) = False := eq_false (by omega)
    simp -implicitDefEqProofs only [rX,↓rY,ofConst,↓reduceIte,Nat.reduceEqDiff,Nat.reduceAdd,reduceCtorEq,freshP,resP,tupV,wfV,dkV,dkC,dkT_app,n61,hT2,g16 hT2,st16 hT2,hb0,yC,yA]
    simp only [br, decide_eq_true_eq, decide_eq_false_iff_not, beq_iff_eq, beq_eq_false_iff_ne]
    have hn16 : S2.n = 16 := hn2.trans hJ.n16
    have hD3 : S2.D = if n < i then S.D else S.D.stepD := by
     rw [hD2, Dk.syD, hJ.chk (k := 0) ⟨by omega, by omega⟩, hJ.stepE, if_neg hin]
     by_cases e : n < i
     ·rw [if_pos e, if_pos e, if_pos (by decide)]
     ·rw [if_neg e, if_neg e, if_neg (by decide), if_pos (by decide)]
    have hJ2 : J5 n (i + 1) S2 su no := hJ.no_more (by omega) hD3
    refine ⟨fun h5 => absurd h5 (by decide), fun _ => ⟨by simp only [lo, Fx.hi]; omega, fun h6 => ?_, fun h6 => ⟨fun h7 => ⟨fun h8 => absurd h8 (by decide), fun h8 => ⟨by simp only [lo, Fx.hi]; omega, (i + 1, S2, su, no), ⟨⟨hil, hJ2⟩, by show l.length - (i + 1) < _; omega⟩, ?_⟩⟩, fun h7 => absurd h7 (by decide)⟩⟩⟩
    ·exact absurd h6 (by decide)
    ·exact refl_leG (leS_5 S2 ⟨by show V.i _ = V.i _; congr 2, rfl, rfl, rfl, rfl, rfl, rfl, rfl, rfl, trivial⟩ (by exact ⟨trivial, trivial, trivial, leB_refl _, leB_refl _, leB_refl _, leH_2⟩) ⟨trivial, trivial, trivial, envS_wf hn16⟩ (sm_wf (sm_wf trivial)))
  ·refine call_is (ok23 l[i].b) ⟨⟨trivial, trivial⟩, rfl, trivial⟩ (congrArg V.agg ((plain_len (sec_plain (s := filledS l[i].b)) (H := []) (g := fun _ => none)).2.2 _)) trivial ?_
   simp -implicitDefEqProofs only [rX,↓reduceIte,Nat.reduceEqDiff]
   have hsl : ∀ (H : List Blk) (g : Nat → Option Nat), lendsOk H g [.i k, .agg (filledS l[i].b).enc] ∧ wkL [.i k, .agg (filledS l[i].b).enc] (lends H g [.i k, .agg (filledS l[i].b).enc]) := fun H g => by
    obtain ⟨p1, p2, _⟩ := plain_len (sec_plain (s := filledS l[i].b)) (H := H) (g := g)
    exact ⟨⟨trivial, p1, trivial⟩, rfl, p2, trivial⟩
   refine call_3 (S := S) (ok22 S k (filledS l[i].b) hst haf fun j => by have := hJ.ln j; omega) hsl rfl rfl ?_ ?_ ?_
   ·show [killB _ _, killB _ _, killB _ _] = _
    rw [sm_kill', sm_kill']; rfl
   ·simp [killE, kill, yB, hJ.n16, opn_kill, sec_kill]
   rintro r S2 hn2 ⟨hD2, rfl⟩
   have hT2 : (dkT S2.D).length = 16 := S2.T_len.trans (hn2.trans hJ.n16)
   have hn16 : S2.n = 16 := hn2.trans hJ.n16
   refine ⟨fun _ => rfl, ?_⟩
   rw [hJ.wrE (k := (k : Int)) ⟨by omega, by omega⟩]
   by_cases hin : i < n
   ·rw [if_pos hin]
    have hb0 : ((i : Int) < (n : Int)) = True := eq_true (by omega)
    simp -implicitDefEqProofs only [rX,↓rY,ofConst,↓reduceIte,Nat.reduceEqDiff,Nat.reduceAdd,reduceCtorEq,resP,tupV,wfV,dkV,dkC,n61,hT2,g16 hT2,st16 hT2,hb0,opn_2,yA]
    simp only [br, decide_eq_true_eq, decide_eq_false_iff_not, beq_iff_eq, beq_eq_false_iff_ne]
    refine ⟨fun _ => ?_, fun h0 => absurd rfl h0⟩
    refine call_is (ok23 l[i].b) ⟨⟨trivial, trivial⟩, rfl, trivial⟩ (congrArg V.agg ((plain_len (sec_plain (s := filledS l[i].b)) (H := []) (g := fun _ => none)).2.2 _)) trivial ?_
    simp -implicitDefEqProofs only [rX,↓rY,ofConst,↓reduceIte,Nat.reduceEqDiff,Nat.reduceAdd,reduceCtorEq,resP,tupV,wfV,n61,hT2,g16 hT2,st16 hT2,hb0,yC,yA]
    obtain ⟨no3, hs1, hs2⟩ := no.put k (filledS l[i].b)
    simp only [hs2]
    have hD3 : S2.D = S.D.stepD.addD k (filledS l[i].b) := by
     rw [hD2, Dk.wrD, hJ.chk (k := (k : Int)) ⟨by omega, by omega⟩, hJ.stepE, if_neg (by omega), if_pos hin]
     rfl
    have hJ2 : J5 n (i + 1) S2 su no3 := hJ.write hin hk16 hD3 hs1
    refine ⟨by simp only [lo, Fx.hi]; omega, fun h6 => absurd h6 (by decide), fun h6 => ⟨fun h7 => absurd h7 (by decide), fun h7 => ⟨by simp only [lo, Fx.hi]; omega, (i + 1, S2, su, no3), ⟨⟨hil, hJ2⟩, by show l.length - (i + 1) < _; omega⟩, ?_⟩⟩⟩
    exact refl_leG (leS_5 S2 ⟨by show V.i _ = V.i _; congr 2, rfl, rfl, rfl, rfl, rfl, rfl, rfl, rfl, trivial⟩ (by exact ⟨trivial, trivial, trivial, leB_refl _, leB_refl _, leB_refl _, leH_2⟩) ⟨trivial, trivial, trivial, envS_wf hn16⟩ (sm_wf (sm_wf trivial)))
   ·rw [if_neg hin]
    have hb0 : ((i : Int) < (n : Int)) = False := eq_false (by omega)
    simp -implicitDefEqProofs only [rX,↓rY,ofConst,↓reduceIte,Nat.reduceEqDiff,Nat.reduceAdd,reduceCtorEq,resP,tupV,wfV,dkV,dkC,n61,hT2,g16 hT2,st16 hT2,hb0,opn_2,yA]
    simp only [br, decide_eq_true_eq, decide_eq_false_iff_not, beq_iff_eq, beq_eq_false_iff_ne]
    have hD3 : S2.D = if n < i then S.D else S.D.stepD := by
     rw [hD2, Dk.wrD, hJ.chk (k := (k : Int)) ⟨by omega, by omega⟩, hJ.stepE, if_neg hin]
     by_cases e : n < i
     ·rw [if_pos e, if_pos e, if_pos (by decide)]
     ·rw [if_neg e, if_neg e, if_neg (by decide), if_pos (by decide)]
    have hJ2 : J5 n (i + 1) S2 su no := hJ.no_more (by omega) hD3
    refine ⟨fun h5 => absurd h5 (by decide), fun _ => ⟨by simp only [lo, Fx.hi]; omega, fun h6 => absurd h6 (by decide), fun h6 => ⟨fun h7 => ⟨fun h8 => absurd h8 (by decide), fun h8 => ⟨by simp only [lo, Fx.hi]; omega, (i + 1, S2, su, no), ⟨⟨hil, hJ2⟩, by show l.length - (i + 1) < _; omega⟩, ?_⟩⟩, fun h7 => absurd h7 (by decide)⟩⟩⟩
    exact refl_leG (leS_5 S2 ⟨by show V.i _ = V.i _; congr 2, rfl, rfl, rfl, rfl, rfl, rfl, rfl, rfl, trivial⟩ (by exact ⟨trivial, trivial, trivial, leB_refl _, leB_refl _, leB_refl _, leH_2⟩) ⟨trivial, trivial, trivial, envS_wf hn16⟩ (sm_wf (sm_wf trivial)))
 ·have hie : i = l.length := by omega
  refine call_3 (S := S) (ok11 S 3) (fun _ _ => ⟨⟨trivial, trivial⟩, rfl, trivial⟩) rfl rfl ?_ ?_ ?_
  ·show [killB _ _, killB _ _, killB _ _] = _
   rw [sm_kill', sm_kill']; rfl
  ·simp [killE, kill, yB, hJ.n16, opn_kill]
  rintro r S2 hn2 ⟨hS2, rfl⟩
  subst S2
  refine ⟨fun g => congrArg V.tup (by simp only [rens, ren, (plain_len (sec_plain (s := (S.D.rd 3).1)) (H := []) (g := fun _ => none)).2.2]), ?_⟩
  rw [hJ.rd2]
  simp -implicitDefEqProofs only [rX,↓rY,ofConst,cells?,splice,↓reduceIte,Nat.reduceEqDiff,Nat.reduceAdd,reduceCtorEq,freshP,resP,tupV,wfV,arr64,sec_len,sec_C,dkV,dkC,sec_drop,n61,hT,g16 hT,st16 hT,yC,yA]
  simp only [br, decide_eq_true_eq, decide_eq_false_iff_not, beq_iff_eq, beq_eq_false_iff_ne]
  have hb1 : ((if n < i then (130 : Int) else 0) == 130) = decide ((n : Int) < (l.length : Int)) := by
   by_cases e : n < i
   ·rw [if_pos e, decide_eq_true (by omega)]; rfl
   ·rw [if_neg e, decide_eq_false (by omega)]; rfl
  have hb2 : ∀ b : Bool, (b != b) = false := by simp
  have hlow : ∀ b : Bool, (b = true → b = false → False) := by simp
  simp only [hb1, hb2]
  refine fun _ => ⟨by simp only [lo, Fx.hi]; omega, fun h => absurd h (by decide), fun _ => ?_⟩
  refine call_3 (S := S) (ok16 S) (fun _ _ => ⟨trivial, trivial⟩) rfl rfl ?_ ?_ ?_
  ·show [killB _ _, killB _ _, killB _ _] = _
   rw [sm_kill', sm_kill']
   simp [killB, sec_kill]
  ·simp [killE, kill, kills, yB, hJ.n16, opn_kill, sec_kill]
  rintro r S2 hn2 ⟨hS2, rfl⟩
  subst S2
  refine ⟨fun _ => rfl, ?_⟩
  have hdd : S.D.dead = decide ((n : Int) < (l.length : Int)) := by rw [hJ.dd, hie]; simp
  rw [hdd]
  simp -implicitDefEqProofs only [rX,↓rY,↓reduceIte,Nat.reduceEqDiff,Nat.reduceAdd,reduceCtorEq,dkV,dkC,g16 hT,st16 hT,hb2]
  refine fun _ => ⟨by simp only [lo, Fx.hi]; omega, ?_⟩
  refine call_3 (S := S) (ok17 S) (fun _ _ => ⟨trivial, trivial⟩) rfl rfl ?_ ?_ ?_
  ·show [killB _ _, killB _ _, killB _ _] = _
   rw [sm_kill', sm_kill']
   simp [killB, sec_kill]
  ·simp [killE, kill, kills, yB, hJ.n16, opn_kill, sec_kill]
  rintro r S2 hn2 ⟨hS2, rfl⟩
  subst S2
  refine ⟨fun _ => rfl, ?_⟩
  have hst : (S.D.steps : Int) = min (l.length : Int) (n : Int) := by rw [hJ.st, hie]; omega
  rw [hst]
  have hb3 : ∀ x : Int, (x != x) = false := by simp
  simp -implicitDefEqProofs only [rX,↓rY,↓reduceIte,Nat.reduceEqDiff,Nat.reduceAdd,reduceCtorEq,dkV,dkC,n61,hT,g16 hT,st16 hT,hb3]
  refine fun _ => ⟨by simp only [lo, Fx.hi]; omega, ?_⟩
  refine call_14p [.dead, .dead, .dead] [su.blk, no.blk, .var (S.D.rd 3).1.enc] S keep (.ro 1 (keep.map encI)) 28 (by rw [hJ.n16]; rfl) (by rw [hJ.n16]; omega) (fun k => by have := hJ.ln k; omega) rfl (fun _ _ => ⟨trivial, ?_⟩) rfl rfl rfl ?_ ?_ ?_
  ·simp [lend, wk, wkB]
  ·show [killB _ _, killB _ _, killB _ _] = _
   rw [sm_kill, sm_kill]
   simp [killB, sec_kill]
  ·simp [killE, kill, kills, yB, hJ.n16, opn_kill, sec_kill]
  simp -implicitDefEqProofs only [rX,↓rY,ofConst,↓reduceIte,Nat.reduceAdd,resP,tupV,wfV]
  have hS2n : (crE S keep).n = 16 := crE_n.trans hJ.n16
  have hhp : ∀ (b : Blk), leH (.dead :: .dead :: .dead :: (S.bs 3 ++ su.blk :: no.blk :: b :: .dead :: .dead :: .dead :: (crE S keep).bs 28)) (hpF (crE S keep) su no) := fun b => by
   have h22 : (.dead :: .dead :: .dead :: S.bs 3).length = 22 := by
    simp only [List.length_cons, S.len, hJ.n16]
   have := leH_deadT (X := su.blk :: no.blk :: b :: .dead :: .dead :: .dead :: (crE S keep).bs 28) (Y := su.blk :: no.blk :: .dead :: .dead :: .dead :: .dead :: (crE S keep).bs 28) ⟨leB_refl _, leB_refl _, trivial, trivial, trivial, trivial, leH_refl _⟩ (T := .dead :: .dead :: .dead :: S.bs 3)
   rw [h22] at this
   exact this
  refine loopP_intro (fun k : Nat => (⟨[(140, .i k), (18, .ptr 28 0 0), (8, .mp 22), (9, .mp 23)], hpF (crE S keep) su no, 0⟩ : St)) (fun k => k ≤ 16) (fun k => 16 - k) 0 (by omega) ?_ ?_
  ·exact ⟨⟨rfl, rfl, rfl, rfl, trivial⟩, hhp _, trivial, ⟨trivial, trivial, trivial, trivial, trivial⟩, hpF_wf⟩
  rintro k hk
  have hk : k ≤ 16 := hk
  have hT2 : (dkT (crE S keep).D).length = 16 := (crE S keep).T_len.trans hS2n
  unfold c5l2 hpF SM.blk
  rw [bs_eq]
  simp -implicitDefEqProofs only [rX,↓rY,ofConst,cells?,splice,↓reduceIte,Nat.reduceEqDiff,Nat.reduceAdd,freshP,leE,leH,leB,leV,leVs,keepP,liveP,wfE,wfB,wfV,wfL,arr64,sec_len,dkV,dkC,dkT_app,n61,n62,hT2,g16 hT2,st16 hT2,yC,yA]
  rw [look_sm2]
  simp -implicitDefEqProofs only [rX,↓rY,sec_len,sec_C,sec_drop,g16 hT2,st16 hT2,yA]
  simp only [br, decide_eq_true_eq, decide_eq_false_iff_not, beq_iff_eq, beq_eq_false_iff_ne, bne_iff_ne, bne_eq_false_iff_eq]
  have hnext : ∀ X : List Blk, (k : Int) < 16 → (lo .i64 ≤ (k : Int) + 1 ∧ (k : Int) + 1 ≤ Fx.hi .i64) ∧ ∃ g' : Nat, (g' ≤ 16 ∧ 16 - g' < 16 - k) ∧ (k : Int) + 1 = (g' : Int) ∧ leH (dkT (crE S keep).D ++ X) (dkT (crE S keep).D) ∧ wfL (hpF (crE S keep) su no) ((smE su.L).map (·.2.1)) ∧ wfL (hpF (crE S keep) su no) ((smE no.L).map (·.2.1)) ∧ wfL (hpF (crE S keep) su no) ((ents 28 (crE S keep).D (crE S keep).L).map (·.2.1)) ∧ wfB (hpF (crE S keep) su no) (dkT (crE S keep).D) := by
   intro X hlt
   have hw := hpF_wf (S2 := crE S keep) (su := su) (no := no)
   have hw2 : wfB (hpF (crE S keep) su no) (su.blk :: no.blk :: .dead :: .dead :: .dead :: .dead :: (crE S keep).bs 28) := hw
   exact ⟨by simp only [lo, Fx.hi]; omega, k + 1, ⟨by omega, by omega⟩, by omega, leH_app, hw2.1, hw2.2.1, hw2.2.2.2.1, hw2.2.2.2.2⟩
  have hnx := fun X h => hnext X h
  unfold hpF at hnx
  rw [bs_eq] at hnx
  simp -implicitDefEqProofs only [Nat.reduceAdd,dkV,dkC,n61,n62] at hnx
  refine ⟨fun hlt => ⟨fun hs => ?_, fun hs => ?_⟩, fun hge => ?_⟩
  ·exact hnx _ hlt
  ·have hk16 : k < 16 := by omega
   have hno : no.get k = none := by
    cases hg : no.get k with
    | none => rfl
    | some s => rw [hg] at hs; cases hs
   have hop : S.D.op k = [] := yM.1 ((hJ.op k hk16).trans hno)
   have hrd : (crE S keep).D.rd k = ((su.get k).getD zS, 0) := by
    rw [crE_rd (by rw [hJ.n16]; exact hk16), crE_no hop, hJ.cl k hk16]; rfl
   refine call_at (cx := cxN Try.prog []) (S := crE S keep) (args := [.i k]) (xs := [.i k]) 28 [.dead, .dead, .dead, .dead, .dead, .dead, .dead, .dead, .dead, .dead, .dead, .dead, .dead, .dead, .dead, .dead, .dead, .dead, .dead, .dead, .dead, .dead, su.blk, no.blk, .dead, .dead, .dead, .dead] [.var ((no.get k).getD zS).enc, .dead] rfl rfl rfl (ok11 (crE S keep) k) (fun _ _ => ⟨⟨trivial, trivial⟩, rfl, trivial⟩) ?_ ?_ ?_ ?_
   ·simp only [yE, List.map_nil, sm_kill]; rfl
   ·simp [killB, sec_kill]
   ·simp [killE, kill, kills, yB, hS2n, sec_kill]
   rintro r S3 hn3 ⟨hS3, rfl⟩
   subst S3
   refine ⟨rd_ren, ?_⟩
   rw [hrd]
   simp -implicitDefEqProofs only [rX,↓rY,ofConst,cells?,splice,↓reduceIte,Nat.reduceEqDiff,Nat.reduceAdd,freshP,resP,tupV,leE,leH,leB,leV,leVs,keepP,liveP,wfE,wfB,wfV,wfL,arr64,sec_len,sec_take,sec_C,dkV,dkC,sec_drop,n61,n62,hT2,g16 hT2,st16 hT2,yC,yA]
   have em : ∀ F : List (Value × V × Nat) → Nat → Prop, mapB su.blk F = F (smE su.L) su.c := fun _ => rfl
   have es : ∀ {s t : Sec} {K : Bool → Prop}, (optK (aggC (.agg s.enc)) fun xs => optK (aggC (.agg t.enc)) fun ys => eqFs xs ys ((yD 0 64).map fun i => (i, .int .u8)) K) = K (decide (s = t)) := eqA_sec
   rw [em, look_sm, es]
   have e0 : ((0 : Int) != 0) = false := rfl
   have e1 : (!decide ((su.get k).getD zS = (su.get k).getD zS)) = false := by simp
   rw [e0, e1]
   simp only [br]
   refine ⟨fun h => absurd h (by decide), fun _ => ⟨fun h => absurd h (by decide), fun _ => ?_⟩⟩
   obtain ⟨p1, g', p2, p3, p4, p5⟩ := hnx [.var ((no.get k).getD zS).enc, .var ((su.get k).getD zS).enc] hlt
   exact ⟨p1, g', p2, p3, ⟨rfl, rfl, p4⟩, p5⟩
  ·exact s8 rfl rfl (by simp -implicitDefEqProofs only [rX,↓reduceIte,resP,tupV,wfV])
theorem fn_of {f : FuncId} {xs : List V} (h : Ok f xs (Is (.b true))) : Fn Try.prog f xs [] [] (fun r _ => r = .b true) := by
 have h := h.2
 intro ρ X w vals h1 h2
 refine Calls.mono (h ρ X w vals h1 h2) ?_
 rintro e w' ⟨val, r, h', ρ', q1, q2, q3, q4, q5, q6⟩
 exact ⟨val, r, h', ρ', q1, ⟨q2.1.1, q2.2⟩, q3, q4, q5, q6⟩
theorem ex_map {α β : Type} {g : α → β} : ∀ {els : List β}, (∀ x ∈ els, ∃ a, x = g a) → ∃ l : List α, els = l.map g
 | [], _ => ⟨[], rfl⟩
 | x :: r, h => by
  obtain ⟨a, rfl⟩ := h x List.mem_cons_self
  obtain ⟨l, rfl⟩ := ex_map (els := r) fun y hy => h y (yN _ hy)
  exact ⟨a :: l, rfl⟩
abbrev tOp : Fx.T := .st [.int .i64, .int .i64, .int .i64]
abbrev tOps : Fx.T := .sl 3 tOp
abbrev tLi : Fx.T := .sl 1 (.int .i64)
theorem wf_op {x : List V} (h : WfT tOp x) : ∃ a : Op, x = a.enc := by
 simp only [WfT, WfTs] at h
 obtain ⟨_, _, rfl, ⟨a, rfl, _⟩, _, _, rfl, ⟨b, rfl, _⟩, _, _, rfl, ⟨c, rfl, _⟩, rfl⟩ := h
 exact ⟨⟨a, b, c⟩, rfl⟩
theorem wf_ops {x : V} (h : WfV tOps x) : ∃ l : List Op, x = .ro 3 (l.map Op.enc) := by
 simp only [WfV] at h
 rw [WfT] at h
 obtain ⟨els, h1, _, he⟩ := h
 obtain ⟨l, rfl⟩ := ex_map (fun x hx => wf_op (he x hx))
 exact ⟨l, by simpa using h1⟩
theorem wf_li {x : V} (h : WfV tLi x) : ∃ l : List Int, x = .ro 1 (l.map encI) := by
 simp only [WfV] at h
 rw [WfT] at h
 obtain ⟨els, h1, _, he⟩ := h
 obtain ⟨l, rfl⟩ := ex_map (g := encI) (fun x hx => by
  have := he x hx
  simp only [WfT] at this
  obtain ⟨n, rfl, _⟩ := this
  exact ⟨n, rfl⟩)
 exact ⟨l, by simpa using h1⟩
theorem wf_u8 {x : V} (h : WfV (.int .u8) x) : ∃ n : Nat, x = .v (.int .u8 n) ∧ n ≤ 255 := by
 simp only [WfV, WfT] at h
 obtain ⟨n, h, h1, h2⟩ := h
 refine ⟨n.toNat, ?_, ?_⟩
 ·have h3 : ((n.toNat : Nat) : Int) = n := by simp only [lo] at h1; omega
  rw [h3]; simpa using h
 ·simp only [hi] at h2; omega
theorem fn5 : ∀ xs, WfA [tOps, .int .u8, tLi] xs → Fn Try.prog 5 xs [] [] (fun r _ => r = .b true) := by
 intro xs h
 obtain ⟨x1, _, rfl, h1, h⟩ := h
 obtain ⟨x2, _, rfl, h2, h⟩ := h
 obtain ⟨x3, _, rfl, h3, h⟩ := h
 obtain rfl : _ = [] := h
 obtain ⟨l, rfl⟩ := wf_ops h1
 obtain ⟨n, rfl, hn⟩ := wf_u8 h2
 obtain ⟨keep, rfl⟩ := wf_li h3
 exact fn_of (ok5 l n hn keep)
end Go.Fx.D
