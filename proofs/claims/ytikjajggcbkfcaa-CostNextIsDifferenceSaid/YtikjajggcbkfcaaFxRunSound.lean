import Derived.Test.YtikjajggcbkfcaaT25
import Derived.Test.YtikjajggcbkfcaaFxRun
set_option linter.unusedVariables false
set_option linter.unusedSimpArgs false
set_option linter.unusedSectionVars false
namespace Go.Fx.C
open Go Go.Fx Go.Proofs
set_option maxRecDepth 20000
theorem encN_len (i : Nat) : (encN i).length = 1 := rfl
theorem encN_0 (i : Nat) : (encN i)[0]? = some (.i i) := rfl
def roomOf (arcs : List Arc) (x : List Int) (v k : Nat) : Int := if (gA arcs k).from_ = v then (gA arcs k).cap - x.getD k 0 else x.getD k 0
def wayOf (arcs : List Arc) (x : List Int) (v k : Nat) : V :=
  if (gA arcs k).from_ = v then .agg [.i k, .i (gA arcs k).to, .i ((gA arcs k).cap - x.getD k 0), .i (gA arcs k).cost, .b false]
  else .agg [.i k, .i (gA arcs k).from_, .i (x.getD k 0), .i (-(gA arcs k).cost), .b true]
def wayC (arcs : List Arc) (x : List Int) (v k : Nat) : List V :=
  if (gA arcs k).from_ = v then [.i k, .i (gA arcs k).to, .i ((gA arcs k).cap - x.getD k 0), .i (gA arcs k).cost, .b false]
  else [.i k, .i (gA arcs k).from_, .i (x.getD k 0), .i (-(gA arcs k).cost), .b true]
theorem wayC_kill {arcs : List Arc} {x : List Int} {v k : Nat} {M : List Nat} : kills M (wayC arcs x v k) = wayC arcs x v k := by
  unfold wayC
  split <;> simp [kills, kill]
theorem wayC_wf {arcs : List Arc} {x : List Int} {v k : Nat} {q : List Blk} : wfL q (wayC arcs x v k) := by
  unfold wayC
  split <;> simp [wfL, wfV]
theorem enc_kill {a : Arc} {M : List Nat} : kills M a.enc = a.enc := rfl
theorem enc_wf {a : Arc} {q : List Blk} : wfL q a.enc := by simp [Arc.enc, wfL, wfV]
structure EI (arcs : List Arc) (v k a b i : Nat) (e : Env) : Prop where
  e0 : get e 0 = .itr k
  e1 : get e 1 = .ptr a 0 0
  e2 : get e 2 = .ptr b 0 0
  e14 : get e 14 = .ro 1 (encR (outs arcs v arcs.length))
  e15 : get e 15 = .i (outs arcs v arcs.length).length
  e16 : get e 16 = .i i
  e65 : get e 65 = .b true
structure ItH {G : Type} (hp : G → List Blk) (fl : G → List Int) (L N v : Nat) (arcs : List Arc) (k a b w fb ob pb : Nat) (fx : List Nat) : Prop where
  hV : Val N arcs
  hv : v < N
  len : ∀ g, (hp g).length = L
  ha : ∀ g tl, (hp g ++ tl)[a]? = some (.var [.ptr w 0 0])
  hb : ∀ g tl, (hp g ++ tl)[b]? = some (.var [.i v])
  hw : ∀ g tl, (hp g ++ tl)[w]? = some (wB N arcs.length arcs fb ob pb)
  hf : ∀ g tl, (hp g ++ tl)[fb]? = some (.arr 1 ((fl g).map encI))
  ho : ∀ g tl, (hp g ++ tl)[ob]? = some (.arv 1 (outR arcs N))
  kp : ∀ g, keepP fx (hp g)
  wf : ∀ g, wfB (hp g) (hp g)
  lk : ∀ g, ∃ t e, (hp g)[k]? = some (.rcd t e)
  fk : ∀ g, (fl g).length = arcs.length ∧ ∀ j, 0 ≤ (fl g).getD j 0 ∧ (fl g).getD j 0 ≤ 1073741824
theorem leH_app : ∀ (h l : List Blk), leH (h ++ l) h
  | [], _ => by unfold leH; trivial
  | b :: h, l => ⟨leB_refl b, leH_app h l⟩
theorem live_get {h : List Blk} {k : Nat} {B : Blk} (hb : h[k]? = some B) (hn : B ≠ .dead) : liveP h k := by
  unfold liveP
  rw [hb]
  cases B <;> first | trivial | exact absurd rfl hn
abbrev pat50 {G : Type} (hp : G → List Blk) (arcs : List Arc) (v k a b : Nat) (g : Nat × G) : St :=
  ⟨[(16, .i g.1), (15, .i (outs arcs v arcs.length).length), (14, .ro 1 (encR (outs arcs v arcs.length))), (2, .ptr b 0 0), (1, .ptr a 0 0), (0, .itr k)], hp g.2, 0⟩
section
variable {G : Type} {hp : G → List Blk} {fl : G → List Int} {L N v : Nat} {arcs : List Arc} {k a b w fb ob pb : Nat} {fx : List Nat} {Y : Yt} {K : List Blk → Prop} {Inv : Nat → G → Prop}
theorem outs_in {i : Nat} (h : i < (outs arcs v arcs.length).length) : (outs arcs v arcs.length)[i] < arcs.length ∧ ((gA arcs (outs arcs v arcs.length)[i]).from_ = v ∨ (gA arcs (outs arcs v arcs.length)[i]).to = v) := by
  have := List.getElem_mem h
  unfold outs at this
  rw [List.mem_filter, List.mem_range, decide_eq_true_eq] at this
  exact this
theorem body50 (H : ItH hp fl L N v arcs k a b w fb ob pb fx)
    (hskip : ∀ i g (hi : i < (outs arcs v arcs.length).length), Inv i g → roomOf arcs (fl g) v (outs arcs v arcs.length)[i] ≤ 0 → Inv (i + 1) g)
    (hY : ∀ i g (hi : i < (outs arcs v arcs.length).length), Inv i g → 0 < roomOf arcs (fl g) v (outs arcs v arcs.length)[i] → ∀ (e : Env) (bb : Nat) (Z : V → St → Prop), EI arcs v k a b i e →
      (∀ e' g' tl, EI arcs v k a b i e' → Inv (i + 1) g' → Z (.b true) ⟨e', hp g' ++ tl, bb⟩) → (∀ e' hh, EI arcs v k a b i e' → K hh → Z (.b false) ⟨e', hh, bb⟩) → Y [wayOf arcs (fl g) v (outs arcs v arcs.length)[i]] ⟨e, hp g ++ [.var (gA arcs (outs arcs v arcs.length)[i]).enc, .var (wayC arcs (fl g) v (outs arcs v arcs.length)[i])], bb⟩ Z)
    (hK : ∀ g, Inv (outs arcs v arcs.length).length g → K (hp g))
    (g : Nat × G) (hg : g.1 ≤ (outs arcs v arcs.length).length ∧ Inv g.1 g.2) :
    aw ⟨C0 Try.prog, fx, [], I0 Try.prog, fun k' xs s Z => k' = k ∧ Y xs s Z, none⟩ c50l0 (fun s' => ∃ g' : Nat × G, ((g'.1 ≤ (outs arcs v arcs.length).length ∧ Inv g'.1 g'.2) ∧ (outs arcs v arcs.length).length - g'.1 < (outs arcs v arcs.length).length - g.1) ∧ leS fx s' (pat50 hp arcs v k a b g'))
      (fun j s' => if j = 0 then K s'.h else False) (fun s => K s.h) (pat50 hp arcs v k a b g) := by
  obtain ⟨i, g⟩ := g
  obtain ⟨hi, hI⟩ := hg
  simp only at hi hI
  have hL := H.hV.hl
  have ha := H.ha g
  have hb := H.hb g
  have hw := H.hw g
  have hf := H.hf g
  have ho := H.ho g
  have hlen := H.len g
  have hk0 := hK g
  have go : ∀ j tl, (hp g ++ tl)[L + j]? = tl[j]? := fun j tl => by
    rw [List.getElem?_append_right (by omega), hlen]; congr 1; omega
  have go0 : ∀ tl, (hp g ++ tl)[L]? = tl[0]? := go 0
  have gs : ∀ j tl B, (hp g ++ tl).set (L + j) B = hp g ++ tl.set j B := fun j tl B => by
    rw [List.set_append_right _ _ (by omega), hlen]; congr 2; omega
  have gs0 : ∀ tl B, (hp g ++ tl).set L B = hp g ++ tl.set 0 B := gs 0
  have a0 := ha []
  have b0 := hb []
  have w0 := hw []
  have f0 := hf []
  have o0 := ho []
  rw [List.append_nil] at a0 b0 w0 f0 o0
  generalize hrow : outs arcs v arcs.length = row at *
  unfold c50l0 pat50
  rcases Nat.lt_or_ge i row.length with hi1 | hi1
  · have hd : decide ((i : Int) < (row.length : Int)) = true := decide_eq_true (by omega)
    have hin : row[i] < arcs.length ∧ ((gA arcs row[i]).from_ = v ∨ (gA arcs row[i]).to = v) := by have := outs_in (v := v) (arcs := arcs) (i := i) (by rw [hrow]; exact hi1); simp only [hrow] at this; exact this
    have hga : gA arcs row[i] = arcs[row[i]]'hin.1 := gA_at hin.1
    simp -implicitDefEqProofs only [qa, qc, qd, qe, qp, qu, qw, rdK, qx, qy, qz, qA, qC, qE, qF, qG, qI, qJ, qK, qO, qP, qR, qS, qU, qV, qW, qX, qY, qZ, ze, zk, zF, zH, zI, zJ, zK, zN, ofConst, cells?, List.length_nil, List.length_cons, List.set_cons_zero, splice, zO, List.getD_eq_getElem?_getD, List.getElem?_cons_zero, ↓reduceIte, Nat.reduceEqDiff, Option.getD_some, zP, arrSz, zR, Bool.not_true, ↓zS, ↓zT, zU, List.nil_append, List.cons_append, List.append_nil, Nat.zero_add, Nat.reduceAdd, Nat.add_zero, reduceCtorEq, freshP, buildP, zX, leE, liveP, wfE, wfV, List.map_cons, List.map_nil, List.drop_zero, List.take_zero, List.take_nil, List.drop_nil, List.all_cons, List.all_nil, isC, Bool.and_true, Bool.and_self, true_and, and_true, and_self, V.v.injEq, Value.int.injEq, Value.bool.injEq, List.not_mem_nil, List.length_append, List.length_map, not_false_eq_true, Bool.false_eq_true, Nat.reduceLeDiff, Nat.le_refl, lg0, zY, zZ, ka, kc, lg1, kh, ki, kn, ko, kw, kx, kA, kB, jq, ↓jr, ↓ju, ↓jv, ↓jx, ↓jy, ↓jA, ↓jB, ↓jC, ↓jD, ↓jG, ↓jI, ↓jJ, ↓jU, ↓qaL, ↓qaN, ↓qaS, ↓qaT, ↓qaV, List.length_map, List.getElem_map, enc_len, enc_take, enc_0, enc_1, enc_2, enc_3, enc_isC, encI_0, Int.toNat_natCast, aw_yreg, aOpsY_nil, yo_yldg, yo_mov, yg_mov, yo_pick, yo_load, yg_load, yo_fld, yo_bin, yg_not, ↓itrK_i, hrow, hd, encR, encN_0, hlen, List.append_assoc, ha, hb, hw, hf, wB, go, go0, gs, gs0]
    have hrk : ((row[i] : Nat) : Int) < arcs.length := by omega
    have hfk := H.fk g
    have hfx : row[i] < (fl g).length := by rw [hfk.1]; exact hin.1
    have hfb := hfk.2 row[i]
    have hva := H.hV.at hin.1
    have hxe : (fl g).getD row[i] 0 = (fl g)[row[i]] := getD_nat hfx
    have hlrow : row.length ≤ 2048 := by rw [← hrow]; exact Nat.le_trans outs_len hL
    rw [hga] at hva
    have hwrap : IntKind.wrap .i64 (-arcs[row[i]].cost) = -arcs[row[i]].cost := wrap_in .i64 _ (by simp only [lo, Fx.hi]; omega)
    rw [hxe] at hfb
    have hroom : roomOf arcs (fl g) v row[i] = if arcs[row[i]].from_ = v then arcs[row[i]].cap - (fl g)[row[i]] else (fl g)[row[i]] := by unfold roomOf; rw [hga, hxe]
    have hway : wayOf arcs (fl g) v row[i] = if arcs[row[i]].from_ = v then .agg [.i row[i], .i arcs[row[i]].to, .i (arcs[row[i]].cap - (fl g)[row[i]]), .i arcs[row[i]].cost, .b false] else .agg [.i row[i], .i arcs[row[i]].from_, .i (fl g)[row[i]], .i (-arcs[row[i]].cost), .b true] := by unfold wayOf; rw [hga, hxe]
    have hwc : wayC arcs (fl g) v row[i] = if arcs[row[i]].from_ = v then [.i row[i], .i arcs[row[i]].to, .i (arcs[row[i]].cap - (fl g)[row[i]]), .i arcs[row[i]].cost, .b false] else [.i row[i], .i arcs[row[i]].from_, .i (fl g)[row[i]], .i (-arcs[row[i]].cost), .b true] := by unfold wayC; rw [hga, hxe]
    have hsk := hskip i g hi1 hI
    have hy := hY i g hi1 hI
    rw [hroom] at hsk hy
    rw [hway, hwc, hga] at hy
    simp only [hwrap]
    refine ⟨⟨by omega, by omega⟩, hi1, ⟨by omega, hrk⟩, hin.1, ⟨by omega, by omega⟩, hfx, by simp only [lo, Fx.hi]; omega, ?_⟩
    have hnext : ∀ (g' : G) (tl : List Blk) (e' : Env), EI arcs v k a b i e' → Inv (i + 1) g' → leS fx ⟨(16, .i ((i : Int) + 1)) :: (71, .i ((i : Int) + 1)) :: (70, .b false) :: (69, .b false) :: (65, .b true) :: (68, .b true) :: e', hp g' ++ tl, 0⟩ (pat50 hp arcs v k a b (i + 1, g')) := by
      intro g' tl e' he' hI'
      have la := H.ha g' []
      have lb := H.hb g' []
      obtain ⟨tk, ek, lk⟩ := H.lk g'
      rw [List.append_nil] at la lb
      have e1 := he'.e0; have e2 := he'.e1; have e3 := he'.e2; have e4 := he'.e14; have e5 := he'.e15
      unfold pat50
      simp -implicitDefEqProofs only [zN, ↓reduceIte, Nat.reduceEqDiff, reduceCtorEq, zX, leE, liveP, wfE, wfV, Bool.and_true, Bool.and_self, true_and, and_true, and_self, V.v.injEq, Value.int.injEq, Value.bool.injEq, e1, e2, e3, e4, e5, eq_true (leH_app (hp g') tl), eq_true (H.kp g'), eq_true (H.wf g'), la, lb, lk]
      rfl
    by_cases hv : arcs[row[i]].from_ = v
    · have hb1 : (arcs[row[i]].from_ != (v : Int)) = false := by simpa using hv
      simp only [if_pos hv] at hsk hy
      simp only [hb1, zT]
      simp only [br, decide_eq_true_eq, decide_eq_false_iff_not]
      refine ⟨fun hr => ?_, fun hr => ?_⟩
      · refine ⟨rfl, ?_⟩
        refine hy hr _ _ _ ⟨rfl, rfl, rfl, by rw [hrow]; rfl, by rw [hrow]; rfl, rfl, rfl⟩ ?_ ?_
        · intro e' g' tl he' hI'
          simp -implicitDefEqProofs only [qE, qF, qJ, qO, qP, qR, qS, qZ, zd, zH, zJ, zK, zN, ofConst, ↓reduceIte, Nat.reduceEqDiff, zP, zQ, zR, Bool.not_true, ↓zS, ↓zT, zU, List.append_nil, reduceCtorEq, zX, leE, liveP, wfE, wfV, Bool.and_true, true_and, and_true, V.v.injEq, Value.int.injEq, Value.bool.injEq, List.length_append, jq, ↓qaL, aOpsY_nil, yo_pick, yg_not, he'.e65, he'.e16]
          refine ⟨by simp only [lo, Fx.hi]; omega, (i + 1, g'), ⟨⟨by show i + 1 ≤ row.length; omega, hI'⟩, by show row.length - (i + 1) < row.length - i; omega⟩, ?_⟩
          have := hnext g' tl e' he' hI'
          unfold pat50 at this
          simp -implicitDefEqProofs only [zN, ↓reduceIte, Nat.reduceEqDiff, reduceCtorEq, zX, leE, liveP, wfE, wfV, Bool.and_true, true_and, and_true, V.v.injEq, Value.int.injEq, Value.bool.injEq, hrow] at this ⊢
          exact this
        · intro e' hh he' hK'
          simp -implicitDefEqProofs only [qJ, qN, qS, zd, zH, zJ, zN, ↓reduceIte, Nat.reduceEqDiff, zQ, zR, Bool.not_false, ↓zS, zU, aOpsY_nil, yo_pick, yg_not, he'.e65]
          exact hK'
      · refine ⟨by simp only [lo, Fx.hi]; omega, (i + 1, g), ⟨⟨by show i + 1 ≤ row.length; omega, hsk (by omega)⟩, by show row.length - (i + 1) < row.length - i; omega⟩, ?_⟩
        obtain ⟨tk, ek, lk⟩ := H.lk g
        simp only [a0, b0, lk]
        exact ⟨rfl, leH_app _ _, H.kp g, ⟨trivial, trivial, trivial⟩, H.wf g⟩
    · have hb1 : (arcs[row[i]].from_ != (v : Int)) = true := by simpa using hv
      simp only [if_neg hv] at hsk hy
      simp only [hb1, zS]
      simp only [br, decide_eq_true_eq, decide_eq_false_iff_not]
      refine ⟨⟨by omega, hrk⟩, hfx, fun hr => ?_, fun hr => ?_⟩
      · refine ⟨rfl, ?_⟩
        refine hy hr _ _ _ ⟨rfl, rfl, rfl, by rw [hrow]; rfl, by rw [hrow]; rfl, rfl, rfl⟩ ?_ ?_
        · intro e' g' tl he' hI'
          simp -implicitDefEqProofs only [qE, qF, qJ, qO, qP, qR, qS, qZ, zd, zH, zJ, zK, zN, ofConst, ↓reduceIte, Nat.reduceEqDiff, zP, zQ, zR, Bool.not_true, ↓zS, ↓zT, zU, List.append_nil, reduceCtorEq, zX, leE, liveP, wfE, wfV, Bool.and_true, true_and, and_true, V.v.injEq, Value.int.injEq, Value.bool.injEq, List.length_append, jq, ↓qaL, aOpsY_nil, yo_pick, yg_not, he'.e65, he'.e16]
          refine ⟨by simp only [lo, Fx.hi]; omega, (i + 1, g'), ⟨⟨by show i + 1 ≤ row.length; omega, hI'⟩, by show row.length - (i + 1) < row.length - i; omega⟩, ?_⟩
          have := hnext g' tl e' he' hI'
          unfold pat50 at this
          simp -implicitDefEqProofs only [zN, ↓reduceIte, Nat.reduceEqDiff, reduceCtorEq, zX, leE, liveP, wfE, wfV, Bool.and_true, true_and, and_true, V.v.injEq, Value.int.injEq, Value.bool.injEq, hrow] at this ⊢
          exact this
        · intro e' hh he' hK'
          simp -implicitDefEqProofs only [qJ, qN, qS, zd, zH, zJ, zN, ↓reduceIte, Nat.reduceEqDiff, zQ, zR, Bool.not_false, ↓zS, zU, aOpsY_nil, yo_pick, yg_not, he'.e65]
          exact hK'
      · refine ⟨by simp only [lo, Fx.hi]; omega, (i + 1, g), ⟨⟨by show i + 1 ≤ row.length; omega, hsk (by omega)⟩, by show row.length - (i + 1) < row.length - i; omega⟩, ?_⟩
        obtain ⟨tk, ek, lk⟩ := H.lk g
        simp only [a0, b0, lk]
        exact ⟨rfl, leH_app _ _, H.kp g, ⟨trivial, trivial, trivial⟩, H.wf g⟩
  · have hd : decide ((i : Int) < (row.length : Int)) = false := decide_eq_false (by omega)
    have hie : i = row.length := by omega
    subst hie
    have := hk0 (by rw [← hrow] at *; exact hI)
    simp -implicitDefEqProofs only [qF, qI, qJ, qM, qO, qP, qZ, zH, zJ, zN, ↓reduceIte, Nat.reduceEqDiff, zP, zR, ↓zT, List.append_nil, true_and, jq, ↓qaT, hd, hrow]
    first | exact this | simpa using this
theorem it50 (H : ItH hp fl L N v arcs k a b w fb ob pb fx)
    (hskip : ∀ i g (hi : i < (outs arcs v arcs.length).length), Inv i g → roomOf arcs (fl g) v (outs arcs v arcs.length)[i] ≤ 0 → Inv (i + 1) g)
    (hY : ∀ i g (hi : i < (outs arcs v arcs.length).length), Inv i g → 0 < roomOf arcs (fl g) v (outs arcs v arcs.length)[i] → ∀ (e : Env) (bb : Nat) (Z : V → St → Prop), EI arcs v k a b i e →
      (∀ e' g' tl, EI arcs v k a b i e' → Inv (i + 1) g' → Z (.b true) ⟨e', hp g' ++ tl, bb⟩) → (∀ e' hh, EI arcs v k a b i e' → K hh → Z (.b false) ⟨e', hh, bb⟩) → Y [wayOf arcs (fl g) v (outs arcs v arcs.length)[i]] ⟨e, hp g ++ [.var (gA arcs (outs arcs v arcs.length)[i]).enc, .var (wayC arcs (fl g) v (outs arcs v arcs.length)[i])], bb⟩ Z)
    (hK : ∀ g, Inv (outs arcs v arcs.length).length g → K (hp g)) (g : G) (hg : Inv 0 g) :
    I0 Try.prog 50 [.itr k, .ptr a 0 0, .ptr b 0 0] fx k Y (hp g) K := by
  refine itN_of pol fx lw50 (by simp) ?_
  have hL := H.hV.hl
  have hlen := H.len g
  have a0 := H.ha g []
  have b0 := H.hb g []
  have w0 := H.hw g []
  have o0 := H.ho g []
  rw [List.append_nil] at a0 b0 w0 o0
  obtain ⟨tk, ek, lk⟩ := H.lk g
  have hv := H.hv
  have hg2 : v < (outR arcs N).length := by rw [outR_len]; exact hv
  have hlrow : (outs arcs v arcs.length).length ≤ 2048 := Nat.le_trans outs_len hL
  unfold c50
  simp -implicitDefEqProofs only [qH, qI, qK, qL, qO, qP, qR, qV, qX, qY, zb, zF, zH, zJ, zK, zN, ofConst, zO, List.getD_eq_getElem?_getD, List.getElem?_cons_zero, ↓reduceIte, Nat.reduceEqDiff, Option.getD_some, zP, arrSz, List.append_nil, Nat.zero_add, Nat.reduceAdd, reduceCtorEq, true_and, List.length_map, lg0, lg1, lg2, jq, ↓jr, ↓ju, ↓jx, ↓jz, ↓jA, ↓jG, ↓jI, ↓jO, ↓jU, List.length_map, Int.toNat_natCast, args0, a0, b0, w0, o0, wB, outR_len, outR_get]
  refine ⟨by omega, hv, fun _ => ?_⟩
  refine loopP_intro (pat50 hp arcs v k a b) (fun g => g.1 ≤ (outs arcs v arcs.length).length ∧ Inv g.1 g.2) (fun g => (outs arcs v arcs.length).length - g.1) (0, g) ⟨Nat.zero_le _, hg⟩ ?_ (body50 H hskip hY hK)
  unfold pat50
  simp -implicitDefEqProofs only [zN, ↓reduceIte, Nat.reduceEqDiff, reduceCtorEq, zX, leE, liveP, wfE, wfV, Bool.and_self, and_self, a0, b0, lk, Int.natCast_zero, eq_true (H.kp g), eq_true (H.wf g), eq_true (leH_refl (hp g)), encR]
end
end Go.Fx.C
namespace Go.Fx.Lb
theorem nodup_le : ∀ (N : Nat) (l : List Nat), l.Nodup → (∀ x ∈ l, x < N) → l.length ≤ N
  | 0, l, _, h => by
    cases l with
    | nil => simp
    | cons x r => exact absurd (h x (by simp)) (by omega)
  | N + 1, l, hn, h => by
    have h1 : (l.erase N).Nodup := hn.erase N
    have h2 : ∀ x ∈ l.erase N, x < N := by
      intro x hx
      have h3 := h x (List.mem_of_mem_erase hx)
      have h4 : x ≠ N := fun e => by subst e; exact (hn.mem_erase_iff.1 hx).1 rfl
      omega
    have h5 := nodup_le N _ h1 h2
    have h6 : l.length ≤ (l.erase N).length + 1 := by
      rw [List.length_erase]; split <;> omega
    omega
def upd {α : Type} (f : Nat → α) (v : Nat) (x : α) : Nat → α := fun u => if u = v then x else f u
theorem upd_at {α : Type} (f : Nat → α) (v : Nat) (x : α) : upd f v x v = x := by simp [upd]
theorem upd_ne {α : Type} (f : Nat → α) {v u : Nat} (x : α) (h : u ≠ v) : upd f v x u = f u := by simp [upd, h]
structure Gr where
  N : Nat
  s : Nat
  src : Nat → Nat
  dst : Nat → Nat
  c : Nat → Int
  res : Nat → Prop
  π : Nat → Int
  hs : s < N
  hN : ∀ i, res i → src i < N ∧ dst i < N
  hπ : ∀ i, res i → 0 ≤ c i + π (src i) - π (dst i)
section
variable (G : Gr)
def PR : Nat → List Nat → Prop
  | v, [] => v = G.s
  | v, i :: r => G.res i ∧ G.dst i = v ∧ PR (G.src i) r
def cs : List Nat → Int
  | [] => 0
  | i :: r => G.c i + cs r
def vs : Nat → List Nat → List Nat
  | v, [] => [v]
  | v, i :: r => v :: vs (G.src i) r
def Dom (D : Nat → Int) : Nat → List Nat → Prop
  | v, [] => D v ≤ 0
  | v, i :: r => D v ≤ cs G (i :: r) ∧ Dom D (G.src i) r
variable {G}
theorem vs_len : ∀ (v : Nat) (r : List Nat), (vs G v r).length = r.length + 1
  | _, [] => rfl
  | v, i :: r => by simp [vs, vs_len (G.src i) r]
theorem vs_lt : ∀ (v : Nat) (r : List Nat), PR G v r → ∀ u ∈ vs G v r, u < G.N
  | v, [], h, u, hu => by
    simp only [vs, List.mem_singleton] at hu
    subst hu
    rw [show u = G.s from h]; exact G.hs
  | v, i :: r, h, u, hu => by
    rcases List.mem_cons.1 hu with rfl | hu
    · rw [← h.2.1]; exact (G.hN i h.1).2
    · exact vs_lt _ r h.2.2 u hu
theorem Dom.head {D : Nat → Int} {v : Nat} {r : List Nat} (h : Dom G D v r) : D v ≤ cs G r := by
  cases r with
  | nil => exact h
  | cons i r => exact h.1
theorem Dom.le {D D' : Nat → Int} (hle : ∀ u, D' u ≤ D u) : ∀ {v : Nat} {r : List Nat}, Dom G D v r → Dom G D' v r
  | v, [], h => Int.le_trans (hle v) h
  | v, i :: r, h => ⟨Int.le_trans (hle v) h.1, Dom.le hle h.2⟩
theorem dom_in {D : Nat → Int} {v : Nat} : ∀ {u : Nat} {r : List Nat}, PR G u r → Dom G D u r → v ∈ vs G u r → D v + (G.π u - G.π v) ≤ cs G r
  | u, [], _, hd, hv => by
    simp only [vs, List.mem_singleton] at hv
    subst hv
    have : D v ≤ 0 := hd
    simp only [cs]; omega
  | u, i :: r, hp, hd, hv => by
    rcases List.mem_cons.1 hv with rfl | hv
    · have := hd.1; omega
    · have ih := dom_in hp.2.2 hd.2 hv
      have := G.hπ i hp.1
      have hdst := hp.2.1
      rw [hdst] at this
      simp only [cs]; omega
theorem pr_cost : ∀ {u : Nat} {r : List Nat}, PR G u r → 0 ≤ cs G r + G.π G.s - G.π u
  | u, [], h => by rw [show u = G.s from h]; simp only [cs]; omega
  | u, i :: r, h => by
    have ih := pr_cost h.2.2
    have := G.hπ i h.1
    rw [h.2.1] at this
    simp only [cs]; omega
structure Wp (G : Gr) (D : Nat → Int) (v : Nat) (r : List Nat) : Prop where
  pr : PR G v r
  co : cs G r = D v
  nd : (vs G v r).Nodup
  dm : Dom G D v r
theorem Wp.len {D : Nat → Int} {v : Nat} {r : List Nat} (h : Wp G D v r) : r.length < G.N := by
  have := nodup_le G.N _ h.nd (vs_lt v r h.pr)
  rw [vs_len] at this
  omega
theorem cs_bound {B C : Int} (hB : ∀ i, G.res i → B ≤ G.c i ∧ G.c i ≤ C) : ∀ {v : Nat} {r : List Nat}, PR G v r → (r.length : Int) * B ≤ cs G r ∧ cs G r ≤ (r.length : Int) * C
  | v, [], _ => by simp [cs]
  | v, i :: r, h => by
    have ih := cs_bound hB h.2.2
    have := hB i h.1
    simp only [cs, List.length_cons]
    have e1 : ((r.length + 1 : Nat) : Int) * B = (r.length : Int) * B + B := by rw [Int.natCast_add, Int.add_mul]; simp
    have e2 : ((r.length + 1 : Nat) : Int) * C = (r.length : Int) * C + C := by rw [Int.natCast_add, Int.add_mul]; simp
    rw [e1, e2]
    omega
structure Lab (G : Gr) (F : Int) (D : Nat → Int) : Prop where
  h0 : D G.s = 0
  hw : ∀ v, v < G.N → D v = F ∨ (D v < F ∧ ∃ r, Wp G D v r)
theorem Lab.start {F : Int} (hF : 0 < F) : Lab G F (fun v => if v = G.s then 0 else F) := by
  refine ⟨by simp, fun v _ => ?_⟩
  by_cases h : v = G.s
  · right
    simp only [h, if_true]
    exact ⟨hF, [], rfl, by simp [cs], by simp [vs], by simp [Dom]⟩
  · left; simp [h]
theorem Lab.relax {F : Int} {D : Nat → Int} (h : Lab G F D) {i : Nat} (hr : G.res i) (hu : D (G.src i) < F) (hlt : D (G.src i) + G.c i < D (G.dst i)) : Lab G F (upd D (G.dst i) (D (G.src i) + G.c i)) ∧ G.dst i ≠ G.s := by
  obtain ⟨hsN, hdN⟩ := G.hN i hr
  obtain ⟨ru, hWu⟩ : ∃ r, Wp G D (G.src i) r := by
    rcases h.hw _ hsN with he | ⟨_, h⟩
    · omega
    · exact h
  have hπi := G.hπ i hr
  have hle : ∀ u, upd D (G.dst i) (D (G.src i) + G.c i) u ≤ D u := by
    intro u
    unfold upd
    split
    · rename_i e; rw [e]; omega
    · exact Int.le_refl _
  have hds : G.dst i ≠ G.s := by
    intro e
    have h1 := pr_cost hWu.pr
    rw [hWu.co] at h1
    rw [e] at hπi hlt
    rw [h.h0] at hlt
    omega
  have hnot : G.dst i ∉ vs G (G.src i) ru := by
    intro hm
    have := dom_in hWu.pr hWu.dm hm
    rw [hWu.co] at this
    omega
  have hdF : D (G.dst i) ≤ F := by
    rcases h.hw _ hdN with he | ⟨h1, _⟩ <;> omega
  refine ⟨⟨by rw [upd_ne _ _ (Ne.symm hds)]; exact h.h0, fun v hv => ?_⟩, hds⟩
  by_cases e : v = G.dst i
  · subst e
    right
    rw [upd_at]
    refine ⟨by omega, i :: ru, ⟨hr, rfl, hWu.pr⟩, ?_, ?_, ?_⟩
    · simp only [cs, upd_at, hWu.co]; omega
    · exact List.nodup_cons.2 ⟨hnot, hWu.nd⟩
    · refine ⟨?_, hWu.dm.le hle⟩
      rw [upd_at]; simp only [cs, hWu.co]; omega
  · rw [upd_ne _ _ e]
    rcases h.hw v hv with he | ⟨h1, r, hW⟩
    · exact .inl he
    · exact .inr ⟨h1, r, hW.pr, by rw [upd_ne _ _ e]; exact hW.co, hW.nd, hW.dm.le hle⟩
def Cl (G : Gr) (F : Int) (D : Nat → Int) : Prop := ∀ i, G.res i → D (G.src i) < F → D (G.dst i) ≤ D (G.src i) + G.c i
theorem cl_path {F : Int} {D : Nat → Int} (h0 : D G.s = 0) (hF : 0 < F) (hc : Cl G F D) (hfin : ∀ i, G.res i → D (G.src i) < F → D (G.dst i) < F) : ∀ {v : Nat} {r : List Nat}, PR G v r → D v ≤ cs G r ∧ D v < F
  | v, [], h => by rw [show v = G.s from h, h0]; simp only [cs]; omega
  | v, i :: r, h => by
    have ih := cl_path h0 hF hc hfin h.2.2
    have h1 := hc i h.1 ih.2
    have h2 := hfin i h.1 ih.2
    rw [h.2.1] at h1 h2
    simp only [cs]; omega
def Tight (G : Gr) (D : Nat → Int) : Nat → List Nat → Prop
  | _, [] => True
  | _, i :: r => D (G.dst i) = D (G.src i) + G.c i ∧ Tight G D (G.src i) r
theorem tight_of {F : Int} {D : Nat → Int} (h0 : D G.s = 0) (hF : 0 < F) (hc : Cl G F D) (hfin : ∀ i, G.res i → D (G.src i) < F → D (G.dst i) < F) : ∀ {v : Nat} {r : List Nat}, PR G v r → cs G r = D v → Tight G D v r
  | v, [], _, _ => trivial
  | v, i :: r, h, he => by
    have h1 := cl_path h0 hF hc hfin h.2.2
    have h2 := hc i h.1 h1.2
    have h3 : cs G (i :: r) = G.c i + cs G r := rfl
    have hd := h.2.1
    rw [h3] at he
    rw [hd] at h2
    refine ⟨by rw [hd]; omega, tight_of h0 hF hc hfin h.2.2 (by omega)⟩
end
end Go.Fx.Lb
namespace Go.Fx.C
open Go Go.Fx Go.Proofs
def Slack (arcs : List Arc) (x : List Int) (p : Nat → Int) : Prop :=
  ∀ k, k < arcs.length → ((gA arcs k).cost + p (gA arcs k).from_.toNat - p (gA arcs k).to.toNat < 0 → (gA arcs k).cap ≤ x.getD k 0) ∧ (0 < (gA arcs k).cost + p (gA arcs k).from_.toNat - p (gA arcs k).to.toNat → x.getD k 0 ≤ 0)
theorem OkF.at {n : Int} {arcs : List Arc} {f t : Int} {x : List Int} (h : OkF n arcs f t x) {k : Nat} (hk : k < arcs.length) : 0 ≤ x.getD k 0 ∧ x.getD k 0 ≤ (gA arcs k).cap := by
  have hl := h.hl
  have := h.hp k (by omega) hk
  rw [gA_at hk, getD_nat (by omega)]
  exact this
theorem sm_nonneg {g : Nat → Int} : ∀ n, (∀ v, v < n → 0 ≤ g v) → 0 ≤ sm g n
  | 0, _ => Int.le_refl _
  | n + 1, hh => by
    have := sm_nonneg n fun v hv => hh v (by omega)
    have := hh n (by omega)
    simp only [sm]; omega
theorem cheaper {N : Nat} {arcs : List Arc} (hV : Val N arcs) {f t : Int} (hf : 0 ≤ f ∧ f < N) (ht : 0 ≤ t ∧ t < N) (hft : f ≠ t) {x g : List Int} (hx : OkF N arcs f t x) (hg : OkF N arcs f t g) {p : Nat → Int} (hs : Slack arcs x p) :
    (p t.toNat - p f.toNat) * (valTo arcs f g arcs.length - valTo arcs f x arcs.length) ≤ totTo arcs g arcs.length - totTo arcs x arcs.length := by
  have h1 := pot_flow hV hf ht hft x hx.hz p
  have h2 := pot_flow hV hf ht hft g hg.hz p
  have h3 : 0 ≤ sm (fun j => (g.getD j 0 - x.getD j 0) * ((gA arcs j).cost + p (gA arcs j).from_.toNat - p (gA arcs j).to.toNat)) arcs.length := by
    refine sm_nonneg _ fun k hk => mul_sign (fun h => ?_) (fun h => ?_)
    · have := (hs k hk).1 h
      have := hg.at hk
      omega
    · have := (hs k hk).2 h
      have := hg.at hk
      omega
  have h4 : sm (fun j => (g.getD j 0 - x.getD j 0) * ((gA arcs j).cost + p (gA arcs j).from_.toNat - p (gA arcs j).to.toNat)) arcs.length
      = (totTo arcs g arcs.length - totTo arcs x arcs.length) + ((p f.toNat - p t.toNat) * valTo arcs f g arcs.length - (p f.toNat - p t.toNat) * valTo arcs f x arcs.length) := by
    rw [totTo_sm, totTo_sm, ← h1, ← h2, ← sm_sub, ← sm_sub, ← sm_add]
    refine sm_congr _ fun k _ => ?_
    generalize g.getD k 0 = a
    generalize x.getD k 0 = b
    generalize p (gA arcs k).from_.toNat = c
    generalize p (gA arcs k).to.toNat = d
    generalize (gA arcs k).cost = e
    rw [show e + c - d = e + (c - d) by omega, Int.mul_add, Int.sub_mul, Int.sub_mul]
  rw [h4] at h3
  rw [show p t.toNat - p f.toNat = -(p f.toNat - p t.toNat) by omega, Int.neg_mul, Int.mul_sub]
  omega
theorem cut_most {N : Nat} {arcs : List Arc} (hV : Val N arcs) {f t : Int} (hf : 0 ≤ f ∧ f < N) (ht : 0 ≤ t ∧ t < N) (hft : f ≠ t) {x g : List Int} (hx : OkF N arcs f t x) (hg : OkF N arcs f t g) (c : Nat → Bool) (cf : c f.toNat = true) (ct : c t.toNat = false)
    (hc : ∀ k, k < arcs.length → (c (gA arcs k).from_.toNat = true → c (gA arcs k).to.toNat = false → x.getD k 0 = (gA arcs k).cap) ∧ (c (gA arcs k).to.toNat = true → c (gA arcs k).from_.toNat = false → x.getD k 0 = 0)) :
    valTo arcs f g arcs.length ≤ valTo arcs f x arcs.length := by
  have h1 := pot_flow hV hf ht hft x hx.hz fun v => if c v = true then 1 else 0
  have h2 := pot_flow hV hf ht hft g hg.hz fun v => if c v = true then 1 else 0
  have e : ((if c f.toNat = true then (1 : Int) else 0) - (if c t.toNat = true then 1 else 0)) = 1 := by rw [cf, ct]; rfl
  simp only [e, Int.one_mul] at h1 h2
  rw [← h1, ← h2]
  refine sm_le _ fun k hk => ?_
  have h3 := hc k hk
  have h4 := hx.at hk
  have h5 := hg.at hk
  generalize c (gA arcs k).from_.toNat = a at *
  generalize c (gA arcs k).to.toNat = b at *
  generalize g.getD k 0 = u at *
  generalize x.getD k 0 = w at *
  cases a <;> cases b <;> simp at * <;> omega
theorem OkP.slack {N : Nat} {arcs : List Arc} {f : Int} {x price : List Int} (h : OkP N arcs f x price) : Slack arcs x fun v => price.getD v 0 := by
  intro k hk
  rw [gA_at hk]
  exact h.ha k hk
theorem OkC.cut {N : Nat} {arcs : List Arc} (hV : Val N arcs) {f t : Int} (hf : 0 ≤ f ∧ f < N) (ht : 0 ≤ t ∧ t < N) {x cut : List Int} (h : OkC N arcs f t x cut) : ∀ k, k < arcs.length → (hasB cut ((gA arcs k).from_.toNat : Int) = true → hasB cut ((gA arcs k).to.toNat : Int) = false → x.getD k 0 = (gA arcs k).cap) ∧ (hasB cut ((gA arcs k).to.toNat : Int) = true → hasB cut ((gA arcs k).from_.toNat : Int) = false → x.getD k 0 = 0) := by
  intro k hk
  have hv := hV.at hk
  have := h.ha.h k hk hk
  rw [Int.toNat_of_nonneg hv.1.1, Int.toNat_of_nonneg hv.2.1.1, gA_at hk]
  exact this
end Go.Fx.C
namespace Go.Fx.C
open Go Go.Fx Go.Proofs
def wsrc (arcs : List Arc) (i : Nat) : Nat := if i % 2 = 0 then (gA arcs (i / 2)).from_.toNat else (gA arcs (i / 2)).to.toNat
def wdst (arcs : List Arc) (i : Nat) : Nat := if i % 2 = 0 then (gA arcs (i / 2)).to.toNat else (gA arcs (i / 2)).from_.toNat
def wcst (arcs : List Arc) (i : Nat) : Int := if i % 2 = 0 then (gA arcs (i / 2)).cost else -(gA arcs (i / 2)).cost
def wrm (arcs : List Arc) (x : List Int) (i : Nat) : Int := if i % 2 = 0 then (gA arcs (i / 2)).cap - x.getD (i / 2) 0 else x.getD (i / 2) 0
def wres (arcs : List Arc) (x : List Int) (i : Nat) : Prop := i / 2 < arcs.length ∧ 0 < wrm arcs x i
def rcst (arcs : List Arc) (p : Nat → Int) (i : Nat) : Int := wcst arcs i + p (wsrc arcs i) - p (wdst arcs i)
def NN (arcs : List Arc) (x : List Int) (p : Nat → Int) : Prop := ∀ i, wres arcs x i → 0 ≤ rcst arcs p i
theorem w_in {N : Nat} {arcs : List Arc} (hV : Val N arcs) {i : Nat} (h : i / 2 < arcs.length) : wsrc arcs i < N ∧ wdst arcs i < N ∧ wsrc arcs i ≠ wdst arcs i := by
  have := hV.at h
  unfold wsrc wdst
  split <;> omega
theorem wcst_b {N : Nat} {arcs : List Arc} (hV : Val N arcs) {i : Nat} (h : i / 2 < arcs.length) : -1048576 ≤ wcst arcs i ∧ wcst arcs i ≤ 1048576 := by
  have := hV.at h
  unfold wcst
  split <;> omega
theorem nn_slack {arcs : List Arc} {x : List Int} {p : Nat → Int} : NN arcs x p ↔ Slack arcs x p := by
  constructor
  · intro h k hk
    refine ⟨fun h1 => ?_, fun h1 => ?_⟩
    · apply Classical.byContradiction
      intro h2
      have := h (2 * k) ⟨by omega, by
        unfold wrm
        rw [if_pos (by omega), show 2 * k / 2 = k by omega]; omega⟩
      unfold rcst wcst wsrc wdst at this
      rw [if_pos (by omega), if_pos (by omega), if_pos (by omega), show 2 * k / 2 = k by omega] at this
      omega
    · apply Classical.byContradiction
      intro h2
      have := h (2 * k + 1) ⟨by omega, by
        unfold wrm
        rw [if_neg (by omega), show (2 * k + 1) / 2 = k by omega]; omega⟩
      unfold rcst wcst wsrc wdst at this
      rw [if_neg (by omega), if_neg (by omega), if_neg (by omega), show (2 * k + 1) / 2 = k by omega] at this
      omega
  · intro h i ⟨hi, hr⟩
    have := h _ hi
    unfold wrm at hr
    unfold rcst wcst wsrc wdst
    split at hr
    · rename_i h0
      rw [if_pos h0, if_pos h0, if_pos h0]
      have := this.1
      apply Classical.byContradiction
      intro h3
      have := this (by omega)
      omega
    · rename_i h0
      rw [if_neg h0, if_neg h0, if_neg h0]
      have := this.2
      apply Classical.byContradiction
      intro h3
      have := this (by omega)
      omega
def wix (arcs : List Arc) (v k : Nat) : Nat := if (gA arcs k).from_ = v then 2 * k else 2 * k + 1
theorem wix_half {arcs : List Arc} {v k : Nat} : wix arcs v k / 2 = k := by unfold wix; split <;> omega
theorem wix_src {N : Nat} {arcs : List Arc} (hV : Val N arcs) {v k : Nat} (hk : k < arcs.length) (h : (gA arcs k).from_ = v ∨ (gA arcs k).to = v) : wsrc arcs (wix arcs v k) = v := by
  have := hV.at hk
  unfold wsrc
  rw [wix_half]
  unfold wix
  split
  · rw [if_pos (by omega)]; omega
  · rw [if_neg (by omega)]; omega
theorem wix_room {arcs : List Arc} {x : List Int} {v k : Nat} : wrm arcs x (wix arcs v k) = roomOf arcs x v k := by
  unfold wrm roomOf
  rw [wix_half]
  unfold wix
  split
  · rw [if_pos (by omega)]
  · rw [if_neg (by omega)]
theorem wix_all {N : Nat} {arcs : List Arc} (hV : Val N arcs) {i v : Nat} (hi : i / 2 < arcs.length) (hs : wsrc arcs i = v) : i / 2 ∈ outs arcs v arcs.length ∧ wix arcs v (i / 2) = i := by
  have := hV.at hi
  unfold wsrc at hs
  constructor
  · unfold outs
    rw [List.mem_filter, List.mem_range, decide_eq_true_eq]
    refine ⟨hi, ?_⟩
    split at hs
    · left; omega
    · right; omega
  · unfold wix
    split at hs
    · rw [if_pos (by omega)]; omega
    · rw [if_neg (by omega)]; omega
def grD (N : Nat) (arcs : List Arc) (x : List Int) (p : Nat → Int) (s : Nat) (hV : Val N arcs) (hs : s < N) (hn : NN arcs x p) : Lb.Gr :=
  ⟨N, s, wsrc arcs, wdst arcs, rcst arcs p, wres arcs x, fun _ => 0, hs, fun i h => ⟨(w_in hV h.1).1, (w_in hV h.1).2.1⟩, fun i h => by have := hn i h; show 0 ≤ rcst arcs p i + 0 - 0; omega⟩
def far : Int := 4611686018427387904
def KB : Int := 67711795200
def cn (d : Int) : Int := if d < far then KB + 1 - d else 0
structure DI (N : Nat) (G : Lb.Gr) (n : Nat) (ks vs D : List Int) : Prop where
  lab : Lb.Lab G far (fun u => D.getD u 0)
  len : D.length = N
  ent : ∀ a b, EntH n ks vs a b → (0 ≤ b ∧ b < N) ∧ (0 ≤ a ∧ a ≤ KB) ∧ D.getD b.toNat 0 ≤ a
  cnt : (n : Int) ≤ sm (fun u => cn (D.getD u 0)) N
  h1 : n ≤ ks.length
  h2 : n ≤ vs.length
def clN (G : Lb.Gr) (D : List Int) (u : Nat) : Prop := ∀ i, G.res i → G.src i = u → D.getD (G.dst i) 0 ≤ D.getD u 0 + G.c i
def Pend (N : Nat) (G : Lb.Gr) (n : Nat) (ks vs D : List Int) (Q : Nat → Prop) : Prop := ∀ u, u < N → Q u → D.getD u 0 < far → EntH n ks vs (D.getD u 0) u ∨ clN G D u
section
variable {N : Nat} {arcs : List Arc} {x : List Int} {p : Nat → Int} {s : Nat} {hV : Val N arcs} {hs : s < N} {hn : NN arcs x p}
theorem lab_b (hN : N ≤ 64) (hp : ∀ j, 0 ≤ p j ∧ p j ≤ 1073741824) {D : Nat → Int} (h : Lb.Lab (grD N arcs x p s hV hs hn) far D) {u : Nat} (hu : u < N) : 0 ≤ D u ∧ (D u = far ∨ D u ≤ KB) := by
  rcases h.hw u hu with he | ⟨_, r, hW⟩
  · rw [he]; exact ⟨by decide, .inl rfl⟩
  · have h1 := Lb.cs_bound (G := grD N arcs x p s hV hs hn) (B := 0) (C := 1074790400) (fun i hr => by
      refine ⟨hn i hr, ?_⟩
      have := wcst_b hV hr.1
      have h2 := hp (wsrc arcs i)
      have h3 := hp (wdst arcs i)
      show wcst arcs i + p (wsrc arcs i) - p (wdst arcs i) ≤ _
      omega) hW.pr
    have hl : r.length < N := hW.len
    rw [hW.co] at h1
    have : (r.length : Int) * 1074790400 ≤ 63 * 1074790400 := Int.mul_le_mul_of_nonneg_right (by omega) (by omega)
    exact ⟨by omega, .inr (by unfold KB; omega)⟩
theorem n_b (hN : N ≤ 64) {D : List Int} (hD : ∀ u, u < N → 0 ≤ D.getD u 0) {n : Nat} (h : (n : Int) ≤ sm (fun u => cn (D.getD u 0)) N) : n ≤ 8796093022207 := by
  have h1 : sm (fun u => cn (D.getD u 0)) N ≤ sm (fun _ => KB + 1) N := sm_le N fun u hu => by
    have := hD u hu
    unfold cn
    split
    · omega
    · unfold KB; omega
  have h2 : ∀ m : Nat, sm (fun _ => KB + 1) m = (m : Int) * (KB + 1) := by
    intro m
    induction m with
    | zero => simp [sm]
    | succ m ih =>
      simp only [sm, ih]
      rw [Int.natCast_add, Int.add_mul]; simp
  rw [h2] at h1
  have : (N : Int) * (KB + 1) ≤ 64 * (KB + 1) := Int.mul_le_mul_of_nonneg_right (by omega) (by decide)
  have e : (64 : Int) * (KB + 1) = 4333554892864 := by decide
  omega
theorem sm_upd {g h : Nat → Int} {v : Nat} : ∀ n, v < n → (∀ u, u < n → u ≠ v → g u = h u) → sm g n = sm h n + (g v - h v)
  | 0, hv, _ => by omega
  | n + 1, hv, hh => by
    simp only [sm]
    by_cases e : v = n
    · subst e
      rw [sm_congr v fun u hu => hh u (by omega) (by omega)]; omega
    · rw [sm_upd n (by omega) fun u hu hne => hh u (by omega) hne, hh n (by omega) (Ne.symm e)]; omega
end
end Go.Fx.C
namespace Go.Fx.C
open Go Go.Fx Go.Proofs
theorem getD_set {l : List Int} {i j : Nat} {x : Int} (h : i < l.length) : (l.set i x).getD j 0 = if j = i then x else l.getD j 0 := getD_set0 h
def meas (N n : Nat) (D : List Int) : Nat := 2 * (sm (fun u => D.getD u 0) N).toNat + n
section
variable {N : Nat} {arcs : List Arc} {x : List Int} {p : Nat → Int} {s : Nat} {hV : Val N arcs} {hs : s < N} {hn : NN arcs x p}
theorem DI.nn {n : Nat} {ks vs D : List Int} (hN : N ≤ 64) (hp : ∀ j, 0 ≤ p j ∧ p j ≤ 1073741824) (h : DI N (grD N arcs x p s hV hs hn) n ks vs D) {u : Nat} (hu : u < N) : 0 ≤ D.getD u 0 ∧ (D.getD u 0 = far ∨ D.getD u 0 ≤ KB) := lab_b hN hp h.lab hu
theorem DI.n_le {n : Nat} {ks vs D : List Int} (hN : N ≤ 64) (hp : ∀ j, 0 ≤ p j ∧ p j ≤ 1073741824) (h : DI N (grD N arcs x p s hV hs hn) n ks vs D) : n ≤ 8796093022207 := n_b hN (fun u hu => (h.nn hN hp hu).1) h.cnt
theorem DI.push {n : Nat} {ks vs D ks' vs' : List Int} (hN : N ≤ 64) (hp : ∀ j, 0 ≤ p j ∧ p j ≤ 1073741824) (h : DI N (grD N arcs x p s hV hs hn) n ks vs D) {i : Nat} (hr : wres arcs x i) (hu : D.getD (wsrc arcs i) 0 < far) (hlt : D.getD (wsrc arcs i) 0 + rcst arcs p i < D.getD (wdst arcs i) 0)
    (hq : PushQ n ks vs (D.getD (wsrc arcs i) 0 + rcst arcs p i) (wdst arcs i : Nat) (ks', vs')) :
    DI N (grD N arcs x p s hV hs hn) (n + 1) ks' vs' (D.set (wdst arcs i) (D.getD (wsrc arcs i) 0 + rcst arcs p i)) ∧ meas N (n + 1) (D.set (wdst arcs i) (D.getD (wsrc arcs i) 0 + rcst arcs p i)) < meas N n D := by
  obtain ⟨w1, w2, w3⟩ := w_in hV hr.1
  obtain ⟨hl, hds⟩ := h.lab.relax (i := i) hr hu hlt
  have hdl : wdst arcs i < D.length := by rw [h.len]; exact w2
  have efn : (fun u => (D.set (wdst arcs i) (D.getD (wsrc arcs i) 0 + rcst arcs p i)).getD u 0) = Lb.upd (fun u => D.getD u 0) (wdst arcs i) (D.getD (wsrc arcs i) 0 + rcst arcs p i) := by
    funext u
    rw [getD_set hdl]; rfl
  have hl' : Lb.Lab (grD N arcs x p s hV hs hn) far (fun u => (D.set (wdst arcs i) (D.getD (wsrc arcs i) 0 + rcst arcs p i)).getD u 0) := by rw [efn]; exact hl
  have hnew : 0 ≤ D.getD (wsrc arcs i) 0 + rcst arcs p i := by
    have := (h.nn hN hp w1).1
    have := hn i hr
    omega
  have hold := h.nn hN hp w2
  have hlow : D.getD (wsrc arcs i) 0 + rcst arcs p i < far := by
    rcases hold.2 with e | e
    · omega
    · have : KB < far := by decide
      omega
  have hkb : D.getD (wsrc arcs i) 0 + rcst arcs p i ≤ KB := by
    have := lab_b hN hp hl' w2
    rw [getD_set hdl, if_pos rfl] at this
    rcases this.2 with e | e
    · omega
    · exact e
  generalize hnv : D.getD (wsrc arcs i) 0 + rcst arcs p i = nv at *
  have hge : ∀ u, (D.set (wdst arcs i) nv).getD u 0 = if u = wdst arcs i then nv else D.getD u 0 := fun u => getD_set hdl
  refine ⟨⟨hl', by rw [List.length_set]; exact h.len, fun a b hab => ?_, ?_, by have := hq.h1; simp only at this; omega, by have := hq.h2; simp only at this; omega⟩, ?_⟩
  · rw [hge]
    rcases (hq.he a b).1 hab with h1 | ⟨rfl, rfl⟩
    · obtain ⟨q1, q2, q3⟩ := h.ent a b h1
      refine ⟨q1, q2, ?_⟩
      split
      · rename_i e; rw [e] at q3; omega
      · exact q3
    · refine ⟨⟨by omega, by omega⟩, ⟨hnew, hkb⟩, ?_⟩
      rw [if_pos (by omega)]; exact Int.le_refl _
  · have hc := h.cnt
    rw [sm_upd (v := wdst arcs i) (h := fun u => cn (D.getD u 0)) N w2 (fun u _ hne => by simp only [hge, if_neg hne])]
    simp only [hge, if_true]
    have : cn (D.getD (wdst arcs i) 0) + 1 ≤ cn nv := by
      unfold cn
      rw [if_pos hlow]
      split
      · omega
      · omega
    omega
  · unfold meas
    rw [sm_upd (v := wdst arcs i) (h := fun u => D.getD u 0) N w2 (fun u _ hne => by simp only [hge, if_neg hne])]
    simp only [hge, if_true]
    have h1 : 0 ≤ sm (fun u => (D.set (wdst arcs i) nv).getD u 0) N := sm_nonneg N fun u hu => (lab_b hN hp hl' hu).1
    rw [sm_upd (v := wdst arcs i) (h := fun u => D.getD u 0) N w2 (fun u _ hne => by simp only [hge, if_neg hne])] at h1
    simp only [hge, if_true] at h1
    omega
theorem Pend.push {n : Nat} {ks vs D ks' vs' : List Int} {Q : Nat → Prop} {G : Lb.Gr} (h : Pend N G n ks vs D Q) {t : Nat} {nv : Int} (ht : t < D.length) (hlt : nv < D.getD t 0) (hq : PushQ n ks vs nv (t : Nat) (ks', vs')) : Pend N G (n + 1) ks' vs' (D.set t nv) Q := by
  intro u hu hQ hf
  have hge : ∀ u, (D.set t nv).getD u 0 = if u = t then nv else D.getD u 0 := fun u => getD_set ht
  rw [hge] at hf ⊢
  by_cases e : u = t
  · subst e
    rw [if_pos rfl]
    exact .inl ((hq.he _ _).2 (.inr ⟨rfl, rfl⟩))
  · rw [if_neg e] at hf ⊢
    rcases h u hu hQ hf with h1 | h1
    · exact .inl ((hq.he _ _).2 (.inl h1))
    · right
      intro i hi hsrc
      have := h1 i hi hsrc
      rw [hge, hge, if_neg e]
      split
      · rename_i e2; rw [e2] at this; omega
      · exact this
theorem DI.pop {n : Nat} {ks vs D : List Int} {G : Lb.Gr} (h : DI N G n ks vs D) (hn0 : 0 < n) {g : (Int × Int) × List Int × List Int} (hq : PopQ n ks vs g) : DI N G (n - 1) g.2.1 g.2.2 D ∧ meas N (n - 1) D < meas N n D :=
  ⟨⟨h.lab, h.len, fun a b hab => h.ent a b ((hq.he a b).2 (.inl hab)), by have := h.cnt; omega, hq.h1, hq.h2⟩, by unfold meas; omega⟩
theorem Pend.pop {n : Nat} {ks vs D : List Int} {G : Lb.Gr} (h : Pend N G n ks vs D fun _ => True) {g : (Int × Int) × List Int × List Int} (hq : PopQ n ks vs g) : Pend N G (n - 1) g.2.1 g.2.2 D fun u => ¬ (g.1.1 = D.getD u 0 ∧ g.1.2 = u) := by
  intro u hu hQ hf
  rcases h u hu trivial hf with h1 | h1
  · rcases (hq.he _ _).1 h1 with h2 | ⟨h2, h3⟩
    · exact .inl h2
    · exact absurd ⟨h2.symm, h3.symm⟩ hQ
  · exact .inr h1
theorem Pend.done {n : Nat} {ks vs D : List Int} {G : Lb.Gr} {v : Nat} (h : Pend N G n ks vs D fun u => u ≠ v) (hc : clN G D v) : Pend N G n ks vs D fun _ => True := by
  intro u hu _ hf
  by_cases e : u = v
  · subst e; exact .inr hc
  · exact h u hu e hf
structure DistQ (N : Nat) (G : Lb.Gr) (D : List Int) : Prop where
  lab : Lb.Lab G far (fun u => D.getD u 0)
  len : D.length = N
  cl : Lb.Cl G far (fun u => D.getD u 0)
theorem DI.fin {ks vs D : List Int} (h : DI N (grD N arcs x p s hV hs hn) 0 ks vs D) (hP : Pend N (grD N arcs x p s hV hs hn) 0 ks vs D fun _ => True) : DistQ N (grD N arcs x p s hV hs hn) D := by
  refine ⟨h.lab, h.len, fun i hr hf => ?_⟩
  rcases hP (wsrc arcs i) (w_in hV hr.1).1 trivial hf with ⟨j, hj, _⟩ | h1
  · omega
  · exact h1 i hr rfl
theorem DI.start {ks vs : List Int} (hq : PushQ 0 [] [] 0 (s : Nat) (ks, vs)) : DI N (grD N arcs x p s hV hs hn) 1 ks vs ((List.replicate N far).set s 0) ∧ Pend N (grD N arcs x p s hV hs hn) 1 ks vs ((List.replicate N far).set s 0) fun _ => True := by
  have hsl : s < (List.replicate N far).length := by simpa using hs
  have hge : ∀ u, u < N → ((List.replicate N far).set s 0).getD u 0 = if u = s then 0 else far := by
    intro u hu
    rw [getD_set hsl]
    split
    · rfl
    · rw [List.getD_eq_getElem?_getD, List.getElem?_replicate, if_pos hu]; rfl
  have hlab := Lb.Lab.start (G := grD N arcs x p s hV hs hn) (F := far) (by decide)
  have hent : ∀ a b, EntH 1 ks vs a b → a = 0 ∧ b = s := by
    intro a b h
    rcases (hq.he a b).1 h with ⟨j, hj, _⟩ | h
    · omega
    · exact h
  refine ⟨⟨⟨?_, fun v hv => ?_⟩, by simp, fun a b hab => ?_, ?_, by have := hq.h1; simp only at this; omega, by have := hq.h2; simp only at this; omega⟩, fun u hu _ hf => ?_⟩
  · show ((List.replicate N far).set s 0).getD s 0 = 0
    rw [hge s hs, if_pos rfl]
  · rw [hge v hv]
    rcases hlab.hw v hv with h1 | ⟨h1, r, hW⟩
    · exact .inl h1
    · right
      by_cases e : v = s
      · subst e
        rw [if_pos rfl]
        refine ⟨by decide, [], rfl, ?_, by simp [Lb.vs], ?_⟩
        · show (0 : Int) = _
          simp only [hge v hv, if_true]
        · show ((List.replicate N far).set v 0).getD v 0 ≤ 0
          rw [hge v hv, if_pos rfl]; exact Int.le_refl _
      · simp only [show ((grD N arcs x p s hV hs hn).s) = s from rfl, if_neg e] at h1
        exact absurd h1 (Int.lt_irrefl _)
  · obtain ⟨rfl, rfl⟩ := hent a b hab
    refine ⟨⟨by omega, by omega⟩, ⟨Int.le_refl _, by decide⟩, ?_⟩
    rw [Int.toNat_natCast, hge s hs, if_pos rfl]; exact Int.le_refl _
  · have h1 : sm (fun u => if u = s then (1 : Int) else 0) N ≤ sm (fun u => cn (((List.replicate N far).set s 0).getD u 0)) N := by
      refine sm_le N fun u hu => ?_
      rw [hge u hu]
      split
      · decide
      · unfold cn; rw [if_neg (by omega)]; exact Int.le_refl _
    rw [sm_one, if_pos hs] at h1
    simpa using h1
  · rw [hge u hu] at hf
    left
    split at hf
    · rename_i e
      subst e
      rw [hge u hu, if_pos rfl]
      exact (hq.he _ _).2 (.inr ⟨rfl, rfl⟩)
    · exact absurd hf (Int.lt_irrefl _)
end
end Go.Fx.C
namespace Go.Fx.C
open Go Go.Fx Go.Proofs
theorem getD_setB {d : List Bool} {i j : Nat} {b : Bool} (h : i < d.length) : (d.set i b).getD j false = if j = i then b else d.getD j false := by
  rw [List.getD_eq_getElem?_getD, List.getD_eq_getElem?_getD, List.getElem?_set]
  by_cases e : i = j
  · subst e; simp [h]
  · rw [if_neg e, if_neg (Ne.symm e)]
theorem valTo_set {arcs : List Arc} {x : List Int} {k : Nat} {v : Int} (u : Int) (hk : k < x.length) : ∀ m, valTo arcs u (x.set k v) m = valTo arcs u x m + (if k < m then (if (gA arcs k).from_ = u then v - x.getD k 0 else 0) - (if (gA arcs k).to = u then v - x.getD k 0 else 0) else 0)
  | 0 => by simp [valTo]
  | m + 1 => by
    have e1 : ∀ y : List Int, valTo arcs u y (m + 1) = valTo arcs u y m + (if (gA arcs m).from_ = u then y.getD m 0 else 0) - (if (gA arcs m).to = u then y.getD m 0 else 0) := fun _ => rfl
    rw [e1, e1, valTo_set u hk m, getD_set hk]
    by_cases e : m = k
    · subst e
      rw [if_pos rfl, if_neg (Nat.lt_irrefl _), if_pos (Nat.lt_succ_self _)]
      split <;> split <;> omega
    · rw [if_neg e]
      generalize valTo arcs u x m = V
      generalize (if (gA arcs m).from_ = u then x.getD m 0 else 0) = F
      generalize (if (gA arcs m).to = u then x.getD m 0 else 0) = G
      generalize (if (gA arcs k).from_ = u then v - x.getD k 0 else 0) = A
      generalize (if (gA arcs k).to = u then v - x.getD k 0 else 0) = B
      by_cases e2 : k < m
      · rw [if_pos e2, if_pos (by omega)]; omega
      · rw [if_neg e2, if_neg (by omega)]; omega
structure XB (arcs : List Arc) (x : List Int) : Prop where
  hl : x.length = arcs.length
  hb : ∀ k, k < arcs.length → 0 ≤ x.getD k 0 ∧ x.getD k 0 ≤ (gA arcs k).cap
def vd (v : Nat) (n : Int) (w : Nat) : Int := if w = v then n else 0
theorem vd_add {v w : Nat} {a b : Int} : vd v (a + b) w = vd v a w + vd v b w := by unfold vd; split <;> omega
theorem vd_0 {v w : Nat} : vd v 0 w = 0 := by unfold vd; split <;> rfl
structure FI (arcs : List Arc) (x : List Int) (p : Nat → Int) (to : Nat) (d : List Bool) (v : Nat) (n : Int) (x' : List Int) (d' : List Bool) : Prop where
  xb : XB arcs x'
  dl : d'.length = d.length
  val : ∀ w : Nat, valTo arcs w x' arcs.length = valTo arcs w x arcs.length + vd v n w - vd to n w
  tig : ∀ k, k < arcs.length → x'.getD k 0 ≠ x.getD k 0 → rcst arcs p (2 * k) = 0
  mono : ∀ u, d.getD u false = true → d'.getD u false = true
  kept : ∀ k, k < arcs.length → (d.getD (gA arcs k).from_.toNat false = true ∨ d.getD (gA arcs k).to.toNat false = true) → x'.getD k 0 = x.getD k 0
def CLo (arcs : List Arc) (x : List Int) (p : Nat → Int) (to : Nat) (d : List Bool) (u : Nat) : Prop := u ≠ to ∧ ∀ i, wres arcs x i → wsrc arcs i = u → rcst arcs p i = 0 → d.getD (wdst arcs i) false = true
theorem CLo.mono {arcs : List Arc} {x : List Int} {p : Nat → Int} {to u : Nat} {d d' : List Bool} (h : CLo arcs x p to d u) (hm : ∀ u, d.getD u false = true → d'.getD u false = true) : CLo arcs x p to d' u :=
  ⟨h.1, fun i h1 h2 h3 => hm _ (h.2 i h1 h2 h3)⟩
structure FQ (arcs : List Arc) (x : List Int) (p : Nat → Int) (to : Nat) (d : List Bool) (v : Nat) (most : Int) (r : Int × List Int × List Bool) : Prop where
  fi : FI arcs x p to d v r.1 r.2.1 r.2.2
  n0 : 0 ≤ r.1 ∧ r.1 ≤ most
  zero : r.1 = 0 → 0 < most → r.2.1 = x ∧ r.2.2.getD v false = true ∧ ∀ u, r.2.2.getD u false = true → d.getD u false = false → CLo arcs x p to r.2.2 u
structure FN (N : Nat) (arcs : List Arc) (x : List Int) (p : Nat → Int) (to : Nat) (d : List Bool) (v : Nat) (most : Int) (i : Nat) (g : Int × List Int × List Bool) : Prop where
  fi : FI arcs x p to d v g.1 g.2.1 g.2.2
  n0 : 0 ≤ g.1 ∧ g.1 ≤ most
  nd : g.2.2.getD v false = true
  zero : g.1 = 0 → g.2.1 = x ∧ (∀ u, g.2.2.getD u false = true → d.getD u false = false → u ≠ v → CLo arcs x p to g.2.2 u) ∧
    ∀ j (hj : j < (outs arcs v arcs.length).length), j < i → 0 < roomOf arcs x v (outs arcs v arcs.length)[j] → rcst arcs p (wix arcs v (outs arcs v arcs.length)[j]) = 0 → g.2.2.getD (wdst arcs (wix arcs v (outs arcs v arcs.length)[j])) false = true
section
variable {N : Nat} {arcs : List Arc} {x : List Int} {p : Nat → Int} {to : Nat} {d : List Bool} {v : Nat} {most : Int}
theorem FQ.base (hx : XB arcs x) (hm : 0 ≤ most) (h : v = to ∨ most = 0) : FQ arcs x p to d v most (most, x, d) := by
  refine ⟨⟨hx, rfl, fun w => ?_, fun k _ hk => absurd rfl hk, fun u hu => hu, fun k _ _ => rfl⟩, ⟨hm, Int.le_refl _⟩, fun h1 h2 => absurd h1 (by simp only; omega)⟩
  rcases h with h | h
  · subst h; simp only; omega
  · subst h; simp only [vd_0]; omega
theorem FN.start (hx : XB arcs x) (hm : 0 ≤ most) (hv : v < d.length) : FN N arcs x p to d v most 0 (0, x, d.set v true) := by
  have hg : ∀ u, (d.set v true).getD u false = if u = v then true else d.getD u false := fun u => getD_setB hv
  refine ⟨⟨hx, by simp, fun w => by simp only [vd_0]; omega, fun k _ hk => absurd rfl hk, fun u hu => ?_, fun k _ _ => rfl⟩, ⟨Int.le_refl _, hm⟩, ?_, fun _ => ⟨rfl, fun u h1 h2 h3 => ?_, fun j _ hj => by omega⟩⟩
  · show (d.set v true).getD u false = true
    rw [hg]; split
    · rfl
    · exact hu
  · show (d.set v true).getD v false = true
    rw [hg, if_pos rfl]
  · rw [show ((0, x, d.set v true) : Int × List Int × List Bool).2.2 = d.set v true from rfl, hg, if_neg h3] at h1
    rw [h2] at h1; cases h1
theorem FN.skip {i : Nat} {g : Int × List Int × List Bool} (h : FN N arcs x p to d v most i g) (hi : i < (outs arcs v arcs.length).length)
    (hs : g.1 = 0 → 0 < roomOf arcs x v (outs arcs v arcs.length)[i] → rcst arcs p (wix arcs v (outs arcs v arcs.length)[i]) = 0 → g.2.2.getD (wdst arcs (wix arcs v (outs arcs v arcs.length)[i])) false = true) : FN N arcs x p to d v most (i + 1) g := by
  refine ⟨h.fi, h.n0, h.nd, fun h0 => ?_⟩
  obtain ⟨z1, z2, z3⟩ := h.zero h0
  refine ⟨z1, z2, fun j hj hlt hr hc => ?_⟩
  by_cases e : j = i
  · subst e; exact hs h0 hr hc
  · exact z3 j hj (by omega) hr hc
theorem rcst_b {k : Nat} : rcst arcs p (2 * k + 1) = - rcst arcs p (2 * k) := by
  unfold rcst wcst wsrc wdst
  rw [if_neg (by omega), if_neg (by omega), if_neg (by omega), if_pos (by omega), if_pos (by omega), if_pos (by omega), show (2 * k + 1) / 2 = k by omega, show 2 * k / 2 = k by omega]
  omega
theorem rcst_half {i : Nat} (h : rcst arcs p i = 0) : rcst arcs p (2 * (i / 2)) = 0 := by
  by_cases e : i % 2 = 0
  · rwa [show 2 * (i / 2) = i by omega]
  · have : i = 2 * (i / 2) + 1 := by omega
    rw [this, rcst_b] at h
    omega
def dlt (arcs : List Arc) (v k : Nat) (n : Int) : Int := if (gA arcs k).from_ = v then n else -n
theorem roomOf_eq {x x' : List Int} {k : Nat} (h : x.getD k 0 = x'.getD k 0) : roomOf arcs x v k = roomOf arcs x' v k := by
  unfold roomOf; rw [h]
theorem FN.step (hV : Val N arcs) (hvd : d.getD v false = false) (hm : 0 < most) {i : Nat} {s : Int} {x1 : List Int} {d1 : List Bool} (h : FN N arcs x p to d v most i (s, x1, d1)) {k : Nat} (hi : i < (outs arcs v arcs.length).length) (hk : (outs arcs v arcs.length)[i] = k)
    (hd : d1.getD (wdst arcs (wix arcs v k)) false = false) (hc : rcst arcs p (wix arcs v k) = 0) (hr : 0 < roomOf arcs x1 v k) (hne : s ≠ most) {n : Int} {x2 : List Int} {d2 : List Bool}
    (hq : FQ arcs x1 p to d1 (wdst arcs (wix arcs v k)) (min (roomOf arcs x1 v k) (most - s)) (n, x2, d2)) :
    FN N arcs x p to d v most (i + 1) (s + n, x2.set k (x2.getD k 0 + dlt arcs v k n), d2) := by
  obtain ⟨hj, hend⟩ := outs_in hi
  rw [hk] at hj hend
  have hsrc := wix_src hV hj hend
  obtain ⟨w1, w2, w3⟩ := w_in hV (i := wix arcs v k) (by rw [wix_half]; exact hj)
  rw [hsrc] at w1 w3
  have hva := hV.at hj
  have hfi := h.fi
  have hqi := hq.fi
  simp only at hfi hqi
  have hn := hq.n0
  have hs := h.n0
  simp only at hn hs
  have hmin := Int.min_le_left (roomOf arcs x1 v k) (most - s)
  have hmin2 := Int.min_le_right (roomOf arcs x1 v k) (most - s)
  have hkl : k < x2.length := by rw [hqi.xb.hl]; exact hj
  have hge : ∀ j w, (x2.set k w).getD j 0 = if j = k then w else x2.getD j 0 := fun j w => getD_set hkl
  have hnd : d1.getD v false = true := h.nd
  have hk2 : x2.getD k 0 = x1.getD k 0 := hqi.kept k hj (by
    rcases hend with e | e
    · left; rw [e]; exact hnd
    · right; rw [e]; exact hnd)
  have hends : (gA arcs k).from_ = v ∧ (gA arcs k).to.toNat = wdst arcs (wix arcs v k) ∨ ((gA arcs k).from_ ≠ v ∧ (gA arcs k).to = v ∧ (gA arcs k).from_.toNat = wdst arcs (wix arcs v k)) := by
    unfold wdst
    rw [wix_half]
    unfold wix
    by_cases e : (gA arcs k).from_ = v
    · left; rw [if_pos e, if_pos (by omega)]; exact ⟨e, rfl⟩
    · right; rw [if_neg e, if_neg (by omega)]
      refine ⟨e, ?_, rfl⟩
      rcases hend with e2 | e2
      · exact absurd e2 e
      · exact e2
  have hx1k := hfi.xb.hb k hj
  have hroom : roomOf arcs x1 v k = if (gA arcs k).from_ = v then (gA arcs k).cap - x1.getD k 0 else x1.getD k 0 := rfl
  generalize hu : wdst arcs (wix arcs v k) = u at *
  refine ⟨⟨⟨by rw [List.length_set]; exact hqi.xb.hl, fun j hj2 => ?_⟩, hqi.dl.trans hfi.dl, fun w => ?_, fun j hj2 hne2 => ?_, fun w hw => hqi.mono w (hfi.mono w hw), fun j hj2 hdd => ?_⟩, ⟨by simp only; omega, by simp only; omega⟩, hqi.mono v hnd, fun h0 => ?_⟩
  · show 0 ≤ (x2.set k _).getD j 0 ∧ _
    simp only
    rw [hge]
    split
    · rename_i e
      subst e
      rw [hk2]
      unfold dlt
      split
      · rename_i e; rw [if_pos e] at hroom; omega
      · rename_i e; rw [if_neg e] at hroom; omega
    · exact hqi.xb.hb j hj2
  · have e1 := hqi.val w
    have e2 := hfi.val w
    simp only at e1 e2 ⊢
    rw [valTo_set w hkl, if_pos hj, e1, e2, vd_add, vd_add]
    have : x2.getD k 0 + dlt arcs v k n - x2.getD k 0 = dlt arcs v k n := by omega
    rw [this]
    unfold dlt vd
    rcases hends with ⟨q1, q2⟩ | ⟨q1, q2, q3⟩
    · rw [if_pos q1, q1]
      have t1 : ((v : Int) = w) ↔ w = v := by omega
      have t2 : ((gA arcs k).to = w) ↔ w = u := by omega
      simp only [t1, t2]
      split <;> split <;> split <;> omega
    · rw [if_neg q1, q2]
      have t1 : ((v : Int) = w) ↔ w = v := by omega
      have t2 : ((gA arcs k).from_ = w) ↔ w = u := by omega
      simp only [t1, t2]
      split <;> split <;> split <;> omega
  · simp only at hne2
    rw [hge] at hne2
    by_cases e : j = k
    · subst e
      have := rcst_half hc
      rwa [wix_half] at this
    · rw [if_neg e] at hne2
      by_cases e2 : x2.getD j 0 = x1.getD j 0
      · exact hfi.tig j hj2 (by rw [← e2]; exact hne2)
      · exact hqi.tig j hj2 e2
  · simp only
    rw [hge]
    by_cases e : j = k
    · subst e
      exfalso
      have a1 : d.getD u false = true → False := fun h1 => by rw [hfi.mono u h1] at hd; cases hd
      rcases hends with ⟨q1, q2⟩ | ⟨q1, q2, q3⟩
      · rw [q1, q2, Int.toNat_natCast, hvd] at hdd
        rcases hdd with h1 | h1
        · cases h1
        · exact a1 h1
      · rw [q2, q3, Int.toNat_natCast, hvd] at hdd
        rcases hdd with h1 | h1
        · exact a1 h1
        · cases h1
    · rw [if_neg e]
      rw [← hfi.kept j hj2 hdd]
      exact hqi.kept j hj2 (hdd.imp (hfi.mono _) (hfi.mono _))
  · simp only at h0
    have s0 : s = 0 := by omega
    have n0 : n = 0 := by omega
    obtain ⟨z1, z2, z3⟩ := h.zero s0
    obtain ⟨y1, y2, y3⟩ := hq.zero n0 (by
      rw [s0] at hne ⊢
      exact Int.lt_min.2 ⟨hr, by omega⟩)
    simp only at z1 z2 z3 y1 y2 y3 ⊢
    have ex : x2.set k (x2.getD k 0 + dlt arcs v k n) = x := by
      have : dlt arcs v k n = 0 := by unfold dlt; rw [n0]; split <;> rfl
      rw [this, Int.add_zero, y1, z1]
      rw [List.getD_eq_getElem?_getD, List.getElem?_eq_getElem (by rw [← z1, ← y1]; exact hkl), Option.getD_some, List.set_getElem_self]
    refine ⟨ex, fun w h1 h2 h3 => ?_, fun j hj2 hlt hro hcz => ?_⟩
    · by_cases e : d1.getD w false = true
      · exact (z2 w e h2 h3).mono hqi.mono
      · rw [Bool.not_eq_true] at e
        have := y3 w h1 e
        rwa [z1] at this
    · by_cases e : j = i
      · subst e
        rw [hk, hu]
        exact y2
      · exact hqi.mono _ (z3 j hj2 (by omega) hro hcz)
theorem FN.done (hV : Val N arcs) (hv : v < d.length) (hvt : v ≠ to) (hvd : d.getD v false = false) (hm : 0 < most) {i : Nat} {g : Int × List Int × List Bool} (h : FN N arcs x p to d v most i g) (hi : i = (outs arcs v arcs.length).length ∨ g.1 = most) :
    FQ arcs x p to d v most (g.1, g.2.1, g.2.2.set v (decide (g.1 < most))) := by
  obtain ⟨s, x1, d1⟩ := g
  have hfi := h.fi
  have hn := h.n0
  simp only at hfi hn hi ⊢
  have hl : v < d1.length := by rw [hfi.dl]; exact hv
  have hg : ∀ u b, (d1.set v b).getD u false = if u = v then b else d1.getD u false := fun u b => getD_setB hl
  refine ⟨⟨hfi.xb, by rw [List.length_set]; exact hfi.dl, hfi.val, hfi.tig, fun u hu => ?_, hfi.kept⟩, hn, fun h0 hmm => ?_⟩
  · show (d1.set v _).getD u false = true
    rw [hg]
    by_cases e : u = v
    · subst e; rw [hvd] at hu; cases hu
    · rw [if_neg e]; exact hfi.mono u hu
  · simp only at h0
    obtain ⟨z1, z2, z3⟩ := h.zero h0
    simp only at z1 z2 z3 ⊢
    have hnd : d1.getD v false = true := h.nd
    have hd : decide (s < most) = true := decide_eq_true (by omega)
    have hsub : ∀ u, d1.getD u false = true → (d1.set v (decide (s < most))).getD u false = true := fun u hu => by
      rw [hg]; split
      · exact hd
      · exact hu
    refine ⟨z1, by rw [hg, if_pos rfl]; exact hd, fun u h1 h2 => ?_⟩
    by_cases e : u = v
    · subst e
      refine ⟨hvt, fun w hw hsrc hc => hsub _ ?_⟩
      obtain ⟨q1, q2⟩ := wix_all hV hw.1 hsrc
      obtain ⟨j, hj, hje⟩ := List.getElem_of_mem q1
      have := z3 j hj (by omega) (by rw [hje, ← wix_room, q2]; exact hw.2) (by rw [hje, q2]; exact hc)
      rwa [hje, q2] at this
    · rw [hg, if_neg e] at h1
      exact (z2 u h1 h2 e).mono hsub
theorem cnt_le : ∀ {a b : List Bool}, a.length = b.length → (∀ u, a.getD u false = true → b.getD u false = true) → b.count false ≤ a.count false
  | [], b, hl, _ => by cases b <;> simp_all
  | x :: a, [], hl, _ => by simp at hl
  | x :: a, y :: b, hl, h => by
    have h0 := h 0
    have := cnt_le (a := a) (b := b) (by simpa using hl) fun u hu => by have := h (u + 1); simpa using this (by simpa using hu)
    simp only [List.count_cons]
    cases x <;> cases y <;> simp at * <;> omega
theorem cnt_lt : ∀ {a b : List Bool} {v : Nat}, a.length = b.length → (∀ u, a.getD u false = true → b.getD u false = true) → v < a.length → a.getD v false = false → b.getD v false = true → b.count false < a.count false
  | [], b, v, hl, _, hv, _, _ => by simp at hv
  | x :: a, [], v, hl, _, _, _, _ => by simp at hl
  | x :: a, y :: b, 0, hl, h, hv, h1, h2 => by
    have := cnt_le (a := a) (b := b) (by simpa using hl) fun u hu => by have := h (u + 1); simpa using this (by simpa using hu)
    simp only [List.count_cons]
    simp at h1 h2
    subst h1 h2
    simp; omega
  | x :: a, y :: b, v + 1, hl, h, hv, h1, h2 => by
    have h0 := h 0
    have := cnt_lt (a := a) (b := b) (v := v) (by simpa using hl) (fun u hu => by have := h (u + 1); simpa using this (by simpa using hu)) (by simpa using hv) (by simpa using h1) (by simpa using h2)
    simp only [List.count_cons]
    cases x <;> cases y <;> simp at * <;> omega
end
end Go.Fx.C
namespace Go.Fx.C
open Go Go.Fx Go.Proofs
structure SI (N : Nat) (arcs : List Arc) (f t : Nat) (am : Int) (x p : List Int) (sent : Int) : Prop where
  xb : XB arcs x
  val : ∀ w : Nat, valTo arcs w x arcs.length = vd f sent w - vd t sent w
  nn : NN arcs x fun u => p.getD u 0
  pl : p.length = N
  p0 : p.getD f 0 = 0
  pb : ∀ j, 0 ≤ p.getD j 0 ∧ p.getD j 0 ≤ p.getD t 0
  pt : p.getD t 0 ≤ ((N : Int) - 1) * 1048576
  s0 : 0 ≤ sent ∧ sent ≤ am
def Reach (arcs : List Arc) (x p : List Int) (f t : Nat) : Prop := ∀ S : Nat → Prop, S f → (∀ i, wres arcs x i → rcst arcs (fun u => p.getD u 0) i = 0 → S (wsrc arcs i) → S (wdst arcs i)) → S t
section
variable {N : Nat} {arcs : List Arc} {f t : Nat} {am sent : Int} {x p : List Int}
theorem SI.pmax (hN : 1 ≤ N ∧ N ≤ 64) (h : SI N arcs f t am x p sent) (j : Nat) : 0 ≤ p.getD j 0 ∧ p.getD j 0 ≤ 1073741824 := by
  have h1 := h.pb j
  have h2 := h.pt
  have : ((N : Int) - 1) * 1048576 ≤ 63 * 1048576 := Int.mul_le_mul_of_nonneg_right (by omega) (by omega)
  omega
theorem SI.wok (hV : Val N arcs) (hN : N ≤ 64) (h : SI N arcs f t am x p sent) (y : List Int) (hy : XB arcs y) : WOk N arcs y p :=
  ⟨hV, hN, hy.hl, h.pl, h.pmax ⟨hV.hn.1, hN⟩⟩
theorem cs_tel (hV : Val N arcs) {hs : f < N} {hn : NN arcs x fun u => p.getD u 0} : ∀ {v : Nat} {r : List Nat}, Lb.PR (grD N arcs x (fun u => p.getD u 0) f hV hs hn) v r → Lb.cs (grD N arcs x (fun u => p.getD u 0) f hV hs hn) r + p.getD v 0 ≤ (r.length : Int) * 1048576 + p.getD f 0
  | v, [], h => by
    rw [show v = f from h]
    simp [Lb.cs]
  | v, i :: r, h => by
    have ih := cs_tel hV h.2.2
    have hi : wres arcs x i := h.1
    have hd : wdst arcs i = v := h.2.1
    have hc := wcst_b hV hi.1
    have e : Lb.cs (grD N arcs x (fun u => p.getD u 0) f hV hs hn) (i :: r) = rcst arcs (fun u => p.getD u 0) i + Lb.cs (grD N arcs x (fun u => p.getD u 0) f hV hs hn) r := rfl
    have ihs : Lb.cs (grD N arcs x (fun u => p.getD u 0) f hV hs hn) r + p.getD (wsrc arcs i) 0 ≤ (r.length : Int) * 1048576 + p.getD f 0 := ih
    rw [e]
    unfold rcst
    rw [hd, List.length_cons, Int.natCast_add, Int.add_mul]
    simp only [Int.natCast_one, Int.one_mul]
    omega
theorem SI.price (hV : Val N arcs) (hf : f < N) (ht : t < N) (h : SI N arcs f t am x p sent) {D : List Int} (hD : DistQ N (grD N arcs x (fun u => p.getD u 0) f hV hf h.nn) D) (hN : N ≤ 64) (hdt : D.getD t 0 ≠ far) {p' : List Int} (hl : p'.length = N) (hp : ∀ k, k < N → p'.getD k 0 = p.getD k 0 + min (D.getD k 0) (D.getD t 0)) :
    SI N arcs f t am x p' sent ∧ Reach arcs x p' f t := by
  have hb : ∀ u, u < N → 0 ≤ D.getD u 0 ∧ (D.getD u 0 = far ∨ D.getD u 0 ≤ KB) := fun u hu => lab_b hN (fun j => h.pmax ⟨hV.hn.1, hN⟩ j) hD.lab hu
  have hKB : KB < far := by decide
  have hDf : D.getD f 0 = 0 := hD.lab.h0
  have hbt := hb t ht
  have hcl : ∀ i, wres arcs x i → D.getD (wsrc arcs i) 0 < far → D.getD (wdst arcs i) 0 ≤ D.getD (wsrc arcs i) 0 + rcst arcs (fun u => p.getD u 0) i := fun i hi hlt => hD.cl i hi hlt
  have hr' : ∀ i, wres arcs x i → rcst arcs (fun u => p'.getD u 0) i = rcst arcs (fun u => p.getD u 0) i + min (D.getD (wsrc arcs i) 0) (D.getD t 0) - min (D.getD (wdst arcs i) 0) (D.getD t 0) := by
    intro i hi
    obtain ⟨w1, w2, _⟩ := w_in hV hi.1
    unfold rcst
    simp only
    rw [hp _ w1, hp _ w2]
    omega
  have hout : ∀ j, ¬ j < N → p'.getD j 0 = 0 ∧ p.getD j 0 = 0 := by
    intro j hj
    have h1 := h.pl
    rw [List.getD_eq_getElem?_getD, List.getD_eq_getElem?_getD, List.getElem?_eq_none (by omega), List.getElem?_eq_none (by omega)]
    exact ⟨rfl, rfl⟩
  obtain ⟨r, hW⟩ : ∃ r, Lb.Wp (grD N arcs x (fun u => p.getD u 0) f hV hf h.nn) (fun u => D.getD u 0) t r := by
    rcases hD.lab.hw t ht with he | ⟨_, h⟩
    · exact absurd he hdt
    · exact h
  have hpt' := hp t ht
  rw [Int.min_self] at hpt'
  refine ⟨⟨h.xb, h.val, fun i hi => ?_, hl, ?_, fun j => ?_, ?_, h.s0⟩, ?_⟩
  · rw [hr' i hi]
    have h1 := h.nn i hi
    have hm1 := Int.min_le_right (D.getD (wdst arcs i) 0) (D.getD t 0)
    have hm2 := Int.min_le_left (D.getD (wdst arcs i) 0) (D.getD t 0)
    rcases Int.le_total (D.getD t 0) (D.getD (wsrc arcs i) 0) with h2 | h2
    · rw [Int.min_eq_right h2]; omega
    · rw [Int.min_eq_left h2]
      have := hcl i hi (by rcases hbt.2 with e | e <;> omega)
      omega
  · rw [hp f hf, h.p0, hDf, Int.min_eq_left hbt.1]; rfl
  · by_cases hj : j < N
    · rw [hp j hj, hpt']
      have h1 := h.pb j
      have h2 := hb j hj
      have hm1 := Int.min_le_right (D.getD j 0) (D.getD t 0)
      have hm2 : 0 ≤ min (D.getD j 0) (D.getD t 0) := Int.le_min.2 ⟨h2.1, hbt.1⟩
      omega
    · rw [(hout j hj).1, hpt']
      have := h.pb t
      omega
  · rw [hpt']
    have h1 := cs_tel hV hW.pr
    have h2 := hW.len
    rw [hW.co, h.p0] at h1
    have h3 : r.length < N := h2
    have h4 : (r.length : Int) * 1048576 ≤ ((N : Int) - 1) * 1048576 := Int.mul_le_mul_of_nonneg_right (by omega) (by omega)
    have h1' : D.getD t 0 + p.getD t 0 ≤ (r.length : Int) * 1048576 + 0 := h1
    omega
  · intro S hS hstep
    have hCl : Lb.Cl (grD N arcs x (fun u => p.getD u 0) f hV hf h.nn) far (fun u => D.getD u 0) := fun i hi hlt => hcl i hi hlt
    have hfin : ∀ i, (grD N arcs x (fun u => p.getD u 0) f hV hf h.nn).res i → D.getD (wsrc arcs i) 0 < far → D.getD (wdst arcs i) 0 < far := by
      intro i hi hlt
      have hi' : wres arcs x i := hi
      obtain ⟨w1, w2, _⟩ := w_in hV hi'.1
      have h1 := hcl i hi' hlt
      have h2 := hb _ w1
      have h3 := wcst_b hV hi'.1
      have h4 := h.pmax ⟨hV.hn.1, hN⟩ (wsrc arcs i)
      have h5 := h.pmax ⟨hV.hn.1, hN⟩ (wdst arcs i)
      unfold rcst at h1
      simp only at h1
      have : KB + 1048576 + 1073741824 < far := by decide
      rcases h2.2 with e | e <;> omega
    have hti := Lb.tight_of hDf (by decide : (0 : Int) < far) hCl hfin hW.pr hW.co
    have key : ∀ (v : Nat) (r : List Nat), Lb.PR (grD N arcs x (fun u => p.getD u 0) f hV hf h.nn) v r → Lb.Tight (grD N arcs x (fun u => p.getD u 0) f hV hf h.nn) (fun u => D.getD u 0) v r → D.getD v 0 ≤ D.getD t 0 → S v := by
      intro v r
      induction r generalizing v with
      | nil => intro h1 _ _; rw [show v = f from h1]; exact hS
      | cons i r ih =>
        intro h1 h2 h3
        have hi : wres arcs x i := h1.1
        have hd : wdst arcs i = v := h1.2.1
        have ht1 : D.getD (wdst arcs i) 0 = D.getD (wsrc arcs i) 0 + rcst arcs (fun u => p.getD u 0) i := h2.1
        have h0 := h.nn i hi
        rw [← hd] at h3 ⊢
        refine hstep i hi ?_ (ih (wsrc arcs i) h1.2.2 h2.2 (by omega))
        rw [hr' i hi, Int.min_eq_left h3, Int.min_eq_left (by omega)]
        omega
    exact key t r hW.pr hti (Int.le_refl _)
theorem SI.fill (h : SI N arcs f t am x p sent) (hf : f < N) {n : Int} {x' : List Int} {d' : List Bool} (hq : FQ arcs x (fun u => p.getD u 0) t (List.replicate N false) f (am - sent) (n, x', d')) :
    SI N arcs f t am x' p (sent + n) ∧ 0 ≤ n ∧ (Reach arcs x p f t → sent < am → 0 < n) := by
  have hfi := hq.fi
  have hn := hq.n0
  simp only at hfi hn
  have hs := h.s0
  refine ⟨⟨hfi.xb, fun w => ?_, fun i hi => ?_, h.pl, h.p0, h.pb, h.pt, by omega⟩, hn.1, fun hR hlt => ?_⟩
  · rw [hfi.val, h.val, vd_add, vd_add]; omega
  · by_cases e : x'.getD (i / 2) 0 = x.getD (i / 2) 0
    · refine h.nn i ⟨hi.1, ?_⟩
      have := hi.2
      unfold wrm at this ⊢
      rw [e] at this
      exact this
    · have h0 := hfi.tig (i / 2) hi.1 e
      by_cases e2 : i % 2 = 0
      · rw [show 2 * (i / 2) = i by omega] at h0
        omega
      · have h1 := rcst_b (arcs := arcs) (p := fun u => p.getD u 0) (k := i / 2)
        rw [show 2 * (i / 2) + 1 = i by omega] at h1
        omega
  · apply Classical.byContradiction
    intro hz
    have h0 : n = 0 := by omega
    obtain ⟨z1, z2, z3⟩ := hq.zero h0 (by omega)
    simp only at z1 z2 z3
    have hfr : ∀ u, (List.replicate N false).getD u false = false := by
      intro u
      rw [List.getD_eq_getElem?_getD, List.getElem?_replicate]
      split <;> rfl
    have : d'.getD t false = true := hR (fun u => d'.getD u false = true) z2 fun i hi hc hu => (z3 _ hu (hfr _)).2 i hi rfl hc
    exact (z3 t this (hfr t)).1 rfl
def cutL (D : List Int) : Nat → List Int
  | 0 => []
  | k + 1 => if D.getD k 0 < far then cutL D k ++ [(k : Int)] else cutL D k
theorem cutL_mem {D : List Int} {v : Int} : ∀ {k : Nat}, v ∈ cutL D k ↔ (0 ≤ v ∧ v < k) ∧ D.getD v.toNat 0 < far
  | 0 => by
    simp only [cutL, List.not_mem_nil, false_iff]
    omega
  | k + 1 => by
    have ih := cutL_mem (D := D) (v := v) (k := k)
    unfold cutL
    by_cases e : v = k
    · subst e
      rw [Int.toNat_natCast] at ih ⊢
      split
      · rename_i h
        rw [List.mem_append, List.mem_singleton]
        exact ⟨fun _ => ⟨by omega, h⟩, fun _ => .inr rfl⟩
      · rename_i h
        rw [ih]
        exact ⟨fun h2 => absurd h2.2 h, fun h2 => absurd h2.2 h⟩
    · split
      · rw [List.mem_append, ih, List.mem_singleton]
        constructor
        · rintro (h1 | h1)
          · exact ⟨⟨h1.1.1, by omega⟩, h1.2⟩
          · exact absurd h1 e
        · intro h1
          exact .inl ⟨⟨h1.1.1, by omega⟩, h1.2⟩
      · rw [ih]
        constructor
        · intro h1
          exact ⟨⟨h1.1.1, by omega⟩, h1.2⟩
        · intro h1
          exact ⟨⟨h1.1.1, by omega⟩, h1.2⟩
theorem cutL_len {D : List Int} : ∀ {k : Nat}, (cutL D k).length ≤ k
  | 0 => by simp [cutL]
  | k + 1 => by
    have := cutL_len (D := D) (k := k)
    unfold cutL
    split <;> simp <;> omega
theorem cutL_ok {D : List Int} {n : Int} : ∀ {k : Nat}, (k : Int) ≤ n → OkS n (cutL D k) (cutL D k).length
  | 0, _ => ⟨fun j h => by simp [cutL] at h⟩
  | k + 1, hk => by
    have ih := cutL_ok (D := D) (n := n) (k := k) (by omega)
    have hm := fun v => cutL_mem (D := D) (v := v) (k := k)
    unfold cutL
    split
    · refine ⟨fun j hj _ => ?_⟩
      rw [List.length_append, List.length_singleton] at hj
      by_cases e : j < (cutL D k).length
      · rw [List.getElem_append_left e]
        have := ih.h j e e
        refine ⟨this.1, fun h0 => ?_⟩
        have h2 := this.2 h0
        rw [getD_nat (by omega)] at h2
        rw [getD_nat (by rw [List.length_append, List.length_singleton]; omega), List.getElem_append_left (by omega)]
        exact h2
      · have ej : j = (cutL D k).length := by omega
        subst ej
        rw [List.getElem_append_right (Nat.le_refl _)]
        simp only [Nat.sub_self, List.getElem_singleton]
        refine ⟨by omega, fun h0 => ?_⟩
        rw [getD_nat (by rw [List.length_append, List.length_singleton]; omega), List.getElem_append_left (by omega)]
        have := ((hm _).1 (List.getElem_mem (l := cutL D k) (n := (cutL D k).length - 1) (by omega))).1
        omega
    · exact ih
theorem SI.okF (hf : f < N) (ht : t < N) (h : SI N arcs f t am x p sent) : OkF N arcs f t x := by
  refine ⟨h.xb.hl, fun i h1 h2 => ?_, fun j h1 h2 h3 h4 => ?_⟩
  · have := h.xb.hb i h2
    rw [gA_at h2, getD_nat h1] at this
    exact this
  · have := h.val j.toNat
    rw [Int.toNat_of_nonneg h1] at this
    rw [this]
    unfold vd
    rw [if_neg (by omega), if_neg (by omega)]; rfl
theorem SI.okP (hV : Val N arcs) (hN : N ≤ 64) (h : SI N arcs f t am x p sent) : OkP N arcs f x p := by
  have hs := nn_slack.1 h.nn
  refine ⟨h.pl, by rw [Int.toNat_natCast]; exact h.p0, fun j hj => ?_, fun k hk => ?_⟩
  · rw [← getD_nat hj]; exact h.pmax ⟨hV.hn.1, hN⟩ j
  · have := hs k hk
    rw [gA_at hk] at this
    exact this
theorem SI.okv (hft : f ≠ t) (h : SI N arcs f t am x p sent) : valTo arcs f x arcs.length = sent := by
  rw [h.val]
  unfold vd
  rw [if_pos rfl, if_neg hft]; omega
theorem SI.all (hV : Val N arcs) (hN : N ≤ 64) (hf : f < N) (ht : t < N) (hft : f ≠ t) (h : SI N arcs f t am x p sent) (he : sent = am) : OkAc N arcs f t am ⟨sent, totTo arcs x arcs.length, x, p, []⟩ :=
  ⟨h.okF hf ht, h.s0, h.okv hft, rfl, h.okP hV hN, by simp only; rw [if_pos he]; trivial⟩
theorem SI.cut (hV : Val N arcs) (hN : N ≤ 64) (hf : f < N) (ht : t < N) (hft : f ≠ t) (h : SI N arcs f t am x p sent) (he : sent < am) {D : List Int} (hD : DistQ N (grD N arcs x (fun u => p.getD u 0) f hV hf h.nn) D) (hdt : D.getD t 0 = far) : OkAc N arcs f t am ⟨sent, totTo arcs x arcs.length, x, p, cutL D N⟩ := by
  have hKB : KB < far := by decide
  have hb : ∀ u, u < N → 0 ≤ D.getD u 0 ∧ (D.getD u 0 = far ∨ D.getD u 0 ≤ KB) := fun u hu => lab_b hN (fun j => h.pmax ⟨hV.hn.1, hN⟩ j) hD.lab hu
  have hDf : D.getD f 0 = 0 := hD.lab.h0
  have hcl : ∀ i, wres arcs x i → D.getD (wsrc arcs i) 0 < far → D.getD (wdst arcs i) 0 < far := by
    intro i hi hlt
    obtain ⟨w1, w2, _⟩ := w_in hV hi.1
    have h1 : D.getD (wdst arcs i) 0 ≤ D.getD (wsrc arcs i) 0 + rcst arcs (fun u => p.getD u 0) i := hD.cl i hi hlt
    have h2 := hb _ w1
    have h3 := wcst_b hV hi.1
    have h4 := h.pmax ⟨hV.hn.1, hN⟩ (wsrc arcs i)
    have h5 := h.pmax ⟨hV.hn.1, hN⟩ (wdst arcs i)
    unfold rcst at h1
    simp only at h1
    have : KB + 1048576 + 1073741824 < far := by decide
    rcases h2.2 with e | e <;> omega
  have hh : ∀ v : Int, hasB (cutL D N) v = true ↔ ((0 ≤ v ∧ v < N) ∧ D.getD v.toNat 0 < far) := by
    intro v
    unfold hasB
    rw [decide_eq_true_eq, cutL_mem]
  have hfalse : ∀ v : Int, 0 ≤ v ∧ v < N → hasB (cutL D N) v = false → ¬ D.getD v.toNat 0 < far := by
    intro v hv h1 h2
    rw [(hh v).2 ⟨hv, h2⟩] at h1
    cases h1
  refine ⟨h.okF hf ht, h.s0, h.okv hft, rfl, h.okP hV hN, ?_⟩
  simp only
  rw [if_neg (by omega)]
  refine ⟨cutL_ok (Int.le_refl _), (hh _).2 ⟨by omega, by rw [Int.toNat_natCast, hDf]; decide⟩, ?_, ⟨fun j hj _ => ?_⟩⟩
  · rw [← Bool.not_eq_true, hh, Int.toNat_natCast, hdt]
    exact fun h1 => absurd h1.2 (Int.lt_irrefl _)
  · have hva := hV.at hj
    have hxb := h.xb.hb j hj
    rw [gA_at hj] at hva hxb
    refine ⟨fun h1 h2 => ?_, fun h1 h2 => ?_⟩
    · have h3 := ((hh _).1 h1).2
      have h4 := hfalse _ hva.2.1 h2
      apply Classical.byContradiction
      intro h5
      have := hcl (2 * j) ⟨by omega, by
        unfold wrm
        rw [if_pos (by omega), show 2 * j / 2 = j by omega, gA_at hj]; omega⟩
      unfold wsrc wdst at this
      rw [if_pos (by omega), if_pos (by omega), show 2 * j / 2 = j by omega, gA_at hj] at this
      exact h4 (this h3)
    · have h3 := ((hh _).1 h1).2
      have h4 := hfalse _ hva.1 h2
      apply Classical.byContradiction
      intro h5
      have := hcl (2 * j + 1) ⟨by omega, by
        unfold wrm
        rw [if_neg (by omega), show (2 * j + 1) / 2 = j by omega]; omega⟩
      unfold wsrc wdst at this
      rw [if_neg (by omega), if_neg (by omega), show (2 * j + 1) / 2 = j by omega, gA_at hj] at this
      exact h4 (this h3)
end
end Go.Fx.C
namespace Go.Fx
open Go.RowKit
theorem I0_le {P : Program} {f : FuncId} {zas : List V} {fx : List Nat} {k : Nat} {Y : Yt} {h h' : List Blk} {K : List Blk → Prop} (hle : leH h h') (hk : keepP fx h') (hw : wfB h' h') (ha : wfL h' zas) (hi : I0 P f zas fx k Y h' K) : I0 P f zas fx k Y h K := by
  refine ⟨hi.1, ?_⟩
  intro ρ X w vals hr hv hkp hY
  have := hi.2 (dropLoc ρ h') X w vals (dropRep hr hle hw) (drops_rep _ _ ha hv) hk (by
    intro ρ1 w1 s tmps xs vs Z ⟨hf, hfx⟩ g1 g2 g3 g4 g5
    exact hY ρ1 w1 s tmps xs vs Z ⟨drop_fr.trans hf, fun j hj => (hfx j hj).trans (live_loc (keepP_get hk j hj))⟩ g1 g2 g3 g4 g5)
  refine this.mono ?_
  rintro e w' ⟨val, h1, ρ', rfl, hK, ⟨hf, hr'⟩, hfx, hkp'⟩
  exact ⟨val, h1, ρ', rfl, hK, ⟨drop_fr.trans hf, hr'⟩, fun j hj => (hfx j hj).trans (live_loc (keepP_get hk j hj)), hkp'⟩
end Go.Fx
namespace Go.Fx.C
open Go Go.Fx Go.Proofs
set_option maxRecDepth 20000
abbrev G28 : Type := Nat × List Int × List Int × List Int
def hpD (N : Nat) (arcs : List Arc) (x p : List Int) (g : G28) : List Blk :=
  [wB N x.length arcs 1 2 3, .arr 1 (x.map encI), .arv 1 (outR arcs N), .arr 1 (p.map encI), .var [.ptr 0 0 0], .dead, .var [.sl 7 0 N], .arr 1 (g.2.2.2.map encI), .var [.sl 10 0 g.1, .sl 11 0 g.1], .var [.ptr 8 0 0], .arr 1 (g.2.1.map encI), .arr 1 (g.2.2.1.map encI)]
def eP28 : Env := [(8, .ptr 13 0 0), (7, .ptr 12 0 0), (6, .ptr 9 0 0), (5, .ptr 6 0 0), (2, .ptr 4 0 0)]
def hpI (N : Nat) (arcs : List Arc) (x p : List Int) (key : Int) (v : Nat) (g : G28) : List Blk :=
  hpD N arcs x p g ++ [.var [.i key], .var [.i v], .var [.ptr 0 0 0], .var [.i v], .rcd .ready eP28]
section
variable {N : Nat} {arcs : List Arc} {x p : List Int} {s : Nat} {hs : s < N}
structure Inn (G : Lb.Gr) (N : Nat) (arcs : List Arc) (x : List Int) (key : Int) (v M0 : Nat) (i : Nat) (g : G28) : Prop where
  di : DI N G g.1 g.2.1 g.2.2.1 g.2.2.2
  kv : g.2.2.2.getD v 0 = key
  kf : key < far
  pe : Pend N G g.1 g.2.1 g.2.2.1 g.2.2.2 fun u => u ≠ v
  cl : ∀ j (hj : j < (outs arcs v arcs.length).length), j < i → 0 < roomOf arcs x v (outs arcs v arcs.length)[j] → g.2.2.2.getD (G.dst (wix arcs v (outs arcs v arcs.length)[j])) 0 ≤ key + G.c (wix arcs v (outs arcs v arcs.length)[j])
  ms : meas N g.1 g.2.2.2 < M0
theorem itH28 (hW : WOk N arcs x p) {key : Int} {v : Nat} (hv : v < N) (hx : ∀ j, 0 ≤ x.getD j 0 ∧ x.getD j 0 ≤ 1073741824) : ItH (hpI N arcs x p key v) (fun _ => x) 17 N v arcs 16 14 15 0 1 2 3 [16, 0, 1, 2, 3] := by
  have hxl := hW.hx
  refine ⟨hW.hV, hv, fun g => rfl, fun g tl => rfl, fun g tl => rfl, fun g tl => by rw [← hxl]; rfl, fun g tl => rfl, fun g tl => rfl, fun g => ⟨trivial, trivial, trivial, trivial, trivial, trivial⟩, fun g => ?_, fun g => ⟨_, _, rfl⟩, fun g => ⟨hxl, hx⟩⟩
  unfold hpI hpD wB eP28
  simp -implicitDefEqProofs only [List.getElem?_cons_zero, List.nil_append, List.cons_append, liveP, wfE, wfB, wfV, wfL, Bool.and_self, and_self, lg0, lg1, lg2, lg3, lg4, lg5, lg6, lg7, lg8, lg9, kY, wd, wl, outR_wfT]
theorem EI_kill {v k a b i : Nat} {e : Env} {M : List Nat} (h1 : k ∉ M) (h2 : a ∉ M) (h3 : b ∉ M) (h : EI arcs v k a b i e) : EI arcs v k a b i (killE M e) := by
  refine ⟨?_, ?_, ?_, ?_, ?_, ?_, ?_⟩ <;> rw [get_killE]
  · rw [h.e0]; simp [kill, h1]
  · rw [h.e1]; simp [kill, h2]
  · rw [h.e2]; simp [kill, h3]
  · rw [h.e14]; rfl
  · rw [h.e15]; rfl
  · rw [h.e16]; rfl
  · rw [h.e65]; rfl
theorem rnd28 (hW : WOk N arcs x p) (hn : NN arcs x fun u => p.getD u 0) {key : Int} {v M0 i : Nat} {g : G28} (hv : v < N) (hi : i < (outs arcs v arcs.length).length) (hI : Inn (grD N arcs x (fun u => p.getD u 0) s hW.hV hs hn) N arcs x key v M0 i g)
    (hr : 0 < roomOf arcs x v (outs arcs v arcs.length)[i]) {e : Env} {bb : Nat} {Z : V → St → Prop} (he : EI arcs v 16 14 15 i e)
    (hT : ∀ e' g' tl, EI arcs v 16 14 15 i e' → Inn (grD N arcs x (fun u => p.getD u 0) s hW.hV hs hn) N arcs x key v M0 (i + 1) g' → Z (.b true) ⟨e', hpI N arcs x p key v g' ++ tl, bb⟩) :
    yR (cxN Try.prog [0, 1, 2, 3]) [46] c28a0 c28r0 16 [wayOf arcs x v (outs arcs v arcs.length)[i]] ⟨e, hpI N arcs x p key v g ++ [.var (gA arcs (outs arcs v arcs.length)[i]).enc, .var (wayC arcs x v (outs arcs v arcs.length)[i])], bb⟩ Z := by
  have hVV := hW.hV
  obtain ⟨hj, hend⟩ := outs_in hi
  generalize hk : (outs arcs v arcs.length)[i] = k at *
  have hsrc := wix_src hVV hj hend
  have hroom : wrm arcs x (wix arcs v k) = roomOf arcs x v k := wix_room
  have hres : wres arcs x (wix arcs v k) := ⟨by rw [wix_half]; exact hj, by rw [hroom]; exact hr⟩
  obtain ⟨w1, w2, w3⟩ := w_in hVV hres.1
  have hcb := wcst_b hVV hres.1
  have hway : wayOf arcs x v k = .agg [.i k, .i (wdst arcs (wix arcs v k) : Nat), .i (roomOf arcs x v k), .i (wcst arcs (wix arcs v k)), .b (decide (¬ (gA arcs k).from_ = v))] := by
    have := hVV.at hj
    unfold wayOf roomOf wdst wcst
    rw [wix_half]
    unfold wix
    by_cases h : (gA arcs k).from_ = v
    · simp only [if_pos h]
      rw [if_pos (by omega), if_pos (by omega), show (((gA arcs k).to.toNat : Nat) : Int) = (gA arcs k).to by omega, show decide (¬ (gA arcs k).from_ = v) = false from decide_eq_false (by simpa using h)]
    · simp only [if_neg h]
      rw [if_neg (by omega), if_neg (by omega), show (((gA arcs k).from_.toNat : Nat) : Int) = (gA arcs k).from_ by omega, show decide (¬ (gA arcs k).from_ = v) = true from decide_eq_true h]
  have hwc : cells? (wayOf arcs x v k) = some (wayC arcs x v k) := by unfold wayOf wayC; split <;> rfl
  have hwc2 : wayC arcs x v k = [.i k, .i (wdst arcs (wix arcs v k) : Nat), .i (roomOf arcs x v k), .i (wcst arcs (wix arcs v k)), .b (decide (¬ (gA arcs k).from_ = v))] := by
    rw [hway] at hwc
    simpa [cells?] using hwc.symm
  obtain ⟨n, ks, vs, D⟩ := g
  rw [hway, hwc2]
  generalize decide (¬ (gA arcs k).from_ = v) = bk at *
  generalize roomOf arcs x v k = rm at *
  have hKill : ∀ M, kills M (gA arcs k).enc = (gA arcs k).enc := fun M => rfl
  generalize (gA arcs k).enc = encA at *
  have hcall := ok42 N arcs x p v (wdst arcs (wix arcs v k) : Nat) (wcst arcs (wix arcs v k)) (.i k) (.i rm) (.b bk) hW (by omega) (by omega) hcb
  have hrc : wcst arcs (wix arcs v k) + p.getD (v : Int).toNat 0 - p.getD ((wdst arcs (wix arcs v k) : Nat) : Int).toNat 0 = rcst arcs (fun u => p.getD u 0) (wix arcs v k) := by
    unfold rcst
    rw [hsrc, Int.toNat_natCast, Int.toNat_natCast]
  rw [hrc] at hcall
  have hc0 := hn _ hres
  have hp1 := hW.hb v
  have hp2 := hW.hb (wdst arcs (wix arcs v k))
  have hcB : rcst arcs (fun u => p.getD u 0) (wix arcs v k) ≤ 1074790400 := by
    unfold rcst
    rw [hsrc]
    show wcst arcs (wix arcs v k) + p.getD v 0 - p.getD (wdst arcs (wix arcs v k)) 0 ≤ _
    omega
  have hDl : D.length = N := hI.di.len
  have hkey := hI.di.nn hW.hN (fun j => hW.hb j) hv
  have hkv : D.getD v 0 = key := hI.kv
  rw [show ((n, ks, vs, D) : G28).2.2.2 = D from rfl, hkv] at hkey
  have hkf := hI.kf
  have hkB : key ≤ KB := by
    rcases hkey.2 with e | e
    · omega
    · exact e
  refine yR_go 19 rfl rfl rfl ?_
  unfold hpI hpD wB eP28 c28a0
  simp -implicitDefEqProofs only [qF, qO, qP, qU, qW, zH, zI, zJ, zN, ofConst, cells?, List.length_nil, List.length_cons, List.set_cons_zero, splice, zO, List.getD_eq_getElem?_getD, List.getElem?_cons_zero, ↓reduceIte, Nat.reduceEqDiff, Option.getD_some, List.nil_append, List.cons_append, Nat.zero_add, Nat.reduceAdd, Nat.add_zero, freshP, List.map_cons, List.map_nil, List.take_zero, List.drop_nil, List.all_cons, List.all_nil, isC, Bool.and_true, Bool.and_self, true_and, and_true, and_self, List.not_mem_nil, not_false_eq_true, Nat.le_refl, lg0, zY, zZ, kc, lg1, kg, kh, lg2, kk, kn, lg3, kr, kw, lg4, kz, kA, lg5, kD, lg6, kI, lg7, kM, lg8, kQ, lg9, kU, kY, kZ, wd, we, wl, wm, ws, wt, wx, wy, wE, wF, wK, wL, wM, wN, wO, wP, wQ, wR, jq, ↓jr, ↓jC, ↓jD, cxN, begRd_e, ↓rcdB_s, setPs]
  unfold c28r0
  simp -implicitDefEqProofs only [qw, rdK, qx, qz, qA, qC, qI, qK, qV, zD, zH, zJ, zN, List.length_nil, List.length_cons, zO, List.getD_eq_getElem?_getD, List.getElem?_cons_zero, ↓reduceIte, Nat.reduceEqDiff, Option.getD_some, List.append_nil, Nat.zero_add, Nat.reduceAdd, List.map_cons, List.map_nil, List.drop_zero, List.take_nil, Bool.and_true, true_and, and_true, Nat.le_refl, lg0, ka, lg1, ki, lg2, ko, lg3, kx, lg4, kB, lg5, lg6, lg7, lg8, lg9, kY, wd, wl, ws, wx, wE, wK, wM, wO, wQ, jq, ↓jr, ↓ju, ↓jx, ↓jA, ↓jB]
  generalize hcc : rcst arcs (fun u => p.getD u 0) (wix arcs v k) = c at *
  generalize hto : wdst arcs (wix arcs v k) = to at *
  refine call_isN [0, 1, 2, 3] [.ptr 0 0 0, .i v, .agg [.i k, .i (to : Nat), .i rm, .i (wcst arcs (wix arcs v k)), .b bk]] (.i c) (.i c) (wH N arcs x p) (wH N arcs x p) _ hcall (by simp) (by simp [wH, wB, blk, renB, rens, ren, pos, outR_ren]) (by simp [lendsOk, lendOk, lends, lend, wkL, wk, pos]) (by simp [wH]) rfl rfl (by simp [keepP, liveP, wH, wB, setAll, renB]) ?_
  simp -implicitDefEqProofs only [qa, qe, qy, qA, qE, qF, qI, qJ, qO, qP, qR, qV, qW, qX, qY, qZ, zD, zH, zI, zJ, zN, cells?, List.length_nil, List.length_cons, List.set_cons_zero, splice, zO, List.getD_eq_getElem?_getD, List.getElem?_cons_zero, ↓reduceIte, Nat.reduceEqDiff, Option.getD_some, zP, arrSz, zR, List.nil_append, List.append_nil, Nat.zero_add, Nat.reduceAdd, List.map_cons, List.map_nil, List.take_zero, List.all_cons, List.all_nil, isD, isC, Bool.and_true, Bool.and_self, true_and, and_true, and_self, List.not_mem_nil, List.length_map, not_false_eq_true, Nat.le_refl, lg0, zY, lg1, kg, lg2, kk, lg3, kr, lg4, kz, lg5, kD, lg6, kI, lg7, kM, lg8, kQ, lg9, kU, kY, kZ, wd, we, wl, wm, ws, wt, wx, wy, wE, wF, wK, wL, wM, wN, wO, wP, wQ, jq, ↓jr, ↓ju, ↓jx, ↓jy, ↓jA, ↓jC, ↓jE, ↓jG, ↓jI, ↓qaL, ↓qaT, List.length_map, List.getElem_map, encI_0, Int.toNat_natCast, encI_drop, endRd_e, ↓rcdB_s, wH, wB, setAll, renB, rens, ren, outR_ren, back]
  have hDt : D.getD to 0 = D[to]'(by omega) := getD_nat (by omega)
  have hKBv : KB = 67711795200 := rfl
  have hEI := he
  have hcl : ∀ (D' : List Int), D'.getD v 0 = key → (∀ u, D'.getD u 0 ≤ D.getD u 0) → D'.getD to 0 ≤ key + c →
      ∀ j (hj : j < (outs arcs v arcs.length).length), j < i + 1 → 0 < roomOf arcs x v (outs arcs v arcs.length)[j] → D'.getD ((grD N arcs x (fun u => p.getD u 0) s hW.hV hs hn).dst (wix arcs v (outs arcs v arcs.length)[j])) 0 ≤ key + (grD N arcs x (fun u => p.getD u 0) s hW.hV hs hn).c (wix arcs v (outs arcs v arcs.length)[j]) := by
    intro D' e1 e2 e3 j hj2 hlt hro
    by_cases e : j = i
    · subst e
      show D'.getD (wdst arcs (wix arcs v (outs arcs v arcs.length)[j])) 0 ≤ key + rcst arcs (fun u => p.getD u 0) (wix arcs v (outs arcs v arcs.length)[j])
      rw [hk, hto, hcc]
      exact e3
    · exact Int.le_trans (e2 _) (hI.cl j hj2 (by omega) hro)
  refine ⟨by simp only [lo, Fx.hi]; omega, ⟨by omega, by omega⟩, by omega, ?_⟩
  simp only [br, decide_eq_true_eq, decide_eq_false_iff_not]
  refine ⟨fun hlt => ⟨⟨by omega, by omega⟩, by omega, ?_⟩, fun hge => ?_⟩
  · have hnle := hI.di.n_le hW.hN (fun j => hW.hb j)
    simp only at hnle
    refine call_isM (PushQ n ks vs (key + c) (to : Nat)) [8, 10, 11] [1, 2] [10, 11] [.ptr 0 0 0, .i (key + c), .i to] (fun _ => .tup []) (hpB n ks vs) (fun g => hpB (n + 1) g.1 g.2) (ok39 n ks vs (key + c) to hI.di.h1 hI.di.h2 (by omega)) (by simp) (by simp) (by simp [hpB, blk, renB, rens, ren, pos]) (by simp [lendsOk, lendOk, lends, lend, wkL, wk, pos]) fun g hg => ⟨by simp [keepP, liveP, hpB, setAll, renB, killB], ?_⟩
    obtain ⟨ks2, vs2⟩ := g
    have hpush := hI.di.push (i := wix arcs v k) (ks' := ks2) (vs' := vs2) hW.hN (fun j => hW.hb j) hres
    have hpe := hI.pe.push (t := to) (nv := key + c) (by rw [hI.di.len]; exact w2) (by show key + c < D.getD to 0; rw [hDt]; exact hlt) hg
    simp only [hsrc, hto, hcc, hkv, hDt] at hpush
    obtain ⟨hd1, hd2⟩ := hpush hkf hlt hg
    simp -implicitDefEqProofs only [qO, zH, List.length_nil, List.length_cons, List.set_cons_zero, List.getElem?_cons_zero, ↓reduceIte, Nat.reduceEqDiff, List.append_nil, Nat.zero_add, Nat.reduceAdd, reduceCtorEq, killE, killB, kill, kills, St.kill, List.map_cons, List.map_nil, true_and, List.mem_cons, List.not_mem_nil, or_false, false_or, lg0, zY, lg1, kg, lg2, kk, lg3, kr, lg4, kz, lg5, kD, lg6, kI, lg7, kM, lg8, kQ, lg9, kU, kY, kZ, wd, we, wl, wm, ws, wt, wx, wy, wE, wF, wK, wL, wM, wN, wO, wP, endRd_e, ↓rcdB_s, hpB, setAll, renB, rens, ren, back, outR_kill, encI_set, hKill]
    have hge : ∀ u, (D.set to (key + c)).getD u 0 = if u = to then key + c else D.getD u 0 := fun u => getD_set (by omega)
    have hvt : ¬ v = to := by rw [← hsrc]; exact w3
    refine hT (killE [10, 11] e) (n + 1, ks2, vs2, D.set to (key + c)) [.var encA, .var [.i k, .i to, .i rm, .i (wcst arcs (wix arcs v k)), .b bk], .dead, .var [.i k, .i to, .i rm, .i (wcst arcs (wix arcs v k)), .b bk]] (EI_kill (by simp) (by simp) (by simp) he) ⟨hd1, ?_, hkf, hpe, hcl _ ?_ ?_ ?_, Nat.lt_trans hd2 hI.ms⟩
    · show (D.set to (key + c)).getD v 0 = key
      rw [hge, if_neg hvt]; exact hkv
    · show (D.set to (key + c)).getD v 0 = key
      rw [hge, if_neg hvt]; exact hkv
    · intro u
      show (D.set to (key + c)).getD u 0 ≤ D.getD u 0
      rw [hge]
      split
      · rename_i e; rw [e, hDt]; omega
      · exact Int.le_refl _
    · show (D.set to (key + c)).getD to 0 ≤ key + c
      rw [hge, if_pos rfl]; exact Int.le_refl _
  · exact hT e (n, ks, vs, D) [.var encA, .var [.i k, .i to, .i rm, .i (wcst arcs (wix arcs v k)), .b bk], .dead, .var [.i k, .i to, .i rm, .i (wcst arcs (wix arcs v k)), .b bk]] he ⟨hI.di, hkv, hkf, hI.pe, hcl D hkv (fun u => Int.le_refl _) (by rw [hDt]; omega), hI.ms⟩
end
end Go.Fx.C
namespace Go.Fx.C
open Go Go.Fx Go.Proofs
set_option maxRecDepth 20000
section
variable {N : Nat} {arcs : List Arc} {x p : List Int} {s : Nat} {hs : s < N}
abbrev pat28 (N : Nat) (arcs : List Arc) (x p : List Int) (g : G28) : St := ⟨[(6, .ptr 9 0 0), (5, .ptr 6 0 0), (2, .ptr 4 0 0)], hpD N arcs x p g, 0⟩
structure Out28 (G : Lb.Gr) (N : Nat) (g : G28) : Prop where
  di : DI N G g.1 g.2.1 g.2.2.1 g.2.2.2
  pe : Pend N G g.1 g.2.1 g.2.2.1 g.2.2.2 fun _ => True
theorem body28 (hW : WOk N arcs x p) (hn : NN arcs x fun u => p.getD u 0) (hx : ∀ j, 0 ≤ x.getD j 0 ∧ x.getD j 0 ≤ 1073741824) {RR : St → Prop} {X : Nat → St → Prop}
    (hX : ∀ D ks vs, DistQ N (grD N arcs x (fun u => p.getD u 0) s hW.hV hs hn) D → ∀ e b, get e 5 = .ptr 6 0 0 → X 0 ⟨e, hpD N arcs x p (0, ks, vs, D), b⟩) (g : G28) (hg : Out28 (grD N arcs x (fun u => p.getD u 0) s hW.hV hs hn) N g) :
    aw (cxN Try.prog [0, 1, 2, 3]) c28l0 (fun s' => ∃ g' : G28, (Out28 (grD N arcs x (fun u => p.getD u 0) s hW.hV hs hn) N g' ∧ meas N g'.1 g'.2.2.2 < meas N g.1 g.2.2.2) ∧ leS [0, 1, 2, 3] s' (pat28 N arcs x p g')) X RR (pat28 N arcs x p g) := by
  obtain ⟨n, ks, vs, D⟩ := g
  obtain ⟨hD, hP⟩ := hg
  simp only at hD hP
  have hnle := hD.n_le hW.hN (fun j => hW.hb j)
  have hDl : D.length = N := hD.len
  unfold c28l0 pat28 hpD wB
  rcases Nat.eq_zero_or_pos n with h0 | h0
  · subst h0
    have hfin := hD.fin hP
    have := hX D ks vs hfin
    unfold hpD wB at this
    simp -implicitDefEqProofs only [qE, qF, qI, qJ, qK, qM, qO, qP, qV, qX, qZ, zb, zD, zF, zH, zJ, zK, zN, ofConst, List.length_nil, List.length_cons, zO, List.getD_eq_getElem?_getD, List.getElem?_cons_zero, ↓reduceIte, Nat.reduceEqDiff, Option.getD_some, zP, zR, List.nil_append, List.cons_append, List.append_nil, Nat.zero_add, Nat.reduceAdd, Nat.add_zero, List.map_cons, List.map_nil, true_and, lg0, kc, lg1, kj, lg2, lg3, lg4, lg5, lg6, lg7, lg8, jq, ↓jr, ↓ju, ↓jx, ↓jA, ↓jG, ↓jN, ↓jU, ↓qaV, cxN]
    intro _
    have hd : decide ((0 : Int) < ((0 : Nat) : Int)) = false := by decide
    simp -implicitDefEqProofs only [↓zT, hd]
    exact this _ _ rfl
  have hd : decide ((0 : Int) < (n : Int)) = true := decide_eq_true (by omega)
  simp -implicitDefEqProofs only [qE, qF, qI, qJ, qK, qM, qO, qP, qV, qX, qZ, zb, zD, zF, zH, zJ, zK, zN, ofConst, List.length_nil, List.length_cons, zO, List.getD_eq_getElem?_getD, List.getElem?_cons_zero, ↓reduceIte, Nat.reduceEqDiff, Option.getD_some, zP, zR, ↓zS, List.nil_append, List.cons_append, List.append_nil, Nat.zero_add, Nat.reduceAdd, Nat.add_zero, List.map_cons, List.map_nil, true_and, lg0, kc, lg1, kj, lg2, lg3, lg4, lg5, lg6, lg7, lg8, jq, ↓jr, ↓ju, ↓jx, ↓jA, ↓jG, ↓jN, ↓jU, ↓qaV, cxN, hd]
  intro _
  refine call_isM (PopQ n ks vs) [8, 10, 11] [] [] [.ptr 0 0 0] (fun g => .tup [.i g.1.1, .i g.1.2]) (hpB n ks vs) (fun g => hpB (n - 1) g.2.1 g.2.2) (ok40 n ks vs h0 hD.h1 hD.h2 (by omega)) (by simp) (by simp) (by simp [hpB, blk, renB, rens, ren, pos]) (by simp [lendsOk, lendOk, lends, lend, wkL, wk, pos]) fun g hg => ⟨by simp [keepP, liveP, hpB, setAll, renB, killB], ?_⟩
  obtain ⟨⟨key, v0⟩, ks2, vs2⟩ := g
  have hent := hD.ent _ _ hg.hin
  simp only at hent
  obtain ⟨v, rfl⟩ : ∃ v : Nat, v0 = v := ⟨v0.toNat, by omega⟩
  rw [Int.toNat_natCast] at hent
  have hvN : v < N := by omega
  obtain ⟨hD2, hM2⟩ := hD.pop h0 hg
  have hP2 := hP.pop hg
  simp only at hD2 hM2 hP2
  have hDv : D.getD v 0 = D[v]'(by omega) := getD_nat (by omega)
  simp -implicitDefEqProofs only [qE, qF, qH, qI, qJ, qM, qO, qP, qR, qU, qV, qW, qY, qZ, zD, zE, zH, zI, zJ, zN, ofConst, cells?, List.length_nil, List.length_cons, List.set_cons_zero, splice, zO, List.getD_eq_getElem?_getD, List.getElem?_cons_zero, ↓reduceIte, Nat.reduceEqDiff, Option.getD_some, zP, arrSz, zR, List.nil_append, List.cons_append, List.append_nil, Nat.zero_add, Nat.reduceAdd, Nat.add_zero, freshP, zX, leE, leH, leB, leV, leVs, keepP, liveP, wfE, wfB, wfV, wfL, killE, killB, kill, kills, St.kill, List.map_cons, List.map_nil, List.take_zero, List.drop_nil, List.all_cons, List.all_nil, isC, Bool.and_true, Bool.and_self, true_and, and_true, and_self, List.not_mem_nil, List.length_map, not_false_eq_true, Nat.le_refl, lg0, zY, zZ, lg1, kg, lg2, kk, lg3, kr, lg4, kz, lg5, kD, lg6, kI, lg7, kM, lg8, kQ, lg9, kU, kY, kZ, wd, we, wl, wm, jq, ↓jr, ↓ju, ↓jx, ↓jy, ↓jA, ↓jC, ↓jD, ↓jI, ↓jT, ↓qaV, List.length_map, List.getElem_map, encI_0, Int.toNat_natCast, hpB, setAll, renB, rens, ren, back, outR_kill]
  refine ⟨⟨by omega, by omega⟩, by omega, ?_⟩
  simp only [br, decide_eq_true_eq, decide_eq_false_iff_not]
  refine ⟨fun hgt => ?_, fun hle => ?_⟩
  · refine ⟨(n - 1, ks2, vs2, D), ⟨⟨hD2, fun u hu hQ hf => hP2 u hu ?_ hf⟩, hM2⟩, ?_⟩
    · rintro ⟨e1, e2⟩
      have : u = v := by omega
      subst this
      omega
    · exact ⟨⟨rfl, ⟨rfl, rfl⟩, rfl, rfl⟩, outR_wf⟩
  have hkey : D.getD v 0 = key := by omega
  refine call_isN [0, 1, 2, 3] [.ptr 0 0 0, .i v] (.clo 50 [.ptr 4 0 0, .ptr 5 0 0]) (.clo 50 [.ptr 14 0 0, .ptr 15 0 0]) (wH N arcs x p) (wH N arcs x p ++ [Blk.var [V.ptr 0 0 0], Blk.var [V.i v]]) (hpD N arcs x p (n - 1, ks2, vs2, D) ++ [Blk.var [V.i key], Blk.var [V.i v], Blk.var [V.ptr 0 0 0], Blk.var [V.i v]]) (ok41 N arcs x p v) (by simp) (by simp [wH, wB, blk, renB, rens, ren, pos, outR_ren]) (by simp [lendsOk, lendOk, lends, lend, wkL, wk, pos]) (by simp [wH]) (by simp [hpD, wH, wB, setAll, renB, rens, ren, outR_ren, back]) (by simp [ren, rens, back]) (by simp [keepP, liveP, hpD, wB]) ?_
  unfold hpD wB
  simp -implicitDefEqProofs only [qK, qO, zH, List.nil_append, List.cons_append]
  refine rfn_go 16 rfl rfl trivial ?_
  have hkf : key < far := by
    have : KB < far := by decide
    omega
  have hI0 : Inn (grD N arcs x (fun u => p.getD u 0) s hW.hV hs hn) N arcs x key v (meas N n D) 0 (n - 1, ks2, vs2, D) := by
    refine ⟨hD2, hkey, hkf, fun u hu hQ hf => hP2 u hu ?_ hf, fun j hj h => by omega, hM2⟩
    rintro ⟨e1, e2⟩
    omega
  refine I0_le (h' := hpI N arcs x p key v (n - 1, ks2, vs2, D)) ?_ ?_ ?_ ?_ (it50 (Inv := Inn (grD N arcs x (fun u => p.getD u 0) s hW.hV hs hn) N arcs x key v (meas N n D)) (itH28 hW hvN hx) ?_ ?_ ?_ _ hI0)
  · unfold hpI hpD wB eP28
    simp -implicitDefEqProofs only [zN, ↓reduceIte, Nat.reduceEqDiff, List.nil_append, List.cons_append, leE, leH, leB, leV, leVs, Bool.and_self, and_self, or_true]
  · simp [keepP, liveP, hpI, hpD, wB]
  · unfold hpI hpD wB eP28
    simp -implicitDefEqProofs only [List.getElem?_cons_zero, List.nil_append, List.cons_append, liveP, wfE, wfB, wfV, wfL, Bool.and_self, and_self, lg0, lg1, lg2, lg3, lg4, lg5, lg6, lg7, lg8, lg9, kY, wd, wl, outR_wfT]
  · unfold hpI hpD wB eP28
    simp -implicitDefEqProofs only [List.getElem?_cons_zero, List.nil_append, List.cons_append, liveP, wfV, wfL, Bool.and_self, and_self, lg0, lg1, lg2, lg3, lg4, lg5, lg6, lg7, lg8, lg9, kY, wd, wl, ws, wx, wE]
  · rintro i g hi ⟨g1, g2, g3, g4, g5, g6⟩ hr
    refine ⟨g1, g2, g3, g4, fun j hj hlt hro => ?_, g6⟩
    by_cases e : j = i
    · subst e
      exact absurd hro (by omega)
    · exact g5 j hj (by omega) hro
  · intro i g hi hI hr e bb Z he hT hF
    exact rnd28 hW hn hvN hi hI hr he hT
  · rintro ⟨n3, ks3, vs3, D3⟩ ⟨g1, g2, g3, g4, g5, g6⟩
    simp only at g1 g2 g3 g4 g5 g6
    have hcl : clN (grD N arcs x (fun u => p.getD u 0) s hW.hV hs hn) D3 v := by
      intro i hi hsrc
      obtain ⟨q1, q2⟩ := wix_all hW.hV hi.1 hsrc
      obtain ⟨j, hj, hje⟩ := List.getElem_of_mem q1
      have hres : wres arcs x i := hi
      have := g5 j hj hj (by rw [hje, ← wix_room, q2]; exact hres.2)
      rw [hje, q2] at this
      rw [g2]
      exact this
    unfold hpI hpD wB eP28
    simp -implicitDefEqProofs only [zN, List.set_cons_zero, List.getElem?_cons_zero, ↓reduceIte, Nat.reduceEqDiff, List.nil_append, List.cons_append, zX, leE, leH, leB, leV, leVs, keepP, liveP, wfE, wfB, wfV, wfL, Bool.and_true, Bool.and_self, true_and, and_true, and_self, lg0, zY, lg1, kg, lg2, kk, lg3, kr, lg4, kz, lg5, kD, lg6, kI, lg7, kM, lg8, kQ, lg9, kU, kY, kZ, wd, we, wl, wm, ws, wt, wx, wy, wE, wF, endLp_e, ↓rcdB_s, ↓endT_r, outR_wfT]
    refine ⟨(n3, ks3, vs3, D3), ⟨⟨g1, g4.done hcl⟩, g6⟩, ?_⟩
    exact ⟨rfl, ⟨rfl, rfl⟩, rfl, rfl⟩
theorem rep_encI {N : Nat} {x : Int} : List.replicate N (encI x) = (List.replicate N x).map encI := by simp
theorem ok39z (key val : Int) : OkN Try.prog 39 [.ptr 0 0 0, .i key, .i val] [.var [.nil, .nil]] [] (IsQ (PushQ 0 [] [] key val) (fun _ => .tup []) (fun g => hpB 1 g.1 g.2)) := by
  refine okN_ofG pol [0] lw39 (by simp) ⟨trivial, trivial⟩ (by simp) (s0 := ⟨args0 0 [.ptr 0 0 0, .i key, .i val], hpB 0 [] [], 0⟩) ?_ ?_
  · refine ⟨_, .virt 2 1 (by decide) (.nilB 0 [.nil, .nil] [.sl 1 0 0, .sl 2 0 0] rfl ⟨rfl, fun i a b h1 h2 => ?_⟩ (.refl _)), ?_⟩
    · match i with
      | 0 => simp at h1 h2; subst h1 h2; exact .inr ⟨rfl, _, rfl⟩
      | 1 => simp at h1 h2; subst h1 h2; exact .inr ⟨rfl, _, rfl⟩
      | i + 2 => simp at h1
    · unfold hpB
      simp -implicitDefEqProofs only [zN, List.set_cons_zero, List.getElem?_cons_zero, ↓reduceIte, Nat.reduceEqDiff, List.nil_append, List.cons_append, Nat.zero_add, Nat.reduceAdd, reduceCtorEq, zX, leE, leH, leB, leV, leVs, keepP, liveP, wfE, wfB, wfV, wfL, List.map_nil, Bool.and_self, and_self, lg0, kc, lg1, kj, jq, args0]
  · refine core39 0 [] [] key val (by simp) (by simp) (by omega) fun g hg e b => ?_
    refine retP_isQ g hg ?_
    unfold hpB
    simp -implicitDefEqProofs only [List.length_nil, List.length_cons, List.getElem?_cons_zero, Nat.zero_add, Nat.reduceAdd, resP, tupV, List.reverse_nil, leH, leB, leV, leVs, keepP, liveP, wfB, wfV, wfL, Bool.and_self, and_self, Nat.reduceLeDiff, lg0, lg1]
theorem ok28 (hW : WOk N arcs x p) (hn : NN arcs x fun u => p.getD u 0) (hx : ∀ j, 0 ≤ x.getD j 0 ∧ x.getD j 0 ≤ 1073741824) :
    OkN Try.prog 28 [.ptr 0 0 0, .i s] (wH N arcs x p) [] (IsQ (DistQ N (grD N arcs x (fun u => p.getD u 0) s hW.hV hs hn)) (fun _ => .sl 7 0 N) (fun D => wH N arcs x p ++ [.dead, .dead, .dead, .arr 1 (D.map encI)])) := by
  refine okN_of pol [0, 1, 2, 3] lw28 (by simp) ⟨trivial, trivial, trivial, trivial, trivial⟩ (by simp [wH]; omega) ?_
  have hN := hW.hV.hn
  unfold c28 wH wB
  simp -implicitDefEqProofs only [qF, qI, qO, qP, qR, qT, qV, qX, zp, zD, zF, zH, zJ, zK, zN, ofConst, cells?, List.length_nil, List.length_cons, List.set_cons_zero, zO, List.getD_eq_getElem?_getD, List.getElem?_cons_zero, ↓reduceIte, Nat.reduceEqDiff, Option.getD_some, List.nil_append, List.cons_append, Nat.zero_add, Nat.reduceAdd, Nat.add_zero, freshP, litsP, List.map_cons, List.map_nil, List.all_cons, List.all_nil, isD, Bool.and_true, Bool.and_self, true_and, and_true, and_self, Nat.reduceLT, lg0, zY, kc, lg1, kg, kj, lg2, kk, lg3, kr, lg4, kz, jq, ↓jr, ↓ju, ↓jx, ↓jA, ↓jG, ↓jU, cxN, args0]
  refine call_isA [.bro 1 [encI far], .i N] (.sl 0 0 N) (.sl 7 0 N) [.arr 1 (List.replicate N (encI far))] [.arr 1 (List.replicate N (encI far))] (ok38 N far (by omega) (by omega)) (by simp [lendsOk, lendOk, lends, lend, wkL, wk, wkB, blk, far, encI]) rfl rfl (by simp [keepP, liveP]) ?_
  rw [rep_encI]
  simp -implicitDefEqProofs only [qF, qI, qO, qP, qR, qT, qU, qV, qW, qY, zk, zD, zH, zI, zJ, zK, zN, ofConst, cells?, List.length_nil, List.length_cons, List.set_cons_zero, splice, zO, List.getD_eq_getElem?_getD, List.getElem?_cons_zero, ↓reduceIte, Nat.reduceEqDiff, Option.getD_some, zP, arrSz, List.nil_append, List.cons_append, List.append_nil, Nat.zero_add, Nat.reduceAdd, Nat.add_zero, reduceCtorEq, freshP, buildP, List.map_cons, List.map_nil, List.take_zero, List.drop_nil, List.all_cons, List.all_nil, isD, isC, Bool.and_true, Bool.and_self, true_and, and_true, and_self, List.not_mem_nil, List.length_map, List.length_replicate, not_false_eq_true, Nat.le_refl, lg0, zY, zZ, kc, lg1, kg, kj, lg2, kk, lg3, kr, lg4, kz, lg5, kD, lg6, kI, lg7, kM, lg8, kQ, jq, ↓jr, ↓ju, ↓jx, ↓jA, ↓jC, ↓jD, ↓jE, ↓jI, List.length_map, List.getElem_map, Int.toNat_natCast, encI_drop, encI_set]
  refine ⟨⟨by omega, by omega⟩, by omega, ?_⟩
  refine call_isM (PushQ 0 [] [] 0 (s : Nat)) [8] [] [] [.ptr 0 0 0, .i 0, .i s] (fun _ => .tup []) [Blk.var [.nil, .nil]] (fun g => hpB 1 g.1 g.2) (ok39z 0 s) (by simp) (by simp) (by simp [blk, renB, rens, ren, pos]) (by simp [lendsOk, lendOk, lends, lend, wkL, wk, pos]) fun g hg => ⟨by simp [keepP, liveP, hpB, setAll, renB, killB], ?_⟩
  obtain ⟨ks, vs⟩ := g
  obtain ⟨h1, h2⟩ := DI.start (N := N) (arcs := arcs) (x := x) (p := fun u => p.getD u 0) (s := s) (hV := hW.hV) (hs := hs) (hn := hn) hg
  simp -implicitDefEqProofs only [qI, qK, qL, qO, zH, List.length_nil, List.length_cons, List.set_cons_zero, ↓reduceIte, List.nil_append, List.cons_append, Nat.zero_add, Nat.reduceAdd, killE, killB, kill, kills, St.kill, List.map_cons, List.map_nil, List.not_mem_nil, lg0, zY, lg1, kg, kk, kr, kz, kD, kI, kM, hpB, setAll, renB, rens, ren, back, outR_kill]
  refine loopP_intro (pat28 N arcs x p) (Out28 (grD N arcs x (fun u => p.getD u 0) s hW.hV hs hn) N) (fun g => meas N g.1 g.2.2.2) (1, ks, vs, (List.replicate N far).set s 0) ⟨h1, h2⟩ ?_ (body28 hW hn hx fun D ks vs hQ e b he => ?_)
  · unfold pat28 hpD wB
    simp -implicitDefEqProofs only [zN, List.getElem?_cons_zero, ↓reduceIte, Nat.reduceEqDiff, zX, leE, leH, leB, leV, leVs, keepP, liveP, wfE, wfB, wfV, wfL, Bool.and_true, Bool.and_self, true_and, and_true, and_self, lg0, lg1, lg2, lg3, lg4, lg5, lg6, lg7, lg8, lg9, kY, outR_wfT]
    exact ⟨rfl, rfl⟩
  · unfold hpD wB
    simp -implicitDefEqProofs only [qF, qI, qN, qO, qP, qR, qV, zH, zJ, zN, List.length_nil, List.length_cons, zO, List.getD_eq_getElem?_getD, List.getElem?_cons_zero, ↓reduceIte, Option.getD_some, List.append_nil, Nat.zero_add, Nat.reduceAdd, lg0, lg1, lg2, lg3, lg4, lg5, jq, ↓jr, ↓ju, ↓jx, ↓jA, he]
    refine retP_isQ D hQ ?_
    simp -implicitDefEqProofs only [zN, List.length_nil, List.length_cons, List.getElem?_cons_zero, ↓reduceIte, List.nil_append, Nat.zero_add, Nat.reduceAdd, resP, tupV, List.reverse_cons, List.reverse_nil, leH, leB, leV, leVs, keepP, liveP, wfB, wfV, wfL, Bool.and_self, and_self, Nat.reduceLeDiff, lg0, lg1, lg2, lg3, lg4, lg5, lg6, outR_wfT]
end
end Go.Fx.C
namespace Go.Fx.C
open Go Go.Fx Go.Proofs
set_option maxRecDepth 20000
def h44 (N : Nat) (arcs : List Arc) (p : List Int) (to : Nat) (x : List Int) (d : List Bool) : List Blk :=
  [wB N arcs.length arcs 1 2 3, .arr 1 (x.map encI), .arv 1 (outR arcs N), .arr 1 (p.map encI), .var [.ptr 0 0 0], .var [.i to], .arr 1 (d.map encB), .var [.sl 6 0 N], .var [.clo 44 [.ptr 5 0 0, .ptr 7 0 0, .ptr 4 0 0, .ptr 8 0 0]]]
abbrev G44 (arcs : List Arc) : Type := { g : Int × List Int × List Bool // XB arcs g.2.1 }
def eP44 : Env := [(9, .ptr 11 0 0), (7, .ptr 10 0 0), (6, .ptr 9 0 0), (5, .ptr 8 0 0), (4, .ptr 4 0 0), (3, .ptr 7 0 0)]
def hpF (N : Nat) (arcs : List Arc) (p : List Int) (to v : Nat) (most : Int) (g : Int × List Int × List Bool) : List Blk :=
  h44 N arcs p to g.2.1 g.2.2 ++ [.var [.i v], .var [.i most], .var [.i g.1], .var [.ptr 0 0 0], .var [.i v], .rcd .ready eP44]
theorem getD_natB {l : List Bool} {k : Nat} (h : k < l.length) : l.getD k false = l[k] := by
  rw [List.getD_eq_getElem?_getD, List.getElem?_eq_getElem h]; rfl
theorem XB.bd {N : Nat} {arcs : List Arc} {x : List Int} (hV : Val N arcs) (h : XB arcs x) (j : Nat) : 0 ≤ x.getD j 0 ∧ x.getD j 0 ≤ 1073741824 := by
  by_cases hj : j < arcs.length
  · have := h.hb j hj
    have := hV.at hj
    omega
  · rw [List.getD_eq_getElem?_getD, List.getElem?_eq_none (by have := h.hl; omega)]; simp
def Ok44 (N : Nat) (arcs : List Arc) (p : List Int) (to : Nat) (x : List Int) (d : List Bool) (v : Nat) (most : Int) : Prop :=
  OkN Try.prog 44 [.i v, .i most, .ptr 5 0 0, .ptr 7 0 0, .ptr 4 0 0, .ptr 8 0 0] (h44 N arcs p to x d) [] (IsQ (FQ arcs x (fun u => p.getD u 0) to d v most) (fun g => .i g.1) (fun g => h44 N arcs p to g.2.1 g.2.2))
section
variable {N : Nat} {arcs : List Arc} {x p : List Int} {to v : Nat} {d : List Bool} {most : Int}
theorem itH44 (hV : Val N arcs) (hv : v < N) : ItH (fun g : G44 arcs => hpF N arcs p to v most g.1) (fun g => g.1.2.1) 15 N v arcs 14 12 13 0 1 2 3 [14, 0, 1, 2, 3, 4, 5, 6, 7, 8] := by
  refine ⟨hV, hv, fun g => rfl, fun g tl => rfl, fun g tl => rfl, fun g tl => rfl, fun g tl => rfl, fun g tl => rfl, fun g => ⟨trivial, trivial, trivial, trivial, trivial, trivial, trivial, trivial, trivial, trivial, trivial⟩, fun g => ?_, fun g => ⟨_, _, rfl⟩, fun g => ⟨g.2.hl, fun j => g.2.bd hV j⟩⟩
  unfold hpF h44 wB eP44
  simp -implicitDefEqProofs only [List.getElem?_cons_zero, List.nil_append, List.cons_append, liveP, wfE, wfB, wfV, wfL, Bool.and_self, and_self, lg0, lg1, lg2, lg3, lg4, lg5, lg6, lg7, lg8, lg9, kY, outR_wfT]
theorem rnd44 (hW : ∀ x, XB arcs x → WOk N arcs x p) (hvd : d.getD v false = false) (hdl : d.length = N) (hto : to < N) (hm : 0 < most ∧ most ≤ 4611686018427387904) {i : Nat} {g : Int × List Int × List Bool} (hv : v < N) (hi : i < (outs arcs v arcs.length).length)
    (IH : ∀ (x1 : List Int) (d1 : List Bool) (v1 : Nat) (m1 : Int), d1.count false < d.count false → XB arcs x1 → d1.length = N → v1 < N → d1.getD v1 false = false → 0 ≤ m1 ∧ m1 ≤ 4611686018427387904 → Ok44 N arcs p to x1 d1 v1 m1)
    (hI : FN N arcs x (fun u => p.getD u 0) to d v most i g)
    (hr : 0 < roomOf arcs g.2.1 v (outs arcs v arcs.length)[i]) {e : Env} {bb : Nat} {Z : V → St → Prop} {NX RX : St → Prop} {XX : Nat → St → Prop} (he : EI arcs v 14 12 13 i e)
    (hN : ∀ e' h', (∃ (g : Int × List Int × List Bool) (tl : List Blk), FN N arcs x (fun u => p.getD u 0) to d v most i g ∧ g.1 = most ∧ e' = eP44 ∧ h' = (hpF N arcs p to v most g).set 14 .dead ++ tl) → XX 0 ⟨e', h', 0⟩)
    (hT : ∀ e' g' tl, EI arcs v 14 12 13 i e' → FN N arcs x (fun u => p.getD u 0) to d v most (i + 1) g' → Z (.b true) ⟨e', hpF N arcs p to v most g' ++ tl, bb⟩)
    (hF : ∀ e' hh, EI arcs v 14 12 13 i e' → endLp 14 NX XX RX hh → Z (.b false) ⟨e', hh, bb⟩) :
    yR (cxN Try.prog [0, 1, 2, 3, 4, 5, 6, 7, 8]) [26] c44a0 c44r0 14 [wayOf arcs g.2.1 v (outs arcs v arcs.length)[i]] ⟨e, hpF N arcs p to v most g ++ [.var (gA arcs (outs arcs v arcs.length)[i]).enc, .var (wayC arcs g.2.1 v (outs arcs v arcs.length)[i])], bb⟩ Z := by
  obtain ⟨sent, x1, d1⟩ := g
  have hfi := hI.fi
  have hn0 := hI.n0
  simp only at hfi hn0 hr ⊢
  have hx1 := hfi.xb
  have hWx := hW x1 hx1
  have hVV := hWx.hV
  obtain ⟨hj, hend⟩ := outs_in hi
  generalize hk : (outs arcs v arcs.length)[i] = k at *
  have hsrc := wix_src hVV hj hend
  obtain ⟨w1, w2, w3⟩ := w_in hVV (i := wix arcs v k) (by rw [wix_half]; exact hj)
  have hcb := wcst_b hVV (i := wix arcs v k) (by rw [wix_half]; exact hj)
  have hway : wayOf arcs x1 v k = .agg [.i k, .i (wdst arcs (wix arcs v k) : Nat), .i (roomOf arcs x1 v k), .i (wcst arcs (wix arcs v k)), .b (decide (¬ (gA arcs k).from_ = v))] := by
    have := hVV.at hj
    unfold wayOf roomOf wdst wcst
    rw [wix_half]
    unfold wix
    by_cases h : (gA arcs k).from_ = v
    · simp only [if_pos h]
      rw [if_pos (by omega), if_pos (by omega), show (((gA arcs k).to.toNat : Nat) : Int) = (gA arcs k).to by omega, show decide (¬ (gA arcs k).from_ = v) = false from decide_eq_false (by simpa using h)]
    · simp only [if_neg h]
      rw [if_neg (by omega), if_neg (by omega), show (((gA arcs k).from_.toNat : Nat) : Int) = (gA arcs k).from_ by omega, show decide (¬ (gA arcs k).from_ = v) = true from decide_eq_true h]
  have hwc : cells? (wayOf arcs x1 v k) = some (wayC arcs x1 v k) := by unfold wayOf wayC; split <;> rfl
  have hwc2 : wayC arcs x1 v k = [.i k, .i (wdst arcs (wix arcs v k) : Nat), .i (roomOf arcs x1 v k), .i (wcst arcs (wix arcs v k)), .b (decide (¬ (gA arcs k).from_ = v))] := by
    rw [hway] at hwc
    simpa [cells?] using hwc.symm
  rw [hway, hwc2]
  have hdlt : ∀ n, dlt arcs v k n = if decide (¬ (gA arcs k).from_ = v) = true then -n else n := by
    intro n
    unfold dlt
    by_cases h : (gA arcs k).from_ = v
    · rw [if_pos h, if_neg (by simpa using h)]
    · rw [if_neg h, if_pos (by simpa using h)]
  have hcap := hVV.at hj
  have hx1b := hx1.hb k hj
  have hrmb : roomOf arcs x1 v k ≤ 1073741824 := by unfold roomOf; split <;> omega
  have hdltr : ∀ n, 0 ≤ n → n ≤ roomOf arcs x1 v k → 0 ≤ x1.getD k 0 + dlt arcs v k n ∧ x1.getD k 0 + dlt arcs v k n ≤ 1073741824 := by
    intro n h1 h2
    unfold roomOf at h2
    unfold dlt
    split
    · rename_i e; rw [if_pos e] at h2; omega
    · rename_i e; rw [if_neg e] at h2; omega
  generalize hbk : decide (¬ (gA arcs k).from_ = v) = bk at *
  generalize hrm : roomOf arcs x1 v k = rm at *
  have hKill : ∀ M, kills M (gA arcs k).enc = (gA arcs k).enc := fun M => rfl
  have hWf : ∀ q, wfL q (gA arcs k).enc = True := fun q => eq_true enc_wf
  generalize (gA arcs k).enc = encA at *
  have hcall := ok42 N arcs x1 p v (wdst arcs (wix arcs v k) : Nat) (wcst arcs (wix arcs v k)) (.i k) (.i rm) (.b bk) hWx (by omega) (by omega) hcb
  have hrc : wcst arcs (wix arcs v k) + p.getD (v : Int).toNat 0 - p.getD ((wdst arcs (wix arcs v k) : Nat) : Int).toNat 0 = rcst arcs (fun u => p.getD u 0) (wix arcs v k) := by
    unfold rcst
    rw [hsrc, Int.toNat_natCast, Int.toNat_natCast]
  rw [hrc] at hcall
  have hxl := hx1.hl
  have hd1 : d1.length = N := hfi.dl.trans hdl
  have hst := fun (hd : d1.getD (wdst arcs (wix arcs v k)) false = false) (hc : rcst arcs (fun u => p.getD u 0) (wix arcs v k) = 0) => hI.step hVV hvd hm.1 hi hk hd hc
  have hsk := hI.skip hi
  rw [hk] at hsk
  rw [hrm] at hst
  generalize hcc : rcst arcs (fun u => p.getD u 0) (wix arcs v k) = c at *
  generalize hto2 : wdst arcs (wix arcs v k) = u at *
  have hud : u < d1.length := by omega
  have hdu : d1.getD u false = d1[u] := getD_natB hud
  refine yR_go 17 rfl rfl rfl ?_
  unfold hpF h44 wB eP44 c44a0
  simp -implicitDefEqProofs only [qF, qO, qP, qU, qW, zH, zI, zJ, zN, ofConst, cells?, List.length_nil, List.length_cons, List.set_cons_zero, splice, zO, List.getD_eq_getElem?_getD, List.getElem?_cons_zero, ↓reduceIte, Nat.reduceEqDiff, Option.getD_some, List.nil_append, List.cons_append, Nat.zero_add, Nat.reduceAdd, Nat.add_zero, freshP, List.map_cons, List.map_nil, List.take_zero, List.drop_nil, List.all_cons, List.all_nil, isC, Bool.and_true, Bool.and_self, true_and, and_true, and_self, List.not_mem_nil, not_false_eq_true, Nat.le_refl, lg0, zY, zZ, kc, lg1, kg, kh, lg2, kk, kn, lg3, kr, kw, lg4, kz, kA, lg5, kD, lg6, kI, lg7, kM, lg8, kQ, lg9, kU, kY, kZ, wd, we, wl, wm, ws, wt, wx, wy, wE, wF, wK, wL, wM, wN, jq, ↓jr, ↓jC, ↓jD, cxN, begRd_e, ↓rcdB_s, setPs]
  unfold c44r0
  simp -implicitDefEqProofs only [qE, qF, qI, qJ, qK, qM, qO, qP, qQ, qR, qS, qV, qX, qY, qZ, zD, zH, zJ, zK, zN, ofConst, List.length_nil, List.length_cons, List.set_cons_zero, zO, List.getD_eq_getElem?_getD, List.getElem?_cons_zero, ↓reduceIte, Nat.reduceEqDiff, Option.getD_some, zP, arrSz, zR, Bool.not_false, ↓zS, ↓zT, zU, List.append_nil, Nat.zero_add, Nat.reduceAdd, reduceCtorEq, List.map_cons, List.map_nil, List.drop_zero, List.take_nil, true_and, List.length_map, Bool.false_eq_true, Nat.le_refl, lg0, zY, ka, lg1, kg, ki, lg2, kk, ko, lg3, kr, kx, lg4, kz, kB, lg5, kD, lg6, kI, lg7, kM, lg8, kQ, lg9, kU, kY, kZ, wd, we, wl, wm, ws, wt, wx, wy, wE, wF, wK, wL, wM, jq, ↓jr, ↓ju, ↓jx, ↓jy, ↓jA, ↓jB, ↓jG, ↓jI, ↓qaR, List.length_map, List.getElem_map, encB_0, Int.toNat_natCast, endRd_e, ↓rcdB_s]
  simp only [br, decide_eq_true_eq, decide_eq_false_iff_not]
  refine ⟨fun heq => ?_, fun hne => ?_⟩
  · have heq' : sent = most := by simpa using heq
    refine hF e _ he ?_
    simp -implicitDefEqProofs only [List.set_cons_zero, List.getElem?_cons_zero, liveP, wfE, wfB, wfV, wfL, Bool.and_self, true_and, and_self, lg0, zY, lg1, kg, lg2, kk, lg3, kr, lg4, kz, lg5, kD, lg6, kI, lg7, kM, lg8, kQ, lg9, kU, kY, kZ, wd, we, wl, wm, ws, wt, endLp_e, ↓rcdB_s, ↓endT_s, outR_wfT, hWf]
    exact hN _ _ ⟨(sent, x1, d1), [.var encA, .var [.i k, .i u, .i rm, .i (wcst arcs (wix arcs v k)), .b bk], .dead, .var [.i k, .i u, .i rm, .i (wcst arcs (wix arcs v k)), .b bk]], hI, heq', rfl, rfl⟩
  · have hne' : sent ≠ most := by simpa using hne
    refine ⟨⟨by omega, by omega⟩, by omega, ?_⟩
    refine ⟨fun hdead => ?_, fun hlive => ?_⟩
    · exact hT e _ [.var encA, .var [.i k, .i u, .i rm, .i (wcst arcs (wix arcs v k)), .b bk], .dead, .var [.i k, .i u, .i rm, .i (wcst arcs (wix arcs v k)), .b bk]] he (hsk fun _ _ _ => by rw [hdu]; exact hdead)
    · refine call_isN [0, 1, 2, 3] [.ptr 0 0 0, .i v, .agg [.i k, .i (u : Nat), .i rm, .i (wcst arcs (wix arcs v k)), .b bk]] (.i c) (.i c) (wH N arcs x1 p) (wH N arcs x1 p) _ hcall (by simp) (by simp [wH, wB, blk, renB, rens, ren, pos, outR_ren, hxl]) (by simp [lendsOk, lendOk, lends, lend, wkL, wk, pos]) (by simp [wH]) rfl rfl (by simp [keepP, liveP, wH, wB, setAll, renB]) ?_
      simp -implicitDefEqProofs only [qE, qF, qI, qJ, qM, qO, qP, qQ, qS, qV, qX, qZ, zg, zG, zH, zJ, zK, zN, ofConst, List.length_nil, List.length_cons, List.set_cons_zero, zO, List.getD_eq_getElem?_getD, List.getElem?_cons_zero, ↓reduceIte, Nat.reduceEqDiff, Option.getD_some, zP, zR, ↓zT, zU, List.nil_append, List.cons_append, List.append_nil, Nat.zero_add, Nat.reduceAdd, List.map_cons, List.map_nil, true_and, Bool.false_eq_true, lg0, zY, lg1, kg, lg2, kk, lg3, kr, lg4, kz, lg5, kD, lg6, kI, lg7, kM, lg8, kQ, lg9, kU, kY, kZ, wd, we, wl, wm, ws, wt, wx, wy, wE, wF, wK, wL, wM, jq, ↓jr, ↓ju, ↓jx, ↓jA, ↓jG, ↓jW, ↓qaN, ↓qaS, endRd_e, ↓rcdB_s, wH, wB, setAll, renB, rens, ren, outR_ren, back, hxl]
      simp only [br, decide_eq_true_eq, decide_eq_false_iff_not]
      refine ⟨fun hc => hT e _ [.var encA, .var [.i k, .i u, .i rm, .i (wcst arcs (wix arcs v k)), .b bk], .dead, .var [.i k, .i u, .i rm, .i (wcst arcs (wix arcs v k)), .b bk]] he (hsk fun _ _ h0 => absurd h0 (by simpa using hc)), fun hc => ⟨by simp only [lo, Fx.hi]; omega, ?_⟩⟩
      have hc0 : c = 0 := by simpa using hc
      have hstep := @hst (by rw [hdu]; exact hlive) hc0 hr hne'
      have hm1 : 0 < min rm (most - sent) ∧ min rm (most - sent) ≤ rm ∧ min rm (most - sent) ≤ most - sent := ⟨Int.lt_min.2 ⟨hr, by omega⟩, Int.min_le_left _ _, Int.min_le_right _ _⟩
      generalize min rm (most - sent) = m1 at *
      refine call_isM (FQ arcs x1 (fun u => p.getD u 0) to d1 u m1) [0, 1, 2, 3, 4, 5, 6, 7, 8] [] [] [.i u, .i m1, .ptr 5 0 0, .ptr 7 0 0, .ptr 4 0 0, .ptr 8 0 0] (fun g => .i g.1) (h44 N arcs p to x1 d1) (fun g => h44 N arcs p to g.2.1 g.2.2)
        (IH x1 d1 u m1 (cnt_lt (hdl.trans hd1.symm) hfi.mono (by omega) hvd hI.nd) hx1 hd1 w2 (by rw [hdu]; exact hlive) (by omega)) (by simp) (by simp) (by simp [h44, wB, blk, renB, rens, ren, pos, outR_ren]) (by simp [lendsOk, lendOk, lends, lend, wkL, wk, pos]) fun g hg => ⟨by simp [keepP, liveP, h44, wB, setAll, renB, killB], ?_⟩
      obtain ⟨n, x2, d2⟩ := g
      have hN3 := hstep hg
      have hqi := hg.fi
      have hn := hg.n0
      simp only at hqi hn
      have hk2 : x2.getD k 0 = x1.getD k 0 := hqi.kept k hj (by
        have : d1.getD v false = true := hI.nd
        rcases hend with e | e
        · left; rw [e]; exact this
        · right; rw [e]; exact this)
      have hkl : k < x2.length := by rw [hqi.xb.hl]; exact hj
      have hx2e : x2.getD k 0 = x2[k] := getD_nat hkl
      have hdr := hdltr n hn.1 (by omega)
      rw [← hk2, hx2e, hdlt] at hdr
      rw [hx2e, hdlt] at hN3
      have hmax : max n (-n) = n := Int.max_eq_left (by omega)
      have hmax2 : max (-n) n = n := Int.max_eq_right (by omega)
      simp -implicitDefEqProofs only [qa, qc, qd, qe, qu, qw, rdK, qx, qy, qz, qA, qC, qE, qF, qI, qJ, qO, qP, qR, qV, qW, qX, qY, qZ, ze, zg, zF, zH, zI, zJ, zN, cells?, List.length_nil, List.length_cons, List.set_cons_zero, splice, zO, List.getD_eq_getElem?_getD, List.getElem?_cons_zero, ↓reduceIte, Nat.reduceEqDiff, Option.getD_some, zP, arrSz, zR, List.nil_append, List.append_nil, Nat.zero_add, Nat.reduceAdd, Nat.add_zero, killE, killB, kill, kills, St.kill, List.map_cons, List.map_nil, List.take_zero, List.drop_nil, List.all_cons, List.all_nil, isD, isC, Bool.and_true, Bool.and_self, true_and, and_true, and_self, List.not_mem_nil, List.length_map, not_false_eq_true, Bool.false_eq_true, Nat.le_refl, lg0, zY, zZ, lg1, kg, lg2, kk, lg3, kr, lg4, kz, lg5, kD, lg6, kI, lg7, kM, lg8, kQ, lg9, kU, kY, kZ, wd, we, wl, wm, ws, wt, wx, wy, wE, wF, wK, wL, wM, jq, ↓jr, ↓ju, ↓jx, ↓jy, ↓jA, ↓jC, ↓jD, ↓jE, ↓jG, ↓jI, ↓jU, ↓qaL, List.length_map, List.getElem_map, encI_0, Int.toNat_natCast, encI_drop, endRd_e, ↓rcdB_s, h44, wB, setAll, renB, rens, ren, back, outR_ren, outR_kill, hKill]
      have hw1 : IntKind.wrap .i64 (-n) = -n := wrap_in .i64 _ (by simp only [lo, Fx.hi]; omega)
      have hw2 : IntKind.wrap .i64 (- -n) = n := by rw [Int.neg_neg]; exact wrap_in .i64 _ (by simp only [lo, Fx.hi]; omega)
      have hZ := hT (killE [] e) _ [.var encA, .var [.i k, .i u, .i rm, .i (wcst arcs (wix arcs v k)), .b bk], .dead, .var [.i k, .i u, .i rm, .i (wcst arcs (wix arcs v k)), .b bk]] (EI_kill (by simp) (by simp) (by simp) he) hN3
      unfold hpF h44 wB eP44 at hZ
      cases bk
      · simp -implicitDefEqProofs only [↓zT, hw1, hmax, encI_set]
        simp only [if_neg (show ¬ (false = true) by decide)] at hZ hdr
        exact ⟨⟨by omega, by omega⟩, by omega, by simp only [lo, Fx.hi]; omega, ⟨by omega, by omega⟩, by omega, by simp only [lo, Fx.hi]; omega, hZ⟩
      · simp -implicitDefEqProofs only [↓zS, hw1, hw2, hmax2, encI_set]
        simp only [if_pos] at hZ hdr
        exact ⟨⟨by omega, by omega⟩, by omega, by simp only [lo, Fx.hi]; omega, ⟨by omega, by omega⟩, by omega, by simp only [lo, Fx.hi]; omega, hZ⟩
end
end Go.Fx.C
namespace Go.Fx.C
open Go Go.Fx Go.Proofs
set_option maxRecDepth 20000
section
variable {N : Nat} {arcs : List Arc} {p : List Int} {to : Nat}
theorem encB_set {l : List Bool} {k : Nat} {b : Bool} : (l.map encB).set k [.b b] = (l.set k b).map encB := by
  rw [List.map_set]; rfl
theorem leH_nil {h : List Blk} : leH h [] = True := eq_true (by unfold leH; trivial)
def hpE (N : Nat) (arcs : List Arc) (p : List Int) (to v : Nat) (most : Int) (g : Int × List Int × List Bool) (tl : List Blk) : List Blk :=
  h44 N arcs p to g.2.1 g.2.2 ++ [.var [.i v], .var [.i most], .var [.i g.1], .var [.ptr 0 0 0], .var [.i v], .dead] ++ tl
theorem rng44 (hV : Val N arcs) (hW : ∀ x, XB arcs x → WOk N arcs x p) (hto : to < N) {x : List Int} {d : List Bool} {v : Nat} {most : Int} {Q : Int × List Int × List Bool → Prop} (hx : XB arcs x) (hdl : d.length = N) (hv : v < N) (hvt : v ≠ to) (hvd : d.getD v false = false) (hm : 0 < most ∧ most ≤ 4611686018427387904)
    (IH : ∀ (x1 : List Int) (d1 : List Bool) (v1 : Nat) (m1 : Int), d1.count false < d.count false → XB arcs x1 → d1.length = N → v1 < N → d1.getD v1 false = false → 0 ≤ m1 ∧ m1 ≤ 4611686018427387904 → Ok44 N arcs p to x1 d1 v1 m1)
    {NX RX : St → Prop} {XX : Nat → St → Prop} (hX : ∀ s, NX s → XX 0 s) (hQ : Q = FQ arcs x (fun u => p.getD u 0) to d v most)
    (hfin : ∀ (g : Int × List Int × List Bool) tl, Q (g.1, g.2.1, g.2.2.set v (decide (g.1 < most))) → g.2.2.length = N → NX ⟨eP44, hpE N arcs p to v most g tl, 0⟩) :
    I0 Try.prog 50 [.itr 14, .ptr 12 0 0, .ptr 13 0 0] [14, 0, 1, 2, 3, 4, 5, 6, 7, 8] 14 (yR (cxN Try.prog [0, 1, 2, 3, 4, 5, 6, 7, 8]) [26] c44a0 c44r0 14) (hpF N arcs p to v most (0, x, d.set v true)) (endLp 14 NX XX RX) := by
  subst hQ
  have hvl : v < d.length := by omega
  refine it50 (Inv := fun i (g : G44 arcs) => FN N arcs x (fun u => p.getD u 0) to d v most i g.1) (itH44 (p := p) (to := to) (most := most) hV hv) ?_ ?_ ?_ ⟨(0, x, d.set v true), hx⟩ (FN.start hx (Int.le_of_lt hm.1) hvl)
  · rintro i ⟨⟨s, x1, d1⟩, hg⟩ hi hI hr
    refine hI.skip hi fun h0 h1 => ?_
    obtain ⟨z1, _⟩ := hI.zero h0
    simp only at z1 hr
    subst z1
    omega
  · rintro i ⟨g, hg⟩ hi hI hr e bb Z he hT hF
    refine rnd44 hW hvd hdl hto hm hv hi IH hI hr he ?_ ?_ hF
    · rintro e' h' ⟨g', tl, h1, h2, rfl, rfl⟩
      refine hX _ (hfin g' tl (h1.done hV hvl hvt hvd hm.1 (.inr h2)) (h1.fi.dl.trans hdl))
    · intro e' g' tl he' hI'
      exact hT e' ⟨g', hI'.fi.xb⟩ tl he' hI'
  · rintro ⟨g, hg⟩ hI
    have := hfin g [] (hI.done hV hvl hvt hvd hm.1 (.inl rfl)) (hI.fi.dl.trans hdl)
    obtain ⟨s, x1, d1⟩ := g
    unfold hpF h44 wB eP44
    unfold hpE h44 wB eP44 at this
    simp -implicitDefEqProofs only [List.set_cons_zero, List.getElem?_cons_zero, List.nil_append, List.cons_append, List.append_nil, liveP, wfE, wfB, wfV, wfL, Bool.and_self, true_and, and_self, lg0, zY, lg1, kg, lg2, kk, lg3, kr, lg4, kz, lg5, kD, lg6, kI, lg7, kM, lg8, kQ, lg9, kU, kY, kZ, wd, we, wl, wm, ws, wt, endLp_e, ↓rcdB_s, ↓endT_r, outR_wfT] at this ⊢
    exact this
theorem ok44 (hV : Val N arcs) (hW : ∀ x, XB arcs x → WOk N arcs x p) (hto : to < N) : ∀ (c : Nat) (x : List Int) (d : List Bool) (v : Nat) (most : Int), d.count false < c → XB arcs x → d.length = N → v < N → d.getD v false = false → 0 ≤ most ∧ most ≤ 4611686018427387904 → Ok44 N arcs p to x d v most
  | 0, _, d, _, _, hc, _, _, _, _, _ => by omega
  | c + 1, x, d, v, most, hc, hx, hdl, hv, hvd, hm => by
    have IH := ok44 hV hW hto c
    have hxl := hx.hl
    have hWx := hW x hx
    have hvl : v < d.length := by omega
    have hN := hWx.hN
    unfold Ok44
    have hbase := FQ.base (p := fun u => p.getD u 0) (to := to) (d := d) (v := v) hx hm.1
    generalize hQ : FQ arcs x (fun u => p.getD u 0) to d v most = Q at *
    refine okN_of pol [0, 1, 2, 3, 4, 5, 6, 7, 8] lw44 (by simp) ⟨trivial, trivial, trivial, trivial, trivial, trivial, trivial, trivial, trivial, trivial⟩ (by simp [h44]; omega) ?_
    unfold c44 h44 wB
    simp -implicitDefEqProofs only [qE, qF, qI, qJ, qN, qO, qP, qQ, qR, qS, qT, qU, qV, qW, qY, qZ, zD, zH, zI, zJ, zK, zN, ofConst, cells?, List.length_nil, List.length_cons, List.set_cons_zero, splice, zO, List.getD_eq_getElem?_getD, List.getElem?_cons_zero, ↓reduceIte, Nat.reduceEqDiff, Option.getD_some, zP, arrSz, zR, Bool.not_false, ↓zS, ↓zT, zU, List.nil_append, List.cons_append, List.append_nil, Nat.zero_add, Nat.reduceAdd, Nat.add_zero, reduceCtorEq, freshP, List.map_cons, List.map_nil, List.take_zero, List.drop_nil, List.all_cons, List.all_nil, isD, isC, Bool.and_true, Bool.and_self, true_and, and_true, and_self, List.not_mem_nil, List.length_map, not_false_eq_true, Bool.false_eq_true, Nat.le_refl, lg0, zY, zZ, kc, lg1, kg, kj, lg2, kk, lg3, kr, lg4, kz, lg5, kD, lg6, kI, lg7, kM, lg8, kQ, lg9, kU, kY, kZ, jq, ↓jr, ↓ju, ↓jx, ↓jA, ↓jC, ↓jD, ↓jE, ↓jI, ↓qaR, List.length_map, List.getElem_map, Int.toNat_natCast, encB_drop, cxN, args0]
    simp only [br]
    refine ⟨fun h1 => ?_, fun h1 => ⟨fun h2 => ?_, fun h2 => ?_⟩⟩
    · refine retP_isQ _ (hbase (.inl (Int.ofNat.inj (by simpa using h1)))) ?_
      simp -implicitDefEqProofs only [zN, List.length_nil, List.length_cons, List.getElem?_cons_zero, ↓reduceIte, List.nil_append, Nat.zero_add, Nat.reduceAdd, resP, tupV, List.reverse_cons, List.reverse_nil, leH, leB, leV, leVs, keepP, liveP, wfB, wfV, wfL, Bool.and_self, and_self, Nat.le_refl, lg0, lg1, lg2, lg3, lg4, lg5, lg6, lg7, outR_wfT]
    · refine retP_isQ _ (hbase (.inr (by simpa using h2))) ?_
      simp -implicitDefEqProofs only [zN, List.length_nil, List.length_cons, List.getElem?_cons_zero, ↓reduceIte, List.nil_append, Nat.zero_add, Nat.reduceAdd, resP, tupV, List.reverse_cons, List.reverse_nil, leH, leB, leV, leVs, keepP, liveP, wfB, wfV, wfL, Bool.and_self, and_self, Nat.le_refl, lg0, lg1, lg2, lg3, lg4, lg5, lg6, lg7, outR_wfT]
    have hvt : v ≠ to := by
      have : ¬ ((v : Int) = to) := by simpa using h1
      omega
    have hm0 : 0 < most := by
      have : ¬ most = 0 := by simpa using h2
      omega
    refine ⟨⟨by omega, by omega⟩, by omega, ?_⟩
    refine call_isN [0, 1, 2, 3] [.ptr 0 0 0, .i v] (.clo 50 [.ptr 4 0 0, .ptr 5 0 0]) (.clo 50 [.ptr 12 0 0, .ptr 13 0 0]) (wH N arcs x p) (wH N arcs x p ++ [Blk.var [V.ptr 0 0 0], Blk.var [V.i v]]) (h44 N arcs p to x (d.set v true) ++ [Blk.var [V.i v], Blk.var [V.i most], Blk.var [V.i 0], Blk.var [V.ptr 0 0 0], Blk.var [V.i v]]) (ok41 N arcs x p v) (by simp) (by simp [wH, wB, blk, renB, rens, ren, pos, outR_ren, hxl]) (by simp [lendsOk, lendOk, lends, lend, wkL, wk, pos]) (by simp [wH]) (by simp [h44, wH, wB, setAll, renB, rens, ren, outR_ren, back, hxl, encB]) (by simp [ren, rens, back]) (by simp [keepP, liveP, h44, wB]) ?_
    unfold h44 wB
    simp -implicitDefEqProofs only [qK, qO, zH, List.nil_append, List.cons_append]
    refine rfn_go 14 rfl rfl trivial ?_
    refine I0_le (h' := hpF N arcs p to v most (0, x, d.set v true)) ?_ ?_ ?_ ?_ (rng44 hV hW hto hx hdl hv hvt hvd ⟨hm0, hm.2⟩ (fun x1 d1 v1 m1 hlt => IH x1 d1 v1 m1 (by omega)) ?_ hQ.symm ?_)
    · unfold hpF h44 wB eP44
      simp -implicitDefEqProofs only [zN, ↓reduceIte, Nat.reduceEqDiff, List.nil_append, List.cons_append, reduceCtorEq, leE, leH, leB, leV, leVs, Bool.and_self, and_self, or_true]
    · simp [keepP, liveP, hpF, h44, wB]
    · unfold hpF h44 wB eP44
      simp -implicitDefEqProofs only [List.getElem?_cons_zero, List.nil_append, List.cons_append, liveP, wfE, wfB, wfV, wfL, Bool.and_self, and_self, lg0, lg1, lg2, lg3, lg4, lg5, lg6, lg7, lg8, lg9, kY, outR_wfT]
    · unfold hpF h44 wB eP44
      simp -implicitDefEqProofs only [List.getElem?_cons_zero, List.nil_append, List.cons_append, liveP, wfV, wfL, Bool.and_self, and_self, lg0, lg1, lg2, lg3, lg4, lg5, lg6, lg7, lg8, lg9, kY, wd, wl, ws]
    · intro s hs
      exact hs
    · rintro ⟨s, x1, d1⟩ tl hq hl
      simp only at hl
      unfold hpE h44 wB eP44
      simp -implicitDefEqProofs only [qF, qI, qN, qO, qP, qR, qV, qW, qY, qZ, zH, zI, zJ, zN, cells?, List.length_nil, List.length_cons, List.set_cons_zero, splice, zO, List.getD_eq_getElem?_getD, List.getElem?_cons_zero, ↓reduceIte, Nat.reduceEqDiff, Option.getD_some, zP, arrSz, List.nil_append, List.cons_append, List.append_nil, Nat.zero_add, List.take_zero, List.all_cons, List.all_nil, isD, isC, Bool.and_true, Bool.and_self, true_and, and_true, and_self, List.not_mem_nil, List.length_map, not_false_eq_true, Nat.le_refl, lg0, zY, lg1, kg, lg2, kk, lg3, kr, lg4, kz, lg5, kD, lg6, lg7, lg8, lg9, kY, jq, ↓jr, ↓ju, ↓jx, ↓jA, ↓jC, ↓jE, ↓jI, ↓qaT, List.length_map, List.getElem_map, Int.toNat_natCast, encB_drop, hl]
      refine ⟨⟨by omega, by omega⟩, hv, retP_isQ _ hq ?_⟩
      simp -implicitDefEqProofs only [zN, List.length_nil, List.length_cons, List.getElem?_cons_zero, ↓reduceIte, List.nil_append, Nat.zero_add, Nat.reduceAdd, resP, tupV, List.reverse_cons, List.reverse_nil, leH, leB, leV, leVs, keepP, liveP, wfB, wfV, wfL, Bool.and_self, and_self, Nat.le_refl, lg0, lg1, lg2, lg3, lg4, lg5, lg6, lg7, outR_wfT, encB_set]
end
end Go.Fx.C
namespace Go.Fx.C
open Go Go.Fx Go.Proofs
set_option maxRecDepth 20000
section
variable {N : Nat} {arcs : List Arc} {p : List Int} {to : Nat}
theorem rep_encB {N : Nat} {x : Bool} : List.replicate N [V.b x] = (List.replicate N x).map encB := by simp [encB]
theorem ok30 (hV : Val N arcs) (hW : ∀ x, XB arcs x → WOk N arcs x p) (hto : to < N) (x : List Int) (v : Nat) (most : Int) (hx : XB arcs x) (hv : v < N) (hm : 0 ≤ most ∧ most ≤ 4611686018427387904) :
    OkN Try.prog 30 [.ptr 0 0 0, .i v, .i to, .i most] (wH N arcs x p) [] (IsQ (FQ arcs x (fun u => p.getD u 0) to (List.replicate N false) v most) (fun g => .i g.1) (fun g => wH N arcs g.2.1 p)) := by
  have hWx := hW x hx
  have hN := hWx.hN
  have hxl := hx.hl
  have hfree : (List.replicate N false).getD v false = false := by rw [getD_natB (by simpa using hv)]; simp
  have hcall := ok44 hV hW hto (N + 1) x (List.replicate N false) v most (by simp) hx (by simp) hv hfree hm
  unfold Ok44 at hcall
  generalize hQ : FQ arcs x (fun u => p.getD u 0) to (List.replicate N false) v most = Q at *
  refine okN_of pol [0, 1, 2, 3] lw30 (by simp) ⟨trivial, trivial, trivial, trivial, trivial⟩ (by simp [wH]; omega) ?_
  unfold c30 wH wB
  simp -implicitDefEqProofs only [qF, qI, qO, qP, qR, qT, qU, qV, qW, qX, zh, zq, zF, zG, zH, zI, zJ, zK, zN, ofConst, cells?, List.length_nil, List.length_cons, List.set_cons_zero, splice, zO, List.getD_eq_getElem?_getD, List.getElem?_cons_zero, ↓reduceIte, Nat.reduceEqDiff, Option.getD_some, zP, List.nil_append, List.cons_append, List.append_nil, Nat.zero_add, Nat.reduceAdd, Nat.add_zero, reduceCtorEq, freshP, List.map_cons, List.map_nil, List.take_zero, List.drop_nil, List.all_cons, List.all_nil, isC, Bool.and_true, Bool.and_self, true_and, and_true, and_self, List.not_mem_nil, not_false_eq_true, Nat.le_refl, lg0, zY, zZ, kc, lg1, kg, kj, lg2, kk, lg3, kr, lg4, kz, lg5, kD, lg6, kI, lg7, kM, jq, ↓jr, ↓ju, ↓jx, ↓jA, ↓jC, ↓jD, ↓jG, ↓jU, ↓jW, Int.toNat_natCast, cxN, args0]
  refine ⟨⟨⟨by omega, by omega⟩, by omega, by omega⟩, ?_⟩
  refine call_isM Q [0, 1, 2, 3, 4, 5, 6, 7, 8] [] [] [.i v, .i most, .ptr 5 0 0, .ptr 7 0 0, .ptr 4 0 0, .ptr 8 0 0] (fun g => .i g.1) (h44 N arcs p to x (List.replicate N false)) (fun g => h44 N arcs p to g.2.1 g.2.2) hcall (by simp) (by simp) (by simp [h44, wB, blk, renB, rens, ren, pos, outR_ren, hxl, encB]) (by simp [lendsOk, lendOk, lends, lend, wkL, wk, pos]) fun g hg => ⟨by simp [keepP, liveP, h44, wB, setAll, renB, killB], ?_⟩
  obtain ⟨n, x2, d2⟩ := g
  have hx2 : x2.length = arcs.length := by
    rw [← hQ] at hg
    exact hg.fi.xb.hl
  simp -implicitDefEqProofs only [qN, qO, qP, qR, zH, zJ, zN, List.length_nil, List.length_cons, List.set_cons_zero, List.getElem?_cons_zero, ↓reduceIte, List.append_nil, Nat.zero_add, Nat.reduceAdd, killE, killB, kill, kills, St.kill, List.map_cons, List.map_nil, List.not_mem_nil, lg0, zY, lg1, kg, lg2, kk, lg3, kr, lg4, kz, lg5, kD, lg6, kI, lg7, kM, h44, wB, setAll, renB, rens, ren, back, outR_ren, outR_kill]
  refine retP_isQ _ hg ?_
  simp -implicitDefEqProofs only [zN, List.length_nil, List.length_cons, List.getElem?_cons_zero, ↓reduceIte, List.nil_append, Nat.zero_add, Nat.reduceAdd, resP, tupV, List.reverse_cons, List.reverse_nil, leH, leB, leV, leVs, keepP, liveP, wfB, wfV, wfL, Bool.and_self, and_self, Nat.le_refl, lg0, lg1, lg2, outR_wfT, hx2]
end
end Go.Fx.C
namespace Go.Fx.C
open Go Go.Fx Go.Proofs
set_option maxRecDepth 20000
section
variable {N : Nat} {arcs : List Arc} {p x : List Int}
theorem ok43 (hW : WOk N arcs x p) (hx : XB arcs x) : OkN Try.prog 43 [.ptr 0 0 0] (wH N arcs x p) [] (IsA (.i (totTo arcs x arcs.length)) (wH N arcs x p)) := by
  have hV := hW.hV
  have hN := hW.hN
  have hxl := hW.hx
  have hal := hV.hl
  refine okN_of pol [0, 1, 2, 3] lw43 (by simp) ⟨trivial, trivial, trivial, trivial, trivial⟩ (by simp [wH]; omega) ?_
  unfold c43 wH wB
  simp -implicitDefEqProofs only [qF, qI, qK, qL, qO, qP, qR, qV, qX, zb, zF, zH, zJ, zK, zN, ofConst, List.length_nil, List.length_cons, zO, List.getD_eq_getElem?_getD, List.getElem?_cons_zero, ↓reduceIte, Option.getD_some, List.append_nil, Nat.zero_add, Nat.reduceAdd, Nat.add_zero, reduceCtorEq, List.length_map, lg0, jq, ↓jr, ↓ju, ↓jx, ↓jA, ↓jG, ↓jO, ↓jU, List.length_map, cxN, args0]
  intro hm
  have hf : ∀ y ∈ x, 0 ≤ y ∧ y ≤ 1073741824 := fun y hy => by
    obtain ⟨i, hi, rfl⟩ := List.getElem_of_mem hy
    rw [← getD_nat hi]
    exact hx.bd hV i
  have ha : ∀ a ∈ arcs, 0 ≤ a.cost ∧ a.cost ≤ 1048576 := fun a h => (hV.ha a h).2.2.2.2
  refine loopP_intro (fun k : Nat => (⟨[(12, .i k), (11, .i arcs.length), (10, .ro 4 (arcs.map Arc.enc)), (3, .i (totTo arcs x k)), (0, .ptr 0 0 0)], [.var [.i N, .ro 4 (arcs.map Arc.enc), .sl 1 0 x.length, .sl 2 0 N, .sl 3 0 N], .arr 1 (x.map encI), .arv 1 (outR arcs N), .arr 1 (p.map encI)], 0⟩ : St)) (fun k => k ≤ arcs.length) (fun k => arcs.length - k) 0 (Nat.zero_le _) ?_ fun k hk => ?_
  · simp -implicitDefEqProofs only [zN, List.getElem?_cons_zero, ↓reduceIte, Nat.reduceEqDiff, reduceCtorEq, zX, leE, leH, leB, leV, leVs, keepP, liveP, wfE, wfB, wfV, wfL, Bool.and_self, and_self, lg0, lg1, lg2, outR_wfT, totTo, Int.natCast_zero]
  · rcases Nat.lt_or_ge k arcs.length with h | h
    · have hd : decide ((k : Int) < arcs.length) = true := decide_eq_true (by omega)
      simp -implicitDefEqProofs only [qE, qF, qH, qI, qJ, qK, qO, qP, qR, qU, qV, qW, qX, qY, qZ, zF, zH, zI, zJ, zK, zN, ofConst, cells?, List.length_nil, List.length_cons, List.set_cons_zero, splice, zO, List.getD_eq_getElem?_getD, List.getElem?_cons_zero, ↓reduceIte, Nat.reduceEqDiff, Option.getD_some, zP, arrSz, zR, ↓zS, List.nil_append, List.cons_append, List.append_nil, Nat.zero_add, Nat.reduceAdd, Nat.add_zero, reduceCtorEq, freshP, zX, leE, leH, leB, leV, leVs, keepP, liveP, wfE, wfB, wfV, wfL, List.map_cons, List.map_nil, List.drop_zero, List.take_zero, List.drop_nil, Bool.and_true, Bool.and_self, true_and, and_true, and_self, V.v.injEq, Value.int.injEq, Value.bool.injEq, List.not_mem_nil, List.length_map, not_false_eq_true, Nat.le_refl, lg0, zY, zZ, kc, lg1, kg, kh, lg2, kk, kn, lg3, kr, kw, jq, ↓jr, ↓ju, ↓jv, ↓jx, ↓jy, ↓jA, ↓jB, ↓jC, ↓jD, ↓jG, ↓jI, ↓jJ, ↓jU, ↓qaL, ↓qaP, ↓qaT, List.length_map, List.getElem_map, enc_len, enc_take, enc_3, enc_isC, encI_0, Int.toNat_natCast, hd]
      have hk2 : k < x.length := by omega
      have hfk := hf x[k] (List.getElem_mem hk2)
      have hak := ha arcs[k] (List.getElem_mem h)
      have hvb := totTo_bound arcs x hf ha k
      have hst := totTo_step h hk2
      have hmb := mul_b hfk hak
      rw [Int.mul_comm] at hst hmb
      refine ⟨⟨by omega, by omega⟩, h, ⟨by omega, by omega⟩, hk2, by simp only [lo, hi]; omega, by simp only [lo, hi]; omega, by simp only [lo, hi]; omega, k + 1, ⟨by omega, by omega⟩, ?_⟩
      simp -implicitDefEqProofs only [Bool.and_true, and_true, outR_wfT, hst]
      trivial
    · have hd : decide ((k : Int) < arcs.length) = false := decide_eq_false (by omega)
      have : k = arcs.length := by omega
      subst this
      simp -implicitDefEqProofs only [qF, qI, qJ, qM, qN, qO, qP, qR, qZ, zH, zJ, zN, List.length_nil, List.length_cons, List.getElem?_cons_zero, ↓reduceIte, Nat.reduceEqDiff, zP, zR, ↓zT, List.nil_append, List.append_nil, Nat.zero_add, Nat.reduceAdd, resP, tupV, List.reverse_cons, List.reverse_nil, leH, leB, leV, leVs, keepP, liveP, wfB, wfV, wfL, Bool.and_self, and_self, Nat.le_refl, lg0, lg1, lg2, jq, ↓qaT, hd, retP_isA, outR_wfT]
end
end Go.Fx.C
namespace Go.Fx.C
open Go Go.Fx Go.Proofs
set_option maxRecDepth 20000
section
variable {N : Nat} {arcs : List Arc} {p x : List Int}
abbrev pat29 (N : Nat) (arcs : List Arc) (x p D : List Int) (sent tot : Int) (k : Nat) : St :=
  ⟨[(24, .i k), (23, .i D.length), (22, .bro 1 (D.map encI)), (7, .ptr 5 0 0), (6, .ptr 4 0 0)], [wB N x.length arcs 1 2 3, .arr 1 (x.map encI), .arv 1 (outR arcs N), .arr 1 (p.map encI), .var [.i 0, .i 0, .nil, .nil, .nil], .var [.i sent, .i tot, .sl 1 0 x.length, .sl 3 0 N, .sl 6 0 (cutL D k).length], .arr 1 ((cutL D k).map encI)], 0⟩
theorem body29 (D : List Int) (hD : D.length ≤ 64) (sent tot : Int) {RR : St → Prop} {X : Nat → St → Prop}
    (hX : ∀ e b, get e 7 = .ptr 5 0 0 → get e 6 = .ptr 4 0 0 → X 0 ⟨e, (pat29 N arcs x p D sent tot D.length).h, b⟩) (k : Nat) (hk : k ≤ D.length) :
    aw (cxN Try.prog [0, 1, 2, 3]) c29l0 (fun s' => ∃ k' : Nat, (k' ≤ D.length ∧ D.length - k' < D.length - k) ∧ leS [0, 1, 2, 3] s' (pat29 N arcs x p D sent tot k')) X RR (pat29 N arcs x p D sent tot k) := by
  have hcl := cutL_len (D := D) (k := k)
  unfold c29l0 pat29 wB
  rcases Nat.lt_or_ge k D.length with h | h
  · have hd : decide ((k : Int) < D.length) = true := decide_eq_true (by omega)
    simp -implicitDefEqProofs only [qE, qF, qI, qJ, qK, qO, qP, qR, qV, qW, qX, qY, qZ, zp, zr, zH, zI, zJ, zK, zN, ofConst, cells?, List.length_nil, List.length_cons, List.set_cons_zero, splice, zO, List.getD_eq_getElem?_getD, List.getElem?_cons_zero, ↓reduceIte, Nat.reduceEqDiff, Option.getD_some, zP, zR, ↓zS, List.nil_append, List.cons_append, List.append_nil, Nat.zero_add, Nat.reduceAdd, Nat.add_zero, reduceCtorEq, freshP, litsP, zX, leE, leH, leB, leV, leVs, keepP, liveP, wfE, wfB, wfV, wfL, killE, killB, kill, kills, St.kill, List.map_cons, List.map_nil, List.drop_zero, List.take_zero, List.take_nil, List.drop_nil, List.all_cons, List.all_nil, isD, isC, Bool.and_true, Bool.and_self, true_and, and_true, and_self, V.v.injEq, Value.int.injEq, Value.bool.injEq, List.mem_cons, List.not_mem_nil, or_false, false_or, List.length_map, not_false_eq_true, Nat.reduceLT, Nat.le_refl, lg0, zY, zZ, ka, kc, lg1, kg, kh, ki, kj, lg2, kk, kn, ko, lg3, kr, kw, kx, lg4, kz, kA, lg5, kD, lg6, kI, jq, ↓jr, ↓ju, ↓jv, ↓jx, ↓jA, ↓jC, ↓jD, ↓jG, ↓jK, ↓jY, ↓jZ, ↓qap, ↓qaq, ↓qaL, ↓qaT, List.length_map, List.getElem_map, encI_0, Int.toNat_natCast, cxN, hd, outR_kill]
    have hDk : D.getD k 0 = D[k] := getD_nat h
    simp only [br, decide_eq_true_eq, decide_eq_false_iff_not]
    refine ⟨⟨by omega, by omega⟩, h, ⟨fun hf => ?_, fun hf => ?_⟩⟩
    · have hcs : cutL D (k + 1) = cutL D k ++ [(k : Int)] := by
        show (if D.getD k 0 < far then _ else _) = _
        rw [if_pos (by rw [hDk]; exact hf)]
      refine ⟨by omega, by simp only [lo, hi]; omega, k + 1, ⟨by omega, by omega⟩, by simp, ?_⟩
      rw [hcs]
      refine ⟨⟨by simp, ?_⟩, outR_wf⟩
      rw [List.map_append, List.take_of_length_le (by simp)]
      rfl
    · have hcs : cutL D (k + 1) = cutL D k := by
        show (if D.getD k 0 < far then _ else _) = _
        rw [if_neg (by rw [hDk]; exact hf)]
      refine ⟨by simp only [lo, hi]; omega, k + 1, ⟨by omega, by omega⟩, ?_⟩
      rw [hcs]
      simp -implicitDefEqProofs only [Bool.and_true, Bool.and_self, and_true, and_self, outR_wfT]
      trivial
  · have hd : decide ((k : Int) < D.length) = false := decide_eq_false (by omega)
    have : k = D.length := by omega
    subst this
    have := hX
    unfold pat29 wB at this
    simp -implicitDefEqProofs only [qF, qI, qJ, qM, qO, qP, qZ, zH, zJ, zN, List.length_nil, List.length_cons, ↓reduceIte, Nat.reduceEqDiff, zP, zR, ↓zT, List.append_nil, Nat.zero_add, Nat.reduceAdd, true_and, jq, ↓qaT, cxN, hd]
    exact this _ _ rfl rfl
theorem ok29 (hW : WOk N arcs x p) (hx : XB arcs x) (sent : Int) (D : List Int) (hD : D.length ≤ N) : OkN Try.prog 29 [.ptr 0 0 0, .i sent, .bro 1 (D.map encI)] (wH N arcs x p) [] (IsA (.agg [.i sent, .i (totTo arcs x arcs.length), .sl 1 0 x.length, .sl 3 0 N, .sl 6 0 (cutL D D.length).length]) (wH N arcs x p ++ [.dead, .dead, .arr 1 ((cutL D D.length).map encI)])) := by
  have hV := hW.hV
  have hN := hW.hN
  have hxl := hW.hx
  have hal := hV.hl
  have hcall := ok43 hW hx
  generalize hT : totTo arcs x arcs.length = tot at *
  refine okN_of pol [0, 1, 2, 3] lw29 (by simp) ⟨trivial, trivial, trivial, trivial, trivial⟩ (by simp [wH]; omega) ?_
  unfold c29 wH wB
  simp -implicitDefEqProofs only [qa, qc, qu, qx, qz, qA, qC, qF, qI, qO, qP, qR, qU, qV, qX, zD, zF, zH, zJ, zN, ofConst, cells?, List.length_nil, List.length_cons, List.set_cons_zero, zO, List.getD_eq_getElem?_getD, List.getElem?_cons_zero, ↓reduceIte, Nat.reduceEqDiff, Option.getD_some, List.nil_append, List.cons_append, Nat.zero_add, Nat.reduceAdd, Nat.add_zero, reduceCtorEq, freshP, List.map_cons, List.map_nil, Bool.and_true, true_and, and_true, lg0, zY, kc, lg1, kg, lg2, kk, lg3, kr, lg4, kz, jq, ↓jr, ↓ju, ↓jx, ↓jA, ↓jG, ↓jU, cxN, args0]
  repeat' refine And.intro ?_ ?_
  all_goals
    refine call_isN [0, 1, 2, 3] [.ptr 0 0 0] (.i tot) (.i tot) (wH N arcs x p) (wH N arcs x p) _ hcall (by simp) (by simp [wH, wB, blk, renB, rens, ren, pos, outR_ren]) (by simp [lendsOk, lendOk, lends, lend, wkL, wk, pos]) (by simp [wH]) rfl rfl (by simp [keepP, liveP, wH, wB, setAll, renB]) ?_
    simp -implicitDefEqProofs only [qp, qw, rdK, qy, qz, qA, qC, qF, qI, qK, qL, qO, qP, qR, qU, qV, qW, zb, zk, zH, zI, zJ, zK, zN, ofConst, cells?, List.length_nil, List.length_cons, List.set_cons_zero, splice, zO, List.getD_eq_getElem?_getD, List.getElem?_cons_zero, ↓reduceIte, Nat.reduceEqDiff, Option.getD_some, List.nil_append, List.cons_append, List.append_nil, Nat.zero_add, Nat.reduceAdd, Nat.add_zero, reduceCtorEq, freshP, buildP, List.map_cons, List.map_nil, List.drop_zero, List.take_zero, List.drop_nil, List.all_cons, List.all_nil, isC, Bool.and_true, Bool.and_self, true_and, and_true, and_self, List.not_mem_nil, List.length_append, List.length_map, not_false_eq_true, Bool.false_eq_true, Nat.reduceLeDiff, Nat.le_refl, lg0, zY, zZ, ka, lg1, kg, kh, ki, lg2, kk, kn, ko, lg3, kr, kw, lg4, kz, kA, jq, ↓jr, ↓ju, ↓jx, ↓jA, ↓jC, ↓jD, ↓jP, List.length_map, wH, wB, setAll, renB, rens, ren, outR_ren, back]
    intro _
    refine loopP_ghost (.virt 1 1 (by decide) (.nilB 5 [.i sent, .i tot, .sl 1 0 x.length, .sl 3 0 N, .nil] [.i sent, .i tot, .sl 1 0 x.length, .sl 3 0 N, .sl 6 0 0] rfl ⟨rfl, fun i a b h1 h2 => ?_⟩ (.refl _))) (pat29 N arcs x p D sent tot) (fun k => k ≤ D.length) (fun k => D.length - k) 0 (Nat.zero_le _) ?_ (body29 D (by omega) sent tot fun e b he1 he2 => ?_)
    · match i with
      | 0 => simp at h1 h2; subst h1 h2; exact .inl rfl
      | 1 => simp at h1 h2; subst h1 h2; exact .inl rfl
      | 2 => simp at h1 h2; subst h1 h2; exact .inl rfl
      | 3 => simp at h1 h2; subst h1 h2; exact .inl rfl
      | 4 => simp at h1 h2; subst h1 h2; exact .inr ⟨rfl, _, rfl⟩
      | i + 5 => simp at h1
    · unfold pat29 wB
      simp -implicitDefEqProofs only [zN, List.length_nil, List.set_cons_zero, List.getElem?_cons_zero, ↓reduceIte, Nat.reduceEqDiff, List.nil_append, List.cons_append, zX, leE, leH, leB, leV, leVs, keepP, liveP, wfE, wfB, wfV, wfL, List.map_nil, Bool.and_self, and_self, lg0, zY, kc, lg1, kg, lg2, kk, lg3, kr, lg4, kz, lg5, jq, outR_wfT, cutL, List.length_nil, List.map_nil, Int.natCast_zero]
    · unfold pat29 wB
      simp -implicitDefEqProofs only [qF, qI, qN, qO, qP, qV, qW, zH, zI, zJ, zN, cells?, List.length_nil, List.length_cons, List.set_cons_zero, splice, zO, List.getD_eq_getElem?_getD, List.getElem?_cons_zero, ↓reduceIte, Nat.reduceEqDiff, Option.getD_some, List.nil_append, List.append_nil, Nat.zero_add, Nat.reduceAdd, Nat.add_zero, resP, tupV, List.reverse_cons, List.reverse_nil, leH, leB, leV, leVs, keepP, liveP, wfB, wfV, wfL, List.drop_zero, List.take_zero, List.take_nil, List.drop_nil, List.all_cons, List.all_nil, isC, Bool.and_true, Bool.and_self, true_and, and_true, and_self, List.not_mem_nil, List.length_append, not_false_eq_true, Nat.reduceLeDiff, Nat.le_refl, lg0, zY, zZ, ka, lg1, kg, kh, ki, lg2, kk, kn, ko, lg3, kr, kw, kx, lg4, kA, kB, lg5, jq, ↓jr, ↓ju, ↓jx, ↓jB, ↓jC, ↓jD, he1, he2, retP_isA, outR_wfT]
end
end Go.Fx.C
namespace Go.Fx.C
open Go Go.Fx Go.Proofs
set_option maxRecDepth 20000
def badP (x : Int) : Bool := decide (x < 0 ∨ 1073741824 < x)
theorem ok47 (x : Int) : Ok 47 [.i x] (Is (.b (badP x))) := by
  refine ok_of lw47 (by simp) ?_
  unfold c47
  simp -implicitDefEqProofs only [qF, qI, qN, qO, qP, qQ, qR, qS, qZ, zH, zJ, zK, zN, ofConst, List.length_nil, ↓reduceIte, Nat.reduceEqDiff, zP, zR, Bool.not_false, ↓zS, ↓zT, zU, List.nil_append, List.append_nil, reduceCtorEq, zW, resP, tupV, List.reverse_cons, List.reverse_nil, wfV, true_and, V.v.injEq, Value.int.injEq, Value.bool.injEq, Bool.false_eq_true, jq, ↓qaT, ↓qaV, cxN, args0]
  simp only [br, decide_eq_true_eq, decide_eq_false_iff_not, badP]
  grind
def firstB (l : List Int) : Int := if l.any badP then (l.findIdx badP : Nat) else -1
structure GInv (l : List Int) (k : Nat) : Prop where
  h : ∀ j (h : j < l.length), j < k → badP l[j] = false
theorem ok51 (l : List Int) : Ok 51 [li l, .clo 47 []] (Is (.i (firstB l))) := by
  refine ok_of lw51 (by simp) ?_
  unfold c51 li
  simp -implicitDefEqProofs only [qF, qI, qK, qL, qO, qP, qR, zb, zH, zJ, zK, zN, ofConst, List.length_nil, ↓reduceIte, List.append_nil, Nat.zero_add, reduceCtorEq, List.length_map, jq, ↓jO, List.length_map, cxN, args0]
  intro hm
  refine loopP_intro (fun k : Nat => ⟨[(8, .i k), (7, .i l.length), (1, .clo 47 []), (0, .ro 1 (l.map encI))], [], 0⟩) (fun k => k ≤ l.length ∧ GInv l k) (fun k => l.length - k) 0 ⟨by omega, ⟨by simp⟩⟩ ?_ ?_
  · simp -implicitDefEqProofs only [zN, ↓reduceIte, Nat.reduceEqDiff, reduceCtorEq, zX, leE, leH, keepP, wfE, wfB, wfV, wfL, Bool.and_self, and_self, Int.natCast_zero]
  rintro k ⟨hk, hv⟩
  simp -implicitDefEqProofs only [qE, qF, qI, qJ, qK, qM, qN, qO, qP, qR, qV, qY, qZ, zG, zH, zJ, zK, zN, ofConst, List.length_nil, ↓reduceIte, Nat.reduceEqDiff, zP, zR, List.nil_append, List.append_nil, reduceCtorEq, zW, resP, tupV, List.reverse_cons, List.reverse_nil, wfV, List.map_cons, List.map_nil, true_and, V.v.injEq, Value.int.injEq, Value.bool.injEq, List.length_map, jq, ↓jr, ↓jv, ↓jA, ↓jJ, ↓jW, ↓qaT, List.length_map, List.getElem_map, encI_0, Int.toNat_natCast]
  simp only [br, Int.toNat_natCast, decide_eq_true_eq, decide_eq_false_iff_not]
  refine ⟨fun h => ⟨⟨by omega, h⟩, by omega, ?_⟩, fun h => ?_⟩
  · have hk : k < l.length := by omega
    refine call_is (ok47 l[k]) ?_ rfl trivial ?_
    · simp [lendsOk, lendOk, lends, lend, wkL, wk, pos]
    cases hb : badP l[k] with
    | true =>
      simp -implicitDefEqProofs only [qF, qI, qJ, qN, qO, qP, qR, zH, zJ, zN, List.length_nil, ↓reduceIte, Nat.reduceEqDiff, zR, ↓zS, List.nil_append, List.append_nil, zW, resP, tupV, List.reverse_cons, List.reverse_nil, wfV, true_and, V.v.injEq, Value.int.injEq, Value.bool.injEq, jq]
      have h1 : l.any badP = true := by
        rw [List.any_eq_true]; exact ⟨_, List.getElem_mem hk, hb⟩
      have h2 : l.findIdx badP = k := by
        rw [List.findIdx_eq hk]
        exact ⟨hb, fun j hj => hv.h j (by omega) hj⟩
      simp [firstB, h1, h2]
    | false =>
      simp -implicitDefEqProofs only [qE, qF, qJ, qO, qP, qR, qZ, zH, zJ, zK, zN, ofConst, List.length_nil, ↓reduceIte, Nat.reduceEqDiff, zP, zR, ↓zT, List.append_nil, reduceCtorEq, zX, leE, leH, keepP, wfE, wfB, wfV, wfL, Bool.and_true, Bool.and_self, true_and, and_true, and_self, V.v.injEq, Value.int.injEq, Value.bool.injEq, jq, ↓qaL]
      refine ⟨by simp only [lo, hi, maxLen] at *; omega, k + 1, ⟨⟨by omega, ⟨fun j hj h2 => ?_⟩⟩, by omega⟩, by simp⟩
      by_cases h3 : j = k
      · subst h3; exact hb
      · exact hv.h j hj (by omega)
  · have h1 : l.any badP = false := by
      rw [List.any_eq_false]
      intro x hx
      obtain ⟨j, hj, rfl⟩ := List.getElem_of_mem hx
      simp [hv.h j hj (by omega)]
    simp [firstB, h1]
theorem ok46 (l : List Int) : Ok 46 [li l, .clo 47 []] (Is (.b (l.any badP))) := by
  refine ok_of lw46 (by simp) ?_
  unfold c46 li
  simp -implicitDefEqProofs only [qF, qI, qO, qP, qR, zD, zH, zJ, zK, zN, ofConst, List.length_nil, ↓reduceIte, Nat.reduceEqDiff, List.append_nil, Nat.zero_add, reduceCtorEq, List.map_cons, List.map_nil, jq, cxN, args0]
  refine call_is (ok51 l) ?_ rfl trivial ?_
  · simp [li, lendsOk, lendOk, lends, lend, wkL, wk, wkR]
  simp -implicitDefEqProofs only [qN, qO, qP, qR, qZ, zH, zJ, zK, zN, ofConst, ↓reduceIte, zP, List.nil_append, zW, resP, tupV, List.reverse_cons, List.reverse_nil, wfV, true_and, V.v.injEq, Value.int.injEq, Value.bool.injEq, ↓qaW, firstB]
  by_cases h : l.any badP = true
  · simp [h]
  · simp only [h, if_false]; simp
theorem ok36 (N : Nat) (arcs : List Arc) (f : Int) (fr : Fr) (hV : Val N arcs) (hf : 0 ≤ f ∧ f < N) (hl : fr.flow.length = arcs.length) : Ok 36 [net N arcs, .i f, fr.enc] (Is (.b (prB N arcs f fr.flow fr.price))) := by
  refine ok_of lw36 (by simp) ?_
  unfold c36 net Fr.enc li
  simp -implicitDefEqProofs only [qF, qI, qJ, qN, qO, qP, qQ, qR, qS, qT, qV, qX, qY, qZ, zb, zD, zH, zJ, zK, zL, zN, ofConst, cells?, List.length_nil, List.length_cons, List.set_cons_zero, zO, List.getD_eq_getElem?_getD, List.getElem?_cons_zero, ↓reduceIte, Nat.reduceEqDiff, Option.getD_some, zP, zR, Bool.not_false, ↓zS, ↓zT, zU, List.nil_append, List.append_nil, Nat.zero_add, Nat.reduceAdd, Nat.add_zero, reduceCtorEq, freshP, zW, resP, tupV, List.reverse_cons, List.reverse_nil, wfV, List.map_cons, List.map_nil, true_and, V.v.injEq, Value.int.injEq, Value.bool.injEq, List.length_map, Bool.false_eq_true, lg0, zY, kc, lg1, kj, lg2, jq, ↓jr, ↓ju, ↓jv, ↓jx, ↓jA, ↓jG, ↓jJ, ↓jO, ↓qaS, List.length_map, List.getElem_map, encI_0, cxN, args0]
  simp only [br, decide_eq_true_eq, decide_eq_false_iff_not, bne_iff_ne, bne_eq_false_iff_eq]
  have hL := hV.hl
  have hN := hV.hn
  refine fun hm1 => ⟨fun h => prB_f fun hO => ?_, fun h => ?_⟩
  · have := hO.hl; omega
  have hpl : fr.price.length = N := by omega
  refine ⟨⟨hf.1, by omega⟩, by omega, fun h0 => prB_f fun hO => ?_, fun h0 => ?_⟩
  · have := hO.h0
    rw [getD_at (by omega)] at this
    exact h0 this
  refine call_is (ok46 fr.price) (by simp [li, lendsOk, lendOk, lends, lend, wkL, wk, wkR]) rfl trivial ?_
  cases hb : fr.price.any badP with
  | true =>
    simp -implicitDefEqProofs only [qF, qI, qJ, qN, qO, qP, qR, qS, zH, zJ, zK, zN, ofConst, List.length_nil, List.length_cons, ↓reduceIte, Nat.reduceEqDiff, zR, ↓zS, ↓zT, List.nil_append, List.append_nil, Nat.zero_add, Nat.reduceAdd, zW, resP, tupV, List.reverse_cons, List.reverse_nil, wfV, true_and, V.v.injEq, Value.int.injEq, Value.bool.injEq, jq]
    refine prB_f fun hO => ?_
    rw [List.any_eq_true] at hb
    obtain ⟨x, hx, hb⟩ := hb
    obtain ⟨j, hj, rfl⟩ := List.getElem_of_mem hx
    have := hO.hb j hj
    simp only [badP, decide_eq_true_eq] at hb
    omega
  | false =>
  have hb : ∀ j (h : j < fr.price.length), 0 ≤ fr.price[j] ∧ fr.price[j] ≤ 1073741824 := by
    intro j hj
    rw [List.any_eq_false] at hb
    have := hb _ (List.getElem_mem hj)
    simp only [badP, decide_eq_true_eq] at this
    omega
  simp -implicitDefEqProofs only [qE, qF, qI, qJ, qK, qL, qO, qP, qR, qS, qV, qX, zb, zH, zJ, zK, zN, ofConst, List.length_nil, List.length_cons, zO, List.getD_eq_getElem?_getD, List.getElem?_cons_zero, ↓reduceIte, Nat.reduceEqDiff, Option.getD_some, zR, ↓zT, List.append_nil, Nat.zero_add, Nat.reduceAdd, List.length_map, lg0, jq, ↓jr, ↓ju, ↓jx, ↓jA, ↓jG, ↓jO, List.length_map]
  refine fun _ => loopP_intro (fun k : Nat => ⟨[(32, .i k), (31, .i arcs.length), (30, .ro 4 (arcs.map Arc.enc)), (5, .ptr 1 0 0), (3, .ptr 0 0 0), (1, .i f)], [.var [.i N, .ro 4 (arcs.map Arc.enc)], frB fr], 0⟩) (fun k => k ≤ arcs.length ∧ RInv arcs fr.flow fr.price k) (fun k => arcs.length - k) 0 ⟨by omega, ⟨by simp⟩⟩ ?_ ?_
  · simp -implicitDefEqProofs only [zN, List.getElem?_cons_zero, ↓reduceIte, Nat.reduceEqDiff, reduceCtorEq, zX, leE, leH, leB, leV, leVs, keepP, liveP, wfE, wfB, wfV, wfL, Bool.and_self, and_self, lg0, leVs, leV, Int.natCast_zero, frB]
  rintro k ⟨hk, hv⟩
  simp -implicitDefEqProofs only [qE, qF, qH, qI, qJ, qK, qM, qN, qO, qP, qQ, qR, qS, qU, qV, qW, qX, qY, qZ, zH, zI, zJ, zK, zN, ofConst, cells?, List.length_nil, List.length_cons, List.set_cons_zero, splice, zO, List.getD_eq_getElem?_getD, List.getElem?_cons_zero, ↓reduceIte, Nat.reduceEqDiff, Option.getD_some, zP, zR, Bool.not_true, Bool.not_false, ↓zS, ↓zT, zU, zV, List.nil_append, List.cons_append, List.append_nil, Nat.zero_add, Nat.reduceAdd, Nat.add_zero, freshP, zW, resP, tupV, List.reverse_cons, List.reverse_nil, zX, leE, leH, leB, leV, leVs, keepP, liveP, wfE, wfB, wfV, wfL, List.map_cons, List.map_nil, List.drop_zero, List.take_zero, List.drop_nil, Bool.and_true, Bool.and_self, true_and, and_true, and_self, V.v.injEq, Value.int.injEq, Value.bool.injEq, List.not_mem_nil, List.length_map, not_false_eq_true, Bool.false_eq_true, Nat.le_refl, lg0, zY, zZ, kc, lg1, kg, kh, lg2, kn, kw, jq, ↓jr, ↓ju, ↓jv, ↓jx, ↓jA, ↓jB, ↓jC, ↓jD, ↓jG, ↓jJ, ↓qaL, ↓qaN, ↓qaT, ↓qaV, List.length_map, List.getElem_map, enc_len, enc_take, enc_0, enc_1, enc_2, enc_3, enc_isC, encI_0, Int.toNat_natCast, frB]
  simp only [br, decide_eq_true_eq, decide_eq_false_iff_not]
  refine ⟨fun h2 => ?_, fun h2 => ?_⟩
  · have hk1 : k < arcs.length := by omega
    have hk2 : k < fr.flow.length := by omega
    have hva := hV.ha arcs[k] (List.getElem_mem hk1)
    have b1 := hb arcs[k].from_.toNat (by omega)
    have b2 := hb arcs[k].to.toNat (by omega)
    have bad : ¬ (_ ∧ _) → false = prB N arcs f fr.flow fr.price := fun h => prB_f fun hO => h (hO.ha k hk1)
    have good := hv.next hk1
    rw [getD_at (by omega), getD_at (by omega), getD_nat hk2] at bad good
    simp only [lo, hi, maxLen] at *
    repeat' (first | (refine ⟨(k+1 : _), ?_⟩) | (refine ⟨by omega, ?_⟩) | (refine And.intro ?_ ?_) | (refine (fun _ => ?_)))
    all_goals first | omega | (apply bad; omega) | (apply good; omega)
  · refine prB_t ⟨hpl, ?_, hb, fun j hj => hv.h j hj (by omega)⟩
    rw [getD_at (by omega)]; exact h0
end Go.Fx.C
namespace Go.Fx.C
open Go Go.Fx Go.Proofs
set_option maxRecDepth 20000
theorem hasB_take {l : List Int} {k : Nat} (h : k < l.length) (x : Int) : hasB (l.take (k + 1)) x = if x = l[k] then true else hasB (l.take k) x := by
  simp only [hasB, List.take_succ_eq_append_getElem h, List.mem_append, List.mem_singleton]
  by_cases hx : x = l[k]
  · simp only [hx, or_true, if_true, decide_true]
  · simp only [hx, or_false, if_false]
theorem ok37 (N : Nat) (arcs : List Arc) (f t : Int) (fr : Fr) (hV : Val N arcs) (hf : 0 ≤ f ∧ f < N) (ht : 0 ≤ t ∧ t < N) (hl : fr.flow.length = arcs.length) : Ok 37 [net N arcs, .i f, .i t, fr.enc] (Is (.b (cuB N arcs f t fr.flow fr.cut))) := by
  refine ok_of lw37 (by simp) ?_
  unfold c37 net Fr.enc li
  simp -implicitDefEqProofs only [qF, qI, qK, qL, qO, qP, qR, qT, qV, qX, zb, zq, zH, zJ, zK, zN, ofConst, cells?, List.length_nil, List.length_cons, List.set_cons_zero, zO, List.getD_eq_getElem?_getD, List.getElem?_cons_zero, ↓reduceIte, Nat.reduceEqDiff, Option.getD_some, zP, List.nil_append, List.cons_append, List.append_nil, Nat.zero_add, Nat.reduceAdd, Nat.add_zero, reduceCtorEq, freshP, List.map_cons, List.map_nil, true_and, List.length_map, lg0, zY, kc, lg1, kg, kj, lg2, lg3, jq, ↓jr, ↓ju, ↓jx, ↓jA, ↓jG, ↓jO, List.length_map, Int.toNat_natCast, cxN, args0]
  have hL := hV.hl
  have hN := hV.hn
  refine ⟨by omega, fun hm => ?_⟩
  refine loopP_intro (fun k : Nat => ⟨[(20, .i k), (19, .i fr.cut.length), (18, .ro 1 (fr.cut.map encI)), (9, .sl 2 0 N), (7, .ptr 1 0 0), (4, .ptr 0 0 0), (2, .i t), (1, .i f)], [.var [.i N, .ro 4 (arcs.map Arc.enc)], frB fr, .arr 1 (rowB N (fun j => hasB (fr.cut.take k) j))], 0⟩) (fun k => k ≤ fr.cut.length ∧ OkS N fr.cut k) (fun k => fr.cut.length - k) 0 ⟨by omega, ⟨by simp⟩⟩ ?_ ?_
  · have h0 : rowB N (fun j => hasB [] j) = List.replicate N [V.b false] := by rw [rowB_rep]; rfl
    simp -implicitDefEqProofs only [zN, List.getElem?_cons_zero, ↓reduceIte, Nat.reduceEqDiff, reduceCtorEq, zX, leE, leH, leB, leV, leVs, keepP, liveP, wfE, wfB, wfV, wfL, List.take_zero, Bool.and_self, and_self, lg0, lg1, leVs, leV, Int.natCast_zero, frB, h0]
  rintro k ⟨hk, hv⟩
  simp -implicitDefEqProofs only [qE, qF, qI, qJ, qK, qL, qM, qN, qO, qP, qQ, qR, qS, qV, qW, qX, qY, qZ, zb, zd, zH, zI, zJ, zK, zN, ofConst, cells?, List.length_nil, List.length_cons, List.set_cons_zero, splice, zO, List.getD_eq_getElem?_getD, List.getElem?_cons_zero, ↓reduceIte, Nat.reduceEqDiff, Option.getD_some, zP, zQ, arrSz, zR, Bool.not_true, Bool.not_false, ↓zS, ↓zT, zU, zV, List.nil_append, List.append_nil, Nat.zero_add, Nat.reduceAdd, Nat.add_zero, zW, resP, tupV, List.reverse_cons, List.reverse_nil, zX, leE, leH, leB, leV, leVs, keepP, liveP, wfE, wfB, wfV, wfL, List.take_zero, List.all_cons, List.all_nil, isD, isC, Bool.and_true, Bool.and_self, true_and, and_true, and_self, V.v.injEq, Value.int.injEq, Value.bool.injEq, List.not_mem_nil, List.length_map, not_false_eq_true, Bool.false_eq_true, Nat.le_refl, lg0, zY, lg1, kg, lg2, lg3, jq, ↓jr, ↓ju, ↓jv, ↓jx, ↓jy, ↓jA, ↓jC, ↓jE, ↓jG, ↓jI, ↓jJ, ↓jO, ↓qaL, ↓qaN, ↓qaT, ↓qaU, ↓qaV, ↓qaW, List.length_map, List.getElem_map, encI_0, encB_0, Int.toNat_natCast, encB_drop, frB, rowB_len, rowB_get, rowB_set]
  simp only [br, decide_eq_true_eq, decide_eq_false_iff_not]
  refine ⟨fun h2 => ?_, fun h2 => ?_⟩
  · have hk1 : k < fr.cut.length := by omega
    have good := hv.next hk1
    have bad : ¬ ((0 ≤ fr.cut[k] ∧ fr.cut[k] < N) ∧ (0 < k → fr.cut.getD (k - 1) 0 < fr.cut[k])) → false = cuB N arcs f t fr.flow fr.cut := fun h => cuB_f fun hO => h (hO.hs.h k hk1 hk1)
    have hp : 0 < k → fr.cut.getD (k - 1) 0 = fr.cut[((k : Int) - 1).toNat]'(by omega) := by
      intro h0
      have e1 : ((k : Int) - 1).toNat = k - 1 := by omega
      simp only [e1]
      exact getD_nat (by omega)
    have hrow : ∀ i : Nat, i < N → (if (i : Int) = (fr.cut[k].toNat : Nat) then true else hasB (fr.cut.take k) i) = hasB (fr.cut.take (k + 1)) i ∨ ¬ (0 ≤ fr.cut[k]) := by
      intro i hi
      rw [hasB_take hk1]
      by_cases h0 : 0 ≤ fr.cut[k]
      · left; rw [Int.toNat_of_nonneg h0]
      · right; exact h0
    simp only [br, decide_eq_true_eq, decide_eq_false_iff_not, lo, hi, maxLen] at *
    repeat' (first | (refine ⟨(k+1 : _), ?_⟩) | (refine ⟨by omega, ?_⟩) | (refine And.intro ?_ ?_) | (refine (fun _ => ?_)))
    all_goals first | omega | (apply bad; rintro ⟨_, h4⟩; have h4 := h4 (by omega); rw [hp (by omega)] at h4; omega) | (apply bad; omega) | (apply good; refine ⟨by omega, fun h0 => ?_⟩; rw [hp h0]; omega) | (apply good; refine ⟨by omega, fun h0 => ?_⟩; omega) | (congr 1; apply rowB_congr; intro i hi; exact (hrow i hi).resolve_right (by omega))
  have hs : OkS N fr.cut fr.cut.length := ⟨fun j h _ => hv.h j h (by omega)⟩
  have hk0 : fr.cut.take k = fr.cut := List.take_of_length_le (by omega)
  rw [hk0]
  have e1 : ((f.toNat : Nat) : Int) = f := Int.toNat_of_nonneg hf.1
  have e2 : ((t.toNat : Nat) : Int) = t := Int.toNat_of_nonneg ht.1
  simp only [e1, e2]
  refine ⟨hf, by omega, fun h3 => cuB_f fun hO => ?_, fun h3 => ⟨ht, by omega, fun h4 => cuB_f fun hO => ?_, fun h4 => ?_⟩⟩
  · have := hO.hf; simp [this] at h3
  · have := hO.ht; simp [this] at h4
  have h3 : hasB fr.cut f = true := by simpa using h3
  refine fun _ => loopP_intro (fun k : Nat => ⟨[(65, .i k), (64, .i arcs.length), (63, .ro 4 (arcs.map Arc.enc)), (9, .sl 2 0 N), (7, .ptr 1 0 0)], [.dead, frB fr, .arr 1 (rowB N (fun j => hasB fr.cut j))], 0⟩) (fun k => k ≤ arcs.length ∧ OkA arcs fr.flow fr.cut k) (fun k => arcs.length - k) 0 ⟨by omega, ⟨by simp⟩⟩ ?_ ?_
  · simp -implicitDefEqProofs only [zN, List.getElem?_cons_zero, ↓reduceIte, Nat.reduceEqDiff, zX, leE, leH, leB, leV, leVs, keepP, liveP, wfE, wfB, wfV, wfL, Bool.and_self, and_self, lg0, lg1, leVs, leV, Int.natCast_zero, frB]
  rintro k ⟨hk, hv⟩
  simp -implicitDefEqProofs only [qE, qF, qH, qI, qJ, qK, qM, qN, qO, qP, qQ, qR, qS, qU, qV, qW, qX, qY, qZ, zd, zH, zI, zJ, zK, zN, ofConst, cells?, List.length_nil, List.length_cons, List.set_cons_zero, splice, zO, List.getD_eq_getElem?_getD, List.getElem?_cons_zero, ↓reduceIte, Nat.reduceEqDiff, Option.getD_some, zP, zQ, arrSz, zR, Bool.not_true, Bool.not_false, ↓zS, ↓zT, zU, zV, List.nil_append, List.cons_append, List.append_nil, Nat.zero_add, Nat.reduceAdd, Nat.add_zero, freshP, zW, resP, tupV, List.reverse_cons, List.reverse_nil, zX, leE, leH, leB, leV, leVs, keepP, liveP, wfE, wfB, wfV, wfL, List.map_cons, List.map_nil, List.drop_zero, List.take_zero, List.drop_nil, Bool.and_true, Bool.and_self, true_and, and_true, and_self, V.v.injEq, Value.int.injEq, Value.bool.injEq, List.not_mem_nil, List.length_map, not_false_eq_true, Bool.false_eq_true, Nat.le_refl, lg0, zY, zZ, kc, lg1, kg, kh, lg2, kk, kn, kw, jq, ↓jr, ↓ju, ↓jv, ↓jx, ↓jy, ↓jA, ↓jB, ↓jC, ↓jD, ↓jG, ↓jI, ↓jJ, ↓qaL, ↓qaS, ↓qaT, List.length_map, List.getElem_map, enc_len, enc_take, enc_0, enc_1, enc_2, enc_isC, encI_0, encB_0, Int.toNat_natCast, frB, rowB_len, rowB_get]
  simp only [br, decide_eq_true_eq, decide_eq_false_iff_not]
  refine ⟨fun h5 => ?_, fun h2 => cuB_t ⟨hs, h3, h4, ⟨fun j h _ => hv.h j h (by omega)⟩⟩⟩
  have hk1 : k < arcs.length := by omega
  have hk2 : k < fr.flow.length := by omega
  have hva := hV.ha arcs[k] (List.getElem_mem hk1)
  have good := hv.next hk1
  have bad : ¬ (_ ∧ _) → false = cuB N arcs f t fr.flow fr.cut := fun h => cuB_f fun hO => h (hO.ha.h k hk1 hk1)
  rw [getD_nat hk2] at good bad
  have e3 : ((arcs[k].from_.toNat : Nat) : Int) = arcs[k].from_ := by omega
  have e4 : ((arcs[k].to.toNat : Nat) : Int) = arcs[k].to := by omega
  simp only [e3, e4] at *
  generalize hasB fr.cut arcs[k].from_ = x at *
  generalize hasB fr.cut arcs[k].to = y at *
  cases x <;> cases y <;> simp only [br, bne_iff_ne, bne_eq_false_iff_eq, lo, hi, maxLen, Bool.not_true, Bool.not_false, forall_const, Bool.false_eq_true, reduceCtorEq, false_implies, true_implies, and_true, true_and] at * <;>
    (repeat' (first | (refine ⟨(k+1 : _), ?_⟩) | (refine ⟨by omega, ?_⟩) | (refine And.intro ?_ ?_) | (refine (fun _ => ?_)))) <;> first | omega | exact good ‹_› | exact bad ‹_› | exact good | (apply bad; simp; omega) | (apply good; simp; try omega) | (apply good; done) | trivial
theorem ok17 (N : Nat) (arcs : List Arc) (f t am : Int) (fr : Fr) (hV : Val N arcs) (hf : 0 ≤ f ∧ f < N) (ht : 0 ≤ t ∧ t < N) : Ok 17 [net N arcs, .i f, .i t, .i am, fr.enc] (Is (.i (accI N arcs f t am fr))) := by
  refine ok_of lw17 (by simp) ?_
  unfold c17 net Fr.enc li
  have hL := hV.hl
  have hN := hV.hn
  simp -implicitDefEqProofs only [qF, qI, qJ, qK, qN, qO, qP, qQ, qR, qS, qT, qV, qX, qZ, zD, zH, zJ, zK, zN, ofConst, cells?, List.length_nil, List.length_cons, List.set_cons_zero, zO, List.getD_eq_getElem?_getD, List.getElem?_cons_zero, ↓reduceIte, Nat.reduceEqDiff, Option.getD_some, zP, zR, Bool.not_false, ↓zS, ↓zT, zU, List.nil_append, List.append_nil, Nat.zero_add, Nat.reduceAdd, Nat.add_zero, reduceCtorEq, freshP, zW, resP, tupV, List.reverse_cons, List.reverse_nil, wfV, List.map_cons, List.map_nil, List.drop_zero, List.take_nil, true_and, V.v.injEq, Value.int.injEq, Value.bool.injEq, Bool.false_eq_true, Nat.le_refl, lg0, zY, ka, kc, ki, kj, ko, kx, kB, jq, ↓jr, ↓ju, ↓jx, ↓jA, ↓jB, ↓jG, ↓qaT, ↓qaV, cxN, args0]
  simp only [br, decide_eq_true_eq, decide_eq_false_iff_not]
  refine ⟨fun h => accI_f fun hO => by have := hO.hs; omega, fun h0 => ⟨fun h => accI_f fun hO => by have := hO.hs; omega, fun h1 => ?_⟩⟩
  refine call_is (ok35 N arcs f t fr hV hf) (by simp [Fr.enc, net, li, lendsOk, lendOk, lends, lend, wkL, wk, wkR]) rfl trivial ?_
  cases hfl : flwB N arcs f t fr with
  | false =>
    simp -implicitDefEqProofs only [qF, qI, qJ, qN, qO, qP, qQ, qR, qS, zd, zH, zJ, zK, zN, ofConst, List.length_nil, List.length_cons, ↓reduceIte, Nat.reduceEqDiff, zQ, zR, Bool.not_false, ↓zS, ↓zT, zU, List.nil_append, List.append_nil, Nat.zero_add, Nat.reduceAdd, zW, resP, tupV, List.reverse_cons, List.reverse_nil, wfV, true_and, V.v.injEq, Value.int.injEq, Value.bool.injEq, Bool.false_eq_true, jq]
    exact accI_f fun hO => by rw [flwB_t ⟨hO.fl, hO.hv, hO.ht⟩] at hfl; cases hfl
  | true =>
  have hfl : OkF N arcs f t fr.flow ∧ valTo arcs f fr.flow arcs.length = fr.sent ∧ totTo arcs fr.flow arcs.length = fr.cost := by
    apply Classical.byContradiction
    intro h
    rw [flwB_f h] at hfl; cases hfl
  have hl := hfl.1.hl
  simp -implicitDefEqProofs only [qP, qQ, qR, qS, qV, zd, zD, zH, zJ, zN, List.length_nil, List.length_cons, zO, List.getD_eq_getElem?_getD, List.getElem?_cons_zero, ↓reduceIte, Nat.reduceEqDiff, Option.getD_some, zQ, zR, Bool.not_true, ↓zT, zU, Nat.zero_add, Nat.reduceAdd, reduceCtorEq, List.map_cons, List.map_nil, List.drop_zero, List.take_nil, true_and, Bool.false_eq_true, Nat.le_refl, lg0, ka, ki, ko, kx, kB, ↓ju, ↓jx, ↓jB]
  refine call_is (ok36 N arcs f fr hV hf hl) (by simp [Fr.enc, net, li, lendsOk, lendOk, lends, lend, wkL, wk, wkR]) rfl trivial ?_
  cases hp : prB N arcs f fr.flow fr.price with
  | false =>
    simp -implicitDefEqProofs only [qF, qI, qJ, qN, qO, qP, qQ, qR, qS, zd, zH, zJ, zK, zN, ofConst, List.length_nil, List.length_cons, ↓reduceIte, Nat.reduceEqDiff, zQ, zR, Bool.not_false, ↓zS, ↓zT, zU, List.nil_append, List.append_nil, Nat.zero_add, Nat.reduceAdd, zW, resP, tupV, List.reverse_cons, List.reverse_nil, wfV, true_and, V.v.injEq, Value.int.injEq, Value.bool.injEq, Bool.false_eq_true, jq]
    exact accI_f fun hO => by have := prB_t hO.hp; rw [hp] at this; cases this
  | true =>
  have hp : OkP N arcs f fr.flow fr.price := by
    apply Classical.byContradiction
    intro h
    have := prB_f h; rw [hp] at this; cases this
  simp -implicitDefEqProofs only [qE, qF, qI, qJ, qN, qO, qP, qQ, qR, qS, qV, qX, qZ, zb, zd, zD, zH, zJ, zK, zN, ofConst, List.length_nil, List.length_cons, zO, List.getD_eq_getElem?_getD, List.getElem?_cons_zero, ↓reduceIte, Nat.reduceEqDiff, Option.getD_some, zP, zQ, zR, Bool.not_true, Bool.not_false, ↓zS, ↓zT, zU, zV, List.nil_append, List.append_nil, Nat.zero_add, Nat.reduceAdd, Nat.add_zero, reduceCtorEq, zW, resP, tupV, List.reverse_cons, List.reverse_nil, wfV, List.map_cons, List.map_nil, List.drop_zero, List.take_nil, true_and, V.v.injEq, Value.int.injEq, Value.bool.injEq, List.length_map, Bool.false_eq_true, Nat.le_refl, lg0, ka, lg1, ki, lg2, ko, lg3, kx, kB, jq, ↓jr, ↓ju, ↓jx, ↓jA, ↓jB, ↓jG, ↓jO, ↓qaR, ↓qaT, List.length_map]
  simp only [br, beq_iff_eq, beq_eq_false_iff_ne, decide_eq_true_eq, decide_eq_false_iff_not]
  refine ⟨fun h4 => fun _ => ⟨fun h5 => accI_t ⟨hfl.1, by omega, hfl.2.1, hfl.2.2, hp, ?_⟩, fun h5 => ⟨fun h6 => by omega, fun h6 => accI_f fun hO => ?_⟩⟩, fun h4 => ⟨fun h5 => ?_, fun h5 => accI_f fun hO => ?_⟩⟩
  · rw [if_pos h4]
    exact List.length_eq_zero_iff.1 (by omega)
  · have := hO.hc
    rw [if_pos h4] at this
    rw [this] at h5
    simp at h5
  · refine call_is (ok37 N arcs f t fr hV hf ht hl) (by simp [Fr.enc, net, li, lendsOk, lendOk, lends, lend, wkL, wk, wkR]) rfl trivial ?_
    cases hc : cuB N arcs f t fr.flow fr.cut with
    | false =>
      simp -implicitDefEqProofs only [qE, qF, qI, qJ, qN, qO, qP, qQ, qR, qS, zH, zJ, zK, zN, ofConst, List.length_nil, List.length_cons, ↓reduceIte, Nat.reduceEqDiff, zR, ↓zS, ↓zT, zU, List.nil_append, List.append_nil, Nat.zero_add, Nat.reduceAdd, zW, resP, tupV, List.reverse_cons, List.reverse_nil, wfV, true_and, V.v.injEq, Value.int.injEq, Value.bool.injEq, Bool.false_eq_true, jq]
      exact accI_f fun hO => by have h6 := hO.hc; rw [if_neg h4] at h6; have := cuB_t h6; rw [hc] at this; cases this
    | true =>
    have hc : OkC N arcs f t fr.flow fr.cut := by
      apply Classical.byContradiction
      intro h
      have := cuB_f h; rw [hc] at this; cases this
    simp -implicitDefEqProofs only [qF, qI, qJ, qN, qO, qP, qQ, qR, qS, zH, zJ, zK, zN, ofConst, List.length_nil, List.length_cons, ↓reduceIte, Nat.reduceEqDiff, zR, ↓zS, ↓zT, zU, List.nil_append, List.append_nil, Nat.zero_add, Nat.reduceAdd, zW, resP, tupV, List.reverse_cons, List.reverse_nil, wfV, true_and, V.v.injEq, Value.int.injEq, Value.bool.injEq, Bool.false_eq_true, jq]
    exact accI_t ⟨hfl.1, by omega, hfl.2.1, hfl.2.2, hp, by rw [if_neg h4]; exact hc⟩
  · have := hO.hs; omega
end Go.Fx.C
namespace Go.Fx
open Go.RowKit
theorem get_app_r : ∀ {a b : Env} {i : Nat}, (∀ p ∈ a, p.1 ≠ i) → get (a ++ b) i = get b i
  | [], _, _, _ => rfl
  | (j, x) :: r, b, i, h => by
    have hj : j ≠ i := h (j, x) (by simp)
    show (if i = j then x else get (r ++ b) i) = _
    rw [if_neg (Ne.symm hj)]
    exact get_app_r fun p hp => h p (by simp [hp])
theorem get_none : ∀ {a : Env} {i : Nat}, (∀ p ∈ a, p.1 ≠ i) → get a i = .any
  | [], _, _ => rfl
  | (j, x) :: r, i, h => by
    have hj : j ≠ i := h (j, x) (by simp)
    show (if i = j then x else get r i) = _
    rw [if_neg (Ne.symm hj)]
    exact get_none fun p hp => h p (by simp [hp])
theorem get_app_l : ∀ {a b : Env} {i : Nat}, (∀ p ∈ b, p.1 ≠ i) → get (a ++ b) i = get a i
  | [], b, i, h => get_none h
  | (j, x) :: r, b, i, h => by
    show (if i = j then x else get (r ++ b) i) = (if i = j then x else get r i)
    rw [get_app_l h]
theorem get_mapf {f : Nat → Nat} (hf : ∀ i j, f i = f j → i = j) : ∀ (a : Env) (i : Nat), get (a.map fun p => (f p.1, p.2)) (f i) = get a i
  | [], _ => rfl
  | (j, x) :: r, i => by
    show (if f i = f j then x else get (r.map fun p => (f p.1, p.2)) (f i)) = (if i = j then x else get r i)
    rw [get_mapf hf r i]
    by_cases h : i = j
    · subst h; simp
    · rw [if_neg h, if_neg fun e => h (hf _ _ e)]
theorem toEnv_get : ∀ (E : Tr) (i : Nat), get E.toEnv i = E.get i
  | .lf, _ => rfl
  | .nd v l r, 0 => rfl
  | .nd v l r, j + 1 => by
    show (if j + 1 = 0 then v else get (l.toEnv.map (fun p => (2 * p.1 + 1, p.2)) ++ r.toEnv.map (fun p => (2 * p.1 + 2, p.2))) (j + 1)) = _
    rw [if_neg (by omega)]
    simp only [Tr.get]
    split
    · rename_i hj
      rw [get_app_l (by rintro p hp; obtain ⟨q, _, rfl⟩ := List.mem_map.1 hp; simp; omega), show j + 1 = 2 * (j / 2) + 1 by omega, get_mapf (f := fun i => 2 * i + 1) (by intros; simp at *; omega)]
      exact toEnv_get l _
    · rename_i hj
      rw [get_app_r (by rintro p hp; obtain ⟨q, _, rfl⟩ := List.mem_map.1 hp; simp; omega), show j + 1 = 2 * (j / 2) + 2 by omega, get_mapf (f := fun i => 2 * i + 2) (by intros; simp at *; omega)]
      exact toEnv_get r _
mutual
theorem wfVB_ok {h : List Blk} : ∀ x : V, wfVB h x = true → wfV h x
  | .sl k _ _, hx => live_of (by simpa [wfVB] using hx)
  | .ptr k _ _, hx => live_of (by simpa [wfVB] using hx)
  | .mp k, hx => live_of (by simpa [wfVB] using hx)
  | .itr k, hx => live_of (by simpa [wfVB] using hx)
  | .agg cs, hx => wfLB_ok cs (by simpa [wfVB] using hx)
  | .tup cs, hx => wfLB_ok cs (by simpa [wfVB] using hx)
  | .clo _ cs, hx => wfLB_ok cs (by simpa [wfVB] using hx)
  | .any, _ | .v _, _ | .ro _ _, _ | .bro _ _, _ | .full _ _, _ | .rp _ _ _ _, _ => by simp [wfV]
theorem wfLB_ok {h : List Blk} : ∀ xs : List V, wfLB h xs = true → wfL h xs
  | [], _ => trivial
  | x :: r, hx => by
    simp only [wfLB, Bool.and_eq_true] at hx
    exact ⟨wfVB_ok x hx.1, wfLB_ok r hx.2⟩
end
theorem wfEB_ok {h : List Blk} : ∀ e : Env, wfEB h e = true → wfE h e
  | [], _ => trivial
  | (_, x) :: r, hx => by
    simp only [wfEB, Bool.and_eq_true] at hx
    exact ⟨wfVB_ok x hx.1, wfEB_ok r hx.2⟩
theorem wfBB_ok {h : List Blk} : ∀ l : List Blk, wfBB h l = true → wfB h l
  | [], _ => trivial
  | .var cs :: r, hx => by simp only [wfBB, Bool.and_eq_true] at hx; exact ⟨wfLB_ok _ hx.1, wfBB_ok r hx.2⟩
  | .dead :: r, hx => wfBB_ok r (by simpa [wfBB] using hx)
  | .arr _ _ :: r, hx => wfBB_ok r (by simpa [wfBB] using hx)
  | .arv _ els :: r, hx => by simp only [wfBB, Bool.and_eq_true] at hx; exact ⟨wfLB_ok _ hx.1, wfBB_ok r hx.2⟩
  | .map es _ :: r, hx => by simp only [wfBB, Bool.and_eq_true] at hx; exact ⟨wfLB_ok _ hx.1, wfBB_ok r hx.2⟩
  | .it m _ _ _ :: r, hx => by simp only [wfBB, Bool.and_eq_true] at hx; exact ⟨wfVB_ok _ hx.1, wfBB_ok r hx.2⟩
  | .rcd _ e :: r, hx => by simp only [wfBB, Bool.and_eq_true] at hx; exact ⟨wfEB_ok _ hx.1, wfBB_ok r hx.2⟩
theorem Tr.wf_ok {h : List Blk} : ∀ (E : Tr), E.wf h = true → ∀ i, wfV h (E.get i)
  | .lf, _, _ => trivial
  | .nd v l r, hx, i => by
    simp only [Tr.wf, Bool.and_eq_true] at hx
    cases i with
    | zero => exact wfVB_ok v hx.1
    | succ j =>
      simp only [Tr.get]
      split
      · exact Tr.wf_ok l hx.2.1 _
      · exact Tr.wf_ok r hx.2.2 _
theorem leTB_ok : ∀ (E E' : Tr), leTB E E' = true → ∀ i, E'.get i = .any ∨ E'.get i = E.get i
  | _, .lf, _, i => .inl rfl
  | .nd v l r, .nd v' l' r', h, i => by
    simp only [leTB, Bool.and_eq_true] at h
    cases i with
    | zero =>
      show v' = .any ∨ v' = v
      have h1 := h.1.1
      split at h1
      · exact .inl rfl
      · exact .inr (eqV_ok h1).symm
    | succ j =>
      simp only [Tr.get]
      split
      · exact leTB_ok l l' h.1.2 _
      · exact leTB_ok r r' h.2 _
  | .lf, .nd v' l' r', h, i => by
    simp only [leTB, Bool.and_eq_true] at h
    cases i with
    | zero =>
      show v' = .any ∨ v' = .any
      have h1 := h.1.1
      split at h1
      · exact .inl rfl
      · cases h1
    | succ j =>
      simp only [Tr.get]
      split
      · exact leTB_ok .lf l' h.1.2 _
      · exact leTB_ok .lf r' h.2 _
theorem leVsB_ok : ∀ {xs ys : List V}, leVsB xs ys = true → leVs xs ys
  | [], [], _ => trivial
  | x :: xs, y :: ys, h => by
    simp only [leVsB, Bool.and_eq_true] at h
    refine ⟨?_, leVsB_ok h.2⟩
    have h1 := h.1
    unfold leV
    split at h1
    · trivial
    · have := eqV_ok h1
      subst this
      split <;> trivial
  | [], _ :: _, h => by simp [leVsB] at h
  | _ :: _, [], h => by simp [leVsB] at h
theorem leBB_ok {b c : Blk} (h : leBB b c = true) : leB b c := by
  unfold leBB at h
  unfold leB
  split at h
  · trivial
  · split at h
    · exact leVsB_ok h
    · cases h
  · split
    · trivial
    · rename_i hne; exact (hne _ rfl).elim
    · have := eqB_ok h
      subst this
      exact ⟨rfl, .inl rfl⟩
    · exact eqB_ok h
theorem leHB_ok : ∀ {h p : List Blk}, leHB h p = true → leH h p
  | _, [], _ => by unfold leH; trivial
  | b :: h, c :: p, hx => by
    simp only [leHB, Bool.and_eq_true] at hx
    exact ⟨leBB_ok hx.1, leHB_ok hx.2⟩
  | [], _ :: _, hx => by simp [leHB] at hx
section
variable {P : Program} {ρ0 : Nat → Loc} {X : Nat → Prop} {w0 : World} {fx : List Nat} {N : Nat}
def GoodT (ρ0 : Nat → Loc) (X : Nat → Prop) (w0 : World) (fx : List Nat) (N : Nat) (p : Pt) (a : Act) (w : World) : Prop :=
  ∃ e b, (∀ i, get e i = p.1.get i) ∧ Good ρ0 X w0 fx N ⟨e, p.2, b⟩ a w
theorem GoodT.le {p q : Pt} {a : Act} {w : World} (hE : ∀ i, q.1.get i = .any ∨ q.1.get i = p.1.get i) (l2 : leH p.2 q.2) (l3 : keepP fx q.2) (l4 : ∀ i, wfV q.2 (q.1.get i)) (l5 : wfB q.2 q.2) (h : GoodT ρ0 X w0 fx N p a w) : GoodT ρ0 X w0 fx N q a w := by
  obtain ⟨e, b, he, ρ, ⟨⟨hf, h1⟩, hk⟩, ⟨hr, hre⟩, h5, h6⟩ := h
  refine ⟨q.1.toEnv, 0, toEnv_get _, dropLoc ρ q.2, ⟨⟨hf.trans drop_fr, fun k hk' => by rw [live_loc (keepP_get l3 k hk')]; exact h1 k hk'⟩, l3⟩, ⟨dropRep hr l2 l5, fun i => ?_⟩, h5, h6.fr drop_fr⟩
  rw [toEnv_get]
  rcases hE i with hg | hg
  · rw [hg]; trivial
  · exact drop_rep _ _ (l4 i) (by rw [hg, ← he]; exact hre i)
theorem joinD_ok {outs ps : List Pt} (h : joinD fx outs = some ps) {q : Pt} (hq : q ∈ outs) {a : Act} {w : World} (hg : GoodT ρ0 X w0 fx N q a w) : ∃ p ∈ ps, GoodT ρ0 X w0 fx N p a w := by
  unfold joinD at h
  split at h
  · simp at hq
  · simp only [Option.some.injEq] at h
    subst h
    exact ⟨q, hq, hg⟩
  · simp only at h
    split at h
    · rename_i hc
      simp only [Option.some.injEq] at h
      subst h
      simp only [Bool.and_eq_true, List.all_eq_true] at hc
      obtain ⟨h1, h2, h3, h4⟩ := hc
      obtain ⟨h5, h6⟩ := h1 q hq
      exact ⟨_, List.mem_singleton_self _, hg.le (leTB_ok _ _ h5) (leHB_ok h6) (keep_of h2) (Tr.wf_ok _ h3) (wfBB_ok _ h4)⟩
    · cases h
theorem goL_ok {α β : Type} {f : α → Option (List β)} : ∀ {xs : List α} {ys : List β}, goL f xs = some ys → ∀ x ∈ xs, ∃ zs, f x = some zs ∧ ∀ z ∈ zs, z ∈ ys
  | [], _, _, x, hx => by simp at hx
  | [y], ys, h, x, hx => by
    simp only [List.mem_singleton] at hx
    subst hx
    exact ⟨ys, h, fun _ h => h⟩
  | y :: y2 :: r, ys, h, x, hx => by
    simp only [goL] at h
    split at h
    · rename_i a b h1 h2
      simp only [Option.some.injEq] at h
      subst h
      rcases List.mem_cons.1 hx with rfl | hx
      · exact ⟨a, h1, fun z hz => List.mem_append_left _ hz⟩
      · obtain ⟨zs, h3, h4⟩ := goL_ok h2 x hx
        exact ⟨zs, h3, fun z hz => List.mem_append_right _ (h4 z hz)⟩
    · cases h
theorem bindL_ok {α β : Type} {l : Option (List α)} {f : α → Option (List β)} {ys : List β} (h : bindL l f = some ys) : ∃ xs, l = some xs ∧ ∀ x ∈ xs, ∃ zs, f x = some zs ∧ ∀ z ∈ zs, z ∈ ys := by
  unfold bindL at h
  split at h
  · cases h
  · exact ⟨_, rfl, goL_ok h⟩
def AT (b : Nat) (q : Pt) (K : St → Prop) : Prop := ∀ e, (∀ i, get e i = q.1.get i) → K ⟨e, q.2, b⟩
def YdOk (y : Nat → YtD) (yy : Nat → Yt) : Prop := ∀ (k : Nat) (xs : List V) (s : St) (E : Tr) (rs : List (V × Pt)) (Z : V → St → Prop), (∀ i, get s.e i = E.get i) → y k xs (E, s.h) = some rs → (∀ r ∈ rs, AT s.b r.2 (Z r.1)) → yy k xs s Z
section
variable {C : Ctr} {it : Itr} {yy : Nat → Yt} {rk : Option Nat} {call : CallD} {mvf : FuncId → Option Nat} (hcall : ∀ f zas h0 mv r h', call f zas h0 mv = some (r, h') → C f zas h0 mv (fun r1 h1 => r1 = r ∧ h1 = h'))
include hcall
theorem putT_get {E : Tr} {e : Env} (he : ∀ i, get e i = E.get i) (d : Option Nat) (x : V) (h : List Blk) (b : Nat) : ∀ i, get ((⟨e, h, b⟩ : St).put d x).e i = (putT E d x).get i := by
  intro i
  cases d with
  | none => exact he i
  | some d =>
    simp only [putT, forceV_eq]
    rw [Tr.get_put _ _ _ _ _ (Nat.lt_succ_self d)]
    show (if i = d then x else get e i) = _
    rw [he]
theorem runD_ok {bn : List Nat} {o : LOper} {b : Nat} {p : Pt} {outs : List Pt} (h : runD call mvf fx bn o b p = some outs) {e : Env} (he : ∀ i, get e i = p.1.get i) {K : St → Prop}
    (hK : ∀ q ∈ outs, ∀ e', (∀ i, get e' i = q.1.get i) → K ⟨e', q.2, b⟩) : aOp { C := C, fx := fx, bn := bn, it := it, y := yy, rk := rk } o.op ⟨e, p.2, b⟩ fun x s' => K (s'.put o.dst x) := by
  unfold runD at h
  split at h
  · cases h
  · rename_i rs hrs
    simp only [Option.some.injEq] at h
    subst h
    refine opD_ok hcall he hrs fun r hr e' he' => ?_
    have := hK (putT r.E o.dst r.x, r.h) (by rw [List.mem_map]; exact ⟨r, hr, rfl⟩) ((⟨e', r.h, b⟩ : St).put o.dst r.x).e (putT_get hcall he' _ _ _ _)
    cases hd : o.dst with
    | none => rw [hd] at this; exact this
    | some d => rw [hd] at this; exact this
theorem operD_ok {bn : List Nat} {o : LOper} {b : Nat} {p : Pt} {outs : List Pt} (h : operD call mvf fx bn o b p = some outs) {e : Env} (he : ∀ i, get e i = p.1.get i) {K : St → Prop}
    (hK : ∀ q ∈ outs, ∀ e', (∀ i, get e' i = q.1.get i) → K ⟨e', q.2, b⟩) : aOper { C := C, fx := fx, bn := bn, it := it, y := yy, rk := rk } o ⟨e, p.2, b⟩ K := by
  unfold operD at h
  unfold aOper
  split at h
  · rename_i hg
    rw [hg]
    exact runD_ok hcall h he hK
  · rename_i g want hg
    rw [hg]
    have hge := he g
    show guardP (get e g) want _ _ _
    split at h
    · rename_i t ht
      rw [hge, ht]
      have hput : ∀ v : Bool, v = t → ∀ i, get ((g, V.b v) :: e) i = p.1.get i := by
        intro v hv i
        subst hv
        show (if i = g then V.b v else get e i) = _
        by_cases hi : i = g
        · rw [if_pos hi, hi, ht]
        · rw [if_neg hi, he]
      have hskip : ∀ v : Bool, v = t → ∀ {outs : List Pt}, some [(putT p.1 o.dst (.v (.tuple #[])), p.2)] = some outs → (∀ q ∈ outs, ∀ e', (∀ i, get e' i = q.1.get i) → K ⟨e', q.2, b⟩) →
          K (((⟨e, p.2, b⟩ : St).put (some g) (.b v)).put o.dst (.v (.tuple #[]))) := by
        intro v hv outs ho hK
        simp only [Option.some.injEq] at ho
        subst ho
        have := hK _ (List.mem_singleton_self _) ((⟨(g, V.b v) :: e, p.2, b⟩ : St).put o.dst (.v (.tuple #[]))).e (putT_get hcall (hput v hv) _ _ _ _)
        cases hd : o.dst with
        | none => rw [hd] at this; exact this
        | some d => rw [hd] at this; exact this
      split at h
      · rename_i htw
        subst htw
        have := runD_ok (it := it) (yy := yy) (rk := rk) hcall h (hput t rfl) hK
        cases t with
        | true => exact ⟨fun _ => this, fun h => by cases h⟩
        | false => exact ⟨fun h => (by cases h), fun _ => this⟩
      · rename_i htw
        have hn : (!want) = t := by cases t <;> cases want <;> simp_all
        have := hskip (!want) hn h hK
        cases t with
        | true => cases want with
          | true => exact absurd rfl htw
          | false => exact ⟨fun _ => this, fun h => by cases h⟩
        | false => cases want with
          | true => exact ⟨fun h => (by cases h), fun _ => this⟩
          | false => exact absurd rfl htw
    · rename_i u ht
      rw [hge, ht]
      simp only [Option.some.injEq] at h
      subst h
      have := hK _ (List.mem_singleton_self _) ((⟨e, p.2, b⟩ : St).put o.dst (.v (.tuple #[]))).e (putT_get hcall he _ _ _ _)
      show K ((⟨e, p.2, b⟩ : St).put o.dst (.v (.tuple #[])))
      cases hd : o.dst with
      | none => rw [hd] at this; exact this
      | some d => rw [hd] at this; exact this
    · cases h
theorem opsD_ok {b : Nat} {K : St → Prop} : ∀ {ls : List LOper} {p : Pt} {outs : List Pt}, opsD call mvf fx b ls p = some outs → ∀ {e : Env}, (∀ i, get e i = p.1.get i) →
    (∀ q ∈ outs, ∀ e', (∀ i, get e' i = q.1.get i) → K ⟨e', q.2, b⟩) → aOps { C := C, fx := fx, bn := [], it := it, y := yy, rk := rk } ls ⟨e, p.2, b⟩ K
  | [], p, outs, h, e, he, hK => by
    simp only [opsD, Option.some.injEq] at h
    subst h
    exact hK _ (List.mem_singleton_self _) e he
  | o :: r, p, outs, h, e, he, hK => by
    simp only [opsD] at h
    obtain ⟨xs, h1, h2⟩ := bindL_ok h
    refine operD_ok hcall h1 he fun q hq e' he' => ?_
    obtain ⟨zs, h3, h4⟩ := h2 q hq
    exact opsD_ok h3 he' fun z hz => hK z (h4 z hz)
theorem yldD_ok {y : Nat → YtD} (hy : YdOk y yy) {d : Option Nat} {f : Operand} {xs : List Operand} {p : Pt} {outs : List Pt} (h : yldD y d f xs p = some outs) {e : Env} (he : ∀ i, get e i = p.1.get i) {b : Nat} {K : St → Prop}
    (hK : ∀ q ∈ outs, ∀ e', (∀ i, get e' i = q.1.get i) → K ⟨e', q.2, b⟩) : yieldP { C := C, fx := fx, bn := [], it := it, y := yy, rk := rk } f xs ⟨e, p.2, b⟩ fun x s' => K (s'.put d x) := by
  unfold yldD at h
  unfold yieldP
  rw [ev_ok he]
  split at h
  · rename_i k hk
    rw [hk]
    split at h
    · rename_i rs hrs
      simp only [Option.some.injEq] at h
      subst h
      have hm : xs.map (ev e) = xs.map (evT p.1) := List.map_congr_left fun x _ => ev_ok he x
      show yy k (xs.map (ev e)) _ _
      rw [hm]
      refine hy k _ _ p.1 rs _ he hrs fun r hr e' he' => ?_
      have := hK (putT r.2.1 d r.1, r.2.2) (by rw [List.mem_map]; exact ⟨r, hr, rfl⟩) ((⟨e', r.2.2, b⟩ : St).put d r.1).e (putT_get hcall he' _ _ _ _)
      cases d with
      | none => exact this
      | some d => exact this
    · cases h
  · cases h
theorem operYD_ok {y : Nat → YtD} (hy : YdOk y yy) {o : LOper} {b : Nat} {p : Pt} {outs : List Pt} (h : operYD call mvf fx y o b p = some outs) {e : Env} (he : ∀ i, get e i = p.1.get i) {K : St → Prop}
    (hK : ∀ q ∈ outs, ∀ e', (∀ i, get e' i = q.1.get i) → K ⟨e', q.2, b⟩) : aOperY { C := C, fx := fx, bn := [], it := it, y := yy, rk := rk } o ⟨e, p.2, b⟩ K := by
  unfold operYD at h
  unfold aOperY
  split at h
  · rename_i f xs ho
    rw [ho]
    show gP o.g o.dst (yieldP _ f xs) ⟨e, p.2, b⟩ K
    unfold gP
    split at h
    · rename_i hg
      rw [hg]
      exact yldD_ok hcall hy h he hK
    · rename_i g want hg
      rw [hg]
      have hge := he g
      show guardP (get e g) want _ _ _
      split at h
      · rename_i t ht
        rw [hge, ht]
        have hput : ∀ v : Bool, v = t → ∀ i, get ((g, V.b v) :: e) i = p.1.get i := by
          intro v hv i
          subst hv
          show (if i = g then V.b v else get e i) = _
          by_cases hi : i = g
          · rw [if_pos hi, hi, ht]
          · rw [if_neg hi, he]
        have hskip : ∀ v : Bool, v = t → ∀ {outs : List Pt}, some [(putT p.1 o.dst (.v (.tuple #[])), p.2)] = some outs → (∀ q ∈ outs, ∀ e', (∀ i, get e' i = q.1.get i) → K ⟨e', q.2, b⟩) →
            K (((⟨e, p.2, b⟩ : St).put (some g) (.b v)).put o.dst (.v (.tuple #[]))) := by
          intro v hv outs ho hK
          simp only [Option.some.injEq] at ho
          subst ho
          have := hK _ (List.mem_singleton_self _) ((⟨(g, V.b v) :: e, p.2, b⟩ : St).put o.dst (.v (.tuple #[]))).e (putT_get hcall (hput v hv) _ _ _ _)
          cases hd : o.dst with
          | none => rw [hd] at this; exact this
          | some d => rw [hd] at this; exact this
        split at h
        · rename_i htw
          subst htw
          have := yldD_ok (C := C) (it := it) (rk := rk) (fx := fx) hcall hy h (hput t rfl) hK
          cases t with
          | true => exact ⟨fun _ => this, fun h => by cases h⟩
          | false => exact ⟨fun h => (by cases h), fun _ => this⟩
        · rename_i htw
          have hn : (!want) = t := by cases t <;> cases want <;> simp_all
          have := hskip (!want) hn h hK
          cases t with
          | true => cases want with
            | true => exact absurd rfl htw
            | false => exact ⟨fun _ => this, fun h => by cases h⟩
          | false => cases want with
            | true => exact ⟨fun h => (by cases h), fun _ => this⟩
            | false => exact absurd rfl htw
      · rename_i u ht
        rw [hge, ht]
        simp only [Option.some.injEq] at h
        subst h
        have := hK _ (List.mem_singleton_self _) ((⟨e, p.2, b⟩ : St).put o.dst (.v (.tuple #[]))).e (putT_get hcall he _ _ _ _)
        show K ((⟨e, p.2, b⟩ : St).put o.dst (.v (.tuple #[])))
        cases hd : o.dst with
        | none => rw [hd] at this; exact this
        | some d => rw [hd] at this; exact this
      · cases h
  · rename_i hne
    split
    · rename_i f xs ho; exact absurd ho (hne f xs)
    · exact operD_ok hcall h he hK
theorem opsYD_ok {y : Nat → YtD} (hy : YdOk y yy) {b : Nat} {K : St → Prop} : ∀ {ls : List LOper} {p : Pt} {outs : List Pt}, opsYD call mvf fx y b ls p = some outs → ∀ {e : Env}, (∀ i, get e i = p.1.get i) →
    (∀ q ∈ outs, ∀ e', (∀ i, get e' i = q.1.get i) → K ⟨e', q.2, b⟩) → aOpsY { C := C, fx := fx, bn := [], it := it, y := yy, rk := rk } ls ⟨e, p.2, b⟩ K
  | [], p, outs, h, e, he, hK => by
    simp only [opsYD, Option.some.injEq] at h
    subst h
    exact hK _ (List.mem_singleton_self _) e he
  | o :: r, p, outs, h, e, he, hK => by
    simp only [opsYD] at h
    obtain ⟨xs, h1, h2⟩ := bindL_ok h
    refine operYD_ok hcall hy h1 he fun q hq e' he' => ?_
    obtain ⟨zs, h3, h4⟩ := h2 q hq
    exact opsYD_ok hy h3 he' fun z hz => hK z (h4 z hz)
theorem planD_ok {b : Nat} {K : St → Prop} : ∀ {l : LPlan} {bn : List Nat} {p : Pt} {outs : List Pt}, planD call mvf fx b l bn p = some outs → ∀ {e : Env}, (∀ i, get e i = p.1.get i) →
    (∀ q ∈ outs, ∀ e', (∀ i, get e' i = q.1.get i) → K ⟨e', q.2, b⟩) → awP { C := C, fx := fx, bn := [], it := it, y := yy, rk := rk } l bn K ⟨e, p.2, b⟩
  | .done, bn, p, outs, h, e, he, hK => by
    simp only [planD, Option.some.injEq] at h
    subst h
    exact hK _ (List.mem_singleton_self _) e he
  | .take i D o q, bn, p, outs, h, e, he, hK => by
    simp only [planD] at h
    obtain ⟨xs, h1, h2⟩ := bindL_ok h
    refine operD_ok hcall h1 he fun q' hq e' he' => ?_
    obtain ⟨zs, h3, h4⟩ := h2 q' hq
    have hrd : rdB o.op e bn = rdT o.op p.1 bn := by
      unfold rdB rdT
      cases o.op with
      | load n a => simp only [ev_ok he]; cases evT p.1 a <;> rfl
      | _ => rfl
    show awP _ q (rdB o.op e bn) K _
    rw [hrd]
    exact planD_ok h3 he' fun z hz => hK z (h4 z hz)
  | .alt i o r q q', bn, p, outs, h, e, he, hK => by
    simp only [planD] at h
    split at h
    · rename_i x y h1 h2
      simp only [Option.some.injEq] at h
      subst h
      obtain ⟨xs, h3, h4⟩ := bindL_ok h1
      refine ⟨operD_ok hcall h3 he fun q' hq e' he' => ?_, planD_ok h2 he fun z hz => hK z (List.mem_append_right _ hz)⟩
      obtain ⟨zs, h5, h6⟩ := h4 q' hq
      exact planD_ok h5 he' fun z hz => hK z (List.mem_append_left _ (h6 z hz))
    · cases h
  | .none, bn, p, outs, h, e, he, hK => trivial
end
def Out.ex : Out → Exit
  | .normal _ => .normal
  | .exit j _ => .exit j
  | .ret _ => .ret
def Out.pt : Out → Pt
  | .normal p => p
  | .exit _ p => p
  | .ret p => p
theorem GoodT.reserve {p : Pt} {a : Act} {w : World} (n : Nat) (h : GoodT ρ0 X w0 fx N p a w) : ∃ e, (∀ i, get e i = p.1.get i) ∧ Good ρ0 X w0 fx N ⟨e, roomD n p.2, p.2.length⟩ a w := by
  obtain ⟨e, b, he, hg⟩ := h
  refine ⟨e, he, ?_⟩
  have := hg.reserve n p.2.length
  cases n with
  | zero => simpa [roomD] using this
  | succ n => exact this
theorem others_mem {o : Out} : ∀ {l : List Out}, o ∈ l → (∀ p, o ≠ .normal p) → o ∈ others l
  | [], h, _ => by simp at h
  | x :: r, h, hn => by
    rcases List.mem_cons.1 h with rfl | h'
    · cases o with
      | normal p => exact (hn p rfl).elim
      | _ => simp [others]
    · clear h
      have ih := others_mem h' hn
      cases x with
      | normal p => exact ih
      | _ => simp only [others]; exact List.mem_cons_of_mem _ ih
theorem norms_mem {p : Pt} : ∀ {l : List Out}, Out.normal p ∈ l → p ∈ norms l
  | [], h => by simp at h
  | x :: r, h => by
    rcases List.mem_cons.1 h with rfl | h'
    · simp [norms]
    · clear h
      have ih := norms_mem h'
      cases x with
      | normal p => simp only [norms]; exact List.mem_cons_of_mem _ ih
      | _ => exact ih
theorem Tr.get_ren (g : Nat → Option Nat) : ∀ (t : Tr) (i : Nat), (t.ren g).get i = renK g (t.get i)
  | .lf, _ => by simp [Tr.ren, Tr.get, renK]
  | .nd v l r, i => by
    cases i with
    | zero => rfl
    | succ j =>
      simp only [Tr.ren, Tr.get]
      split
      · exact Tr.get_ren g l _
      · exact Tr.get_ren g r _
mutual
theorem renK_rep {w : World} {ρ1 ρ2 : Nat → Loc} {g : Nat → Option Nat} (hS : ∀ b, Sta ρ1 X w b → Sta ρ2 X w b) (hL : ∀ b, Len ρ1 w b → Len ρ2 w b) (hg : ∀ k j, g k = some j → (ρ1 k).real = true → ρ2 j = ρ1 k) :
    ∀ (x : V) (val : Value), RepV ρ1 X w x val → RepV ρ2 X w (renK g x) val
  | .any, _, _ => trivial
  | .v _, _, hx => hx
  | .ro sz els, val, hx => RepD_mono (fun b hb => ⟨hS b hb, rfl⟩) (.ro sz els) val hx
  | .bro sz els, val, hx => by
    obtain ⟨a, len, cap, h1, h2, h3, h4, h5⟩ := hx
    refine ⟨a, len, cap, h1, h2, h3, h4, h5.imp id ?_⟩
    rintro ⟨b, off, h6, h7, h8⟩
    exact ⟨b, off, h6, hL b h7, RepEls_mono (fun b hb => ⟨hS b hb, rfl⟩) sz b rfl off els h8⟩
  | .full sz els, val, hx => by
    obtain ⟨a, len, h1, h2, h4, h5⟩ := hx
    refine ⟨a, len, h1, h2, h4, h5.imp id ?_⟩
    rintro ⟨b, off, h6, h7, h8⟩
    exact ⟨b, off, h6, hL b h7, RepEls_mono (fun b hb => ⟨hS b hb, rfl⟩) sz b rfl off els h8⟩
  | .rp sz els i f, val, hx => by
    obtain ⟨b, off, h6, h7, h8⟩ := hx
    exact ⟨b, off, h6, hL b h7, RepEls_mono (fun b hb => ⟨hS b hb, rfl⟩) sz b rfl off els h8⟩
  | .itr k, val, hx => by
    simp only [renK]
    split
    · rename_i j hj
      obtain ⟨h4, h5⟩ := hx
      simp only [RepV]
      rw [hg k j hj h4]
      exact ⟨h4, h5⟩
    · trivial
  | .sl k i n, val, hx => by
    simp only [renK]
    split
    · rename_i j hj
      obtain ⟨cap, h1, h2, h3⟩ := hx
      refine ⟨cap, h1, h2, h3.imp id ?_⟩
      rintro ⟨h4, h5⟩
      rw [hg k j hj h4]
      exact ⟨h4, h5⟩
    · trivial
  | .ptr k i f, val, hx => by
    simp only [renK]
    split
    · rename_i j hj
      obtain ⟨h4, h5⟩ := hx
      simp only [RepV]
      rw [hg k j hj h4]
      exact ⟨h4, h5⟩
    · trivial
  | .mp k, val, hx => by
    simp only [renK]
    split
    · rename_i j hj
      obtain ⟨h4, h5⟩ := hx
      simp only [RepV]
      rw [hg k j hj h4]
      exact ⟨h4, h5⟩
    · trivial
  | .agg cs, val, hx => by
    obtain ⟨arr, h1, h2⟩ := hx
    exact ⟨arr, h1, rensK_rep hS hL hg cs _ h2⟩
  | .tup cs, val, hx => by
    obtain ⟨arr, h1, h2⟩ := hx
    exact ⟨arr, h1, rensK_rep hS hL hg cs _ h2⟩
  | .clo f cs, val, hx => by
    obtain ⟨arr, h1, h2⟩ := hx
    exact ⟨arr, h1, rensK_rep hS hL hg cs _ h2⟩
theorem rensK_rep {w : World} {ρ1 ρ2 : Nat → Loc} {g : Nat → Option Nat} (hS : ∀ b, Sta ρ1 X w b → Sta ρ2 X w b) (hL : ∀ b, Len ρ1 w b → Len ρ2 w b) (hg : ∀ k j, g k = some j → (ρ1 k).real = true → ρ2 j = ρ1 k) :
    ∀ (xs : List V) (vs : List Value), RepL ρ1 X w xs vs → RepL ρ2 X w (rensK g xs) vs
  | [], [], _ => trivial
  | x :: r, u :: us, hx => ⟨renK_rep hS hL hg x u hx.1, rensK_rep hS hL hg r us hx.2⟩
  | [], _ :: _, hx => hx.elim
  | _ :: _, [], hx => hx.elim
end
theorem rensK_map (g : Nat → Option Nat) : ∀ xs : List V, rensK g xs = xs.map (renK g)
  | [] => rfl
  | x :: r => by simp [rensK, rensK_map g r]
theorem get_renEK (g : Nat → Option Nat) : ∀ (e : Env) (i : Nat), get (renEK g e) i = renK g (get e i)
  | [], _ => by simp [renEK, get, renK]
  | (j, x) :: r, i => by
    simp only [renEK, get]
    split
    · rfl
    · exact get_renEK g r i
theorem renBK_rep {w : World} {ρ1 ρ2 : Nat → Loc} {g : Nat → Option Nat} (hS : ∀ b, Sta ρ1 X w b → Sta ρ2 X w b) (hL : ∀ b, Len ρ1 w b → Len ρ2 w b) (hg : ∀ k j, g k = some j → (ρ1 k).real = true → ρ2 j = ρ1 k)
    {k j : Nat} (hkj : ρ2 j = ρ1 k) {B : Blk} (hB : RepB ρ1 X w k B) : RepB ρ2 X w j (renBK g B) := by
  cases B with
  | dead => simp only [renBK, RepB] at hB ⊢; rw [hkj]; exact hB
  | arr sz els =>
    simp only [renBK, RepB] at hB ⊢
    rw [hkj]
    refine ⟨hB.1, hB.2.imp id ?_⟩
    rintro ⟨h1, c, T, h2, h3, h4, h5⟩
    exact ⟨h1, c, T, h2, h3, h4, RepEls_mono (fun b hb => ⟨hS b hb, rfl⟩) sz _ rfl _ _ h5⟩
  | var cs =>
    simp only [renBK, RepB] at hB ⊢
    rw [hkj]
    obtain ⟨h1, c, T, h2, h3⟩ := hB
    exact ⟨h1, c, T, h2, rensK_rep hS hL hg _ _ h3⟩
  | arv sz els =>
    simp only [renBK, RepB] at hB ⊢
    rw [hkj]
    obtain ⟨h0, h1, c, T, h2, h3, h4, h5⟩ := hB
    refine ⟨h0, h1, c, T, h2, h3, by simpa using h4, fun i e he => ?_⟩
    simp only [List.getElem?_map, Option.map_eq_some_iff] at he
    obtain ⟨e0, he0, rfl⟩ := he
    refine ⟨by rw [rensK_map, List.length_map]; exact (h5 i e0 he0).1, fun f x hx => ?_⟩
    simp only [rensK_map, List.getElem?_map, Option.map_eq_some_iff] at hx
    obtain ⟨x0, hx0, rfl⟩ := hx
    obtain ⟨u, h6, h7⟩ := (h5 i e0 he0).2 f x0 hx0
    exact ⟨u, h6, renK_rep hS hL hg _ _ h7⟩
  | map es cl =>
    simp only [renBK, RepB] at hB ⊢
    rw [hkj]
    obtain ⟨h1, arr, h2, h3, h4⟩ := hB
    refine ⟨h1, arr, h2, by rw [h3]; simp, ?_⟩
    rw [show (List.map (fun e : Value × V × Nat => (e.1, renK g e.2.1, e.2.2)) es).map (·.2.1) = rensK g (es.map (·.2.1)) by rw [rensK_map]; simp]
    exact rensK_rep hS hL hg _ _ h4
  | it m s sn l =>
    simp only [renBK, RepB] at hB ⊢
    rw [hkj]
    obtain ⟨h1, x, h2, h3⟩ := hB
    exact ⟨h1, x, h2, renK_rep hS hL hg _ _ h3⟩
  | rcd t e =>
    simp only [renBK, RepB] at hB ⊢
    rw [hkj]
    exact ⟨hB.1, fun i => by rw [get_renEK]; exact renK_rep hS hL hg _ _ (hB.2 i)⟩
theorem gc_rep {ρ : Nat → Loc} {w : World} {h : List Blk} (hr : Rep ρ X w h) {ι : List Nat} (hn : ι.Nodup) (hlt : ∀ k ∈ ι, k < h.length) :
    Rep (calleeLoc ρ ι) X w (ι.map fun k => renBK (pos ι) (blk h k)) := by
  refine ⟨?_, ?_, ?_, fun b ho => hr.disj b (callee_own ho), ?_, hr.xlt⟩
  · intro i j hij hi hj
    obtain ⟨a, ha, ea⟩ := callee_real hi
    obtain ⟨c, hc, ec⟩ := callee_real hj
    rw [ea] at hi ⊢
    rw [ec] at hj ⊢
    refine hr.inj a c (fun e => hij ?_) hi hj
    subst e
    have h1 := pos_of_get hn ha
    have h2 := pos_of_get hn hc
    rw [h1] at h2
    simpa using h2
  · intro k hk
    have : ι[k]? = none := by simpa using hk
    simp [calleeLoc, this]
  · intro j B hB
    simp only [List.getElem?_map, Option.map_eq_some_iff] at hB
    obtain ⟨k, hk, rfl⟩ := hB
    have hkl := hlt k (List.mem_of_getElem? hk)
    have hb : h[k]? = some (blk h k) := by simp [blk, List.getD_eq_getElem?_getD, List.getElem?_eq_getElem hkl]
    exact renBK_rep (fun b hb => ⟨hb.1, fun ho => hb.2.1 (callee_own ho), hb.2.2⟩) (fun b hb => callee_len hb) (fun k' j' hp _ => callee_at (pos_some hp)) (callee_at hk) (hr.blk k _ hb)
  · intro j hj
    unfold calleeLoc at hj ⊢
    split at hj
    · exact hr.lt _ hj
    · cases hj
theorem gc_fr {ρ : Nat → Loc} {w : World} {ι : List Nat} : Fr ρ w (calleeLoc ρ ι) w := ⟨rfl, rfl, rfl, Nat.le_refl _, fun _ _ ho => ⟨rfl, fun h => ho (callee_own h)⟩⟩
theorem gc_val {ρ : Nat → Loc} {w : World} {ι : List Nat} {x : V} {val : Value} (h : RepV ρ X w x val) : RepV (calleeLoc ρ ι) X w (renK (pos ι) x) val :=
  renK_rep (fun b hb => ⟨hb.1, fun ho => hb.2.1 (callee_own ho), hb.2.2⟩) (fun b hb => callee_len hb) (fun k' j' hp _ => callee_at (pos_some hp)) x val h
theorem keepN_get {n : Nat} {h : List Blk} {names : List Nat} {k : Nat} (hk : k < n) : (keepN n h names)[k]? = some k := by
  unfold keepN
  rw [List.getElem?_append_left (by simpa using hk)]
  simp [hk]
theorem numB_ok {L : List Nat} {h : List Blk} {n : Nat} (hb : numB L h n = true) : L.Nodup ∧ (∀ k ∈ L, k < h.length) ∧ n ≤ h.length := by
  unfold numB at hb
  simp only [Bool.and_eq_true, List.all_eq_true, Nat.blt_eq, Nat.ble_eq] at hb
  exact ⟨nodup_of hb.1.1, hb.1.2, hb.2⟩
theorem gcD_ok {n0 : Nat} (hfn : ∀ k ∈ fx, k < n0) {p q : Pt} (h : gcD fx n0 p = some q) {a : Act} {w : World} (hg : GoodT ρ0 X w0 fx N p a w) : GoodT ρ0 X w0 fx N q a w := by
  unfold gcD at h
  split at h
  · simp only [Option.some.injEq] at h
    subst h
    exact hg
  generalize hL : keepN n0 p.2 p.1.namesT = L at h
  unfold gcK at h
  simp only at h
  split at h
  · rename_i hc
    simp only [Bool.and_eq_true] at hc
    simp only [Option.some.injEq] at h
    subst h
    obtain ⟨hn, hlt, _⟩ := numB_ok hc.1
    obtain ⟨e, b, he, ρ, ⟨⟨hf, h1⟩, hk⟩, ⟨hr, hre⟩, h5, h6⟩ := hg
    refine ⟨(p.1.ren (pos L)).toEnv, 0, toEnv_get _, calleeLoc ρ L, ⟨⟨hf.trans gc_fr, fun k hk' => ?_⟩, keep_of hc.2⟩, ⟨gc_rep hr hn hlt, fun i => ?_⟩, h5, h6.fr gc_fr⟩
    · rw [callee_at (by rw [← hL]; exact keepN_get (hfn k hk'))]
      exact h1 k hk'
    · rw [toEnv_get, Tr.get_ren, ← he]
      exact gc_val (hre i)
  · cases h
theorem ofEnv_get : ∀ (e : Env) (i : Nat), (ofEnv e).get i = get e i
  | [], _ => rfl
  | (j, x) :: r, i => by
    simp only [ofEnv, forceNat_eq, putT, forceV_eq]
    rw [Tr.get_put _ _ _ _ _ (Nat.lt_succ_self j), ofEnv_get r i]
    rfl
theorem setPsT_get : ∀ (ps : List Nat) (xs : List V) (e : Env) (E : Tr), (∀ i, get e i = E.get i) → ∀ i, get (setPs ps xs e) i = (setPsT ps xs E).get i
  | [], [], _, _, he, i => he i
  | [], _ :: _, _, _, he, i => he i
  | _ :: _, [], _, _, he, i => he i
  | p :: ps, x :: xs, e, E, he, i => by
    simp only [setPs, setPsT]
    refine setPsT_get ps xs _ _ (fun j => ?_) i
    simp only [putT, forceV_eq]
    rw [Tr.get_put _ _ _ _ _ (Nat.lt_succ_self p), ← he j]
    rfl
def Out.K (Nn : St → Prop) (Xx : Nat → St → Prop) (Rr : St → Prop) : Out → Prop
  | .normal q => ∀ b, AT b q Nn
  | .exit j q => ∀ b, AT b q (Xx j)
  | .ret q => ∀ b, AT b q Rr
def CwA (call : CallD) (mvf : FuncId → Option Nat) (iter : ItD) (C : Ctr) (it : Itr) (l : LCode) : Cx → (St → Prop) → (Nat → St → Prop) → (St → Prop) → St → Prop := fun cx Nn Xx Rr s =>
  ∃ (n0 : Nat) (yd : Nat → YtD) (E : Tr) (outs : List Out), (cx.C = C ∧ cx.it = it ∧ cx.bn = []) ∧ (∀ k ∈ cx.fx, k < n0) ∧ YdOk yd cx.y ∧ (∀ i, get s.e i = E.get i) ∧ cw call mvf iter l cx.fx n0 yd cx.rk (E, s.h) = some outs ∧ ∀ o ∈ outs, o.K Nn Xx Rr
def ItOk (P : Program) (iter : ItD) : Prop := ∀ f zas fx k yd h hs, iter f zas fx k yd h = some hs → Callable P f ∧ ∀ (Y : Yt) (K : List Blk → Prop),
  (∀ xs E h b rs Z, yd xs (E, h) = some rs → (∀ r ∈ rs, AT b r.2 (Z r.1)) → Y xs ⟨E.toEnv, h, b⟩ Z) → (∀ h' ∈ hs, K h') → Iter P f zas fx k Y h K
section
variable {call : CallD} {mvf : FuncId → Option Nat} {iter : ItD}
def CW (P : Program) (X : Nat → Prop) (N : Nat) (call : CallD) (mvf : FuncId → Option Nat) (iter : ItD) (c : Code) : Prop :=
  ∀ (l0 l : LCode), rlC P N c l0 = some l → ∀ (r : Option Nat) (fx : List Nat) (yy : Nat → Yt) (rk : Option Nat) (ρ0 : Nat → Loc) (w0 : World), (r = none ∨ (codeRd c = true ∧ inRd l = true)) →
    ROk r ⟨fun f zas h0 mv R => Callable P f ∧ Fn P f zas h0 mv R, fx, [], fun f zas fx k Y h K => Callable P f ∧ Iter P f zas fx k Y h K, yy, rk⟩ ρ0 → (∀ k, YOk P ρ0 X w0 fx k (yy k)) →
    ∀ (n0 : Nat) (yd : Nat → YtD), (∀ k ∈ fx, k < n0) → YdOk yd yy → ∀ (Q : Exit → Act → World → Prop), ¬ LetsOut Q → ∀ (p : Pt) (outs : List Out), cw call mvf iter l fx n0 yd rk p = some outs →
      (∀ o ∈ outs, ∀ a w, GoodT ρ0 X w0 fx N o.pt a w → Q o.ex a w) → ∀ a w, GoodT ρ0 X w0 fx N p a w → c.wpIn (FR r) 0 P Q a w
theorem CW.snd {c : Code} (h : CW P X N call mvf iter c) {l0 l : LCode} (hm : rlC P N c l0 = some l) :
    SndA P X N c (codeRd c = true ∧ inRd l = true) (CwA call mvf iter (fun f zas h0 mv R => Callable P f ∧ Fn P f zas h0 mv R) (fun f zas fx k Y h K => Callable P f ∧ Iter P f zas fx k Y h K) l) := by
  intro r cx ρ0 w0 hcx hrd hro hy Q Nn Xx Rr hQo hN hX hR s a w ⟨n0, yd, E, outs, ⟨h1, h2, h3⟩, h4, h5, h6, h7, h8⟩ hg
  obtain ⟨C, fx, bn, it, y, rk⟩ := cx
  simp only at h1 h2 h3 h4 h5 h7 hy hg
  subst h1 h2 h3
  refine h l0 l hm r fx y rk ρ0 w0 hrd hro hy n0 yd h4 h5 Q hQo (E, s.h) outs h7 (fun o ho a w hgd => ?_) a w ⟨s.e, s.b, h6, hg⟩
  obtain ⟨e, b, he, hgd⟩ := hgd
  have := h8 o ho
  cases o with
  | normal q => exact hN _ _ _ (this b e he) hgd
  | exit j q => exact hX j _ _ _ (this b e he) hgd
  | ret q => exact hR _ _ _ (this b e he) hgd
theorem cw_rfn (hP : P.follows .mixedOrders = true) (hcall : ∀ f zas h0 mv r h', call f zas h0 mv = some (r, h') → Callable P f ∧ Fn P f zas h0 mv (fun r1 h1 => r1 = r ∧ h1 = h')) (hiter : ItOk P iter)
    {g : Operand} {ps : Array Tmp} {asg body : Code} (ha : CW P X N call mvf iter asg) (hb : CW P X N call mvf iter body) : CW P X N call mvf iter (.rangeFunc g ps asg body) := by
  intro l0 l hm r fx yy rk ρ0 w0 hrd hro hy n0 yd hfn hyd Q hQo p outs hd hQ a w hg
  cases l0 with
  | rfn g' ps' la0 lb0 =>
    simp only [rlC] at hm
    split at hm
    · rename_i la lb hma hmb
      split at hm
      · rename_i hc
        simp only [Bool.and_eq_true] at hc
        simp only [Option.some.injEq] at hm
        subst hm
        obtain ⟨⟨hps, hcd⟩, hin⟩ := hc
        have hps' : ∀ p ∈ ps.toList, p < N := fun p hp => by simpa using List.all_eq_true.1 hps p hp
        obtain ⟨e0, b0, he0, hg⟩ := hg
        have hg1 : Good ρ0 X w0 fx N ⟨p.1.toEnv, p.2, b0⟩ a w := by
          obtain ⟨ρ, g1, ⟨g2, g3⟩, g4⟩ := hg
          exact ⟨ρ, g1, ⟨g2, fun i => by rw [toEnv_get, ← he0]; exact g3 i⟩, g4⟩
        have hfx1 : ∀ n, p.2.length < n → ∀ j ∈ n :: p.2.length :: fx, j < n + 1 := by
          intro n hn j hj
          obtain ⟨ρ, ⟨_, hkp⟩, _⟩ := hg
          rcases List.mem_cons.1 hj with rfl | hj
          · omega
          · rcases List.mem_cons.1 hj with rfl | hj
            · omega
            · have := keepP_get hkp j hj
              unfold liveP at this
              rcases Nat.lt_or_ge j p.2.length with h | h
              · omega
              · rw [List.getElem?_eq_none h] at this
                exact this.elim
        have hS := rfn_okA (g := g) (ha.snd hma) (hb.snd hmb) ⟨(by simpa using hcd : _ ∧ _).1, (by simpa using hin : _ ∧ _).1⟩ ⟨(by simpa using hcd : _ ∧ _).2, (by simpa using hin : _ ∧ _).2⟩ hps'
        refine hS r ⟨_, fx, [], _, yy, rk⟩ ρ0 w0 ⟨fun f zas h0 mv R h => h, fun f zas fx k Y h K h => h⟩ (hrd.imp id fun _ => trivial) hro hy Q
          (fun s => ∃ q, Out.normal q ∈ outs ∧ (∀ i, get s.e i = q.1.get i) ∧ s.h = q.2) (fun j s => ∃ q, Out.exit j q ∈ outs ∧ (∀ i, get s.e i = q.1.get i) ∧ s.h = q.2) (fun s => ∃ q, Out.ret q ∈ outs ∧ (∀ i, get s.e i = q.1.get i) ∧ s.h = q.2) hQo ?_ ?_ ?_ _ a w ?_ hg1
        · rintro ⟨e, h, b⟩ a w ⟨q, h1, h2, rfl⟩ hgd
          exact hQ _ h1 a w ⟨e, b, h2, hgd⟩
        · rintro j ⟨e, h, b⟩ a w ⟨q, h1, h2, rfl⟩ hgd
          exact hQ _ h1 a w ⟨e, b, h2, hgd⟩
        · rintro ⟨e, h, b⟩ a w ⟨q, h1, h2, rfl⟩ hgd
          exact hQ _ h1 a w ⟨e, b, h2, hgd⟩
        · simp only [cw] at hd
          simp only [ev_ok (toEnv_get p.1)]
          split at hd
          · rename_i gf caps hcl
            try rw [hcl]
            try simp only
            split at hd
            · rename_i hir
              simp only [forceNat_eq] at hd
              obtain ⟨hs, h1, h2⟩ := bindL_ok hd
              obtain ⟨hcb, h3⟩ := hiter _ _ _ _ _ _ _ h1
              refine ⟨?_, hcb, h3 _ _ ?_ ?_⟩
              · unfold inRdB at hir
                unfold inRdP
                split at hir
                · trivial
                · split at hir
                  · rename_i hk
                    simp only [rcdK, hk]
                  · cases hir
              · intro xs E h b rs Z hrs hZ
                simp only [rndD] at hrs
                split at hrs
                · rename_i e hk
                  split at hrs
                  · rename_i hlen
                    obtain ⟨os, h4, h5⟩ := bindL_ok hrs
                    obtain ⟨oa, h6, h7⟩ := bindL_ok h4
                    simp only [rcdK, hk]
                    refine ⟨trivial, hlen, h.length + 1, _, _, oa, ⟨rfl, rfl, rfl⟩, ?_, (fun _ _ _ _ _ _ _ h _ => by simp at h), setPsT_get _ _ _ _ (fun i => (ofEnv_get e i).symm), h6, fun o ho => ?_⟩
                    · exact hfx1 h.length (List.getElem?_eq_some_iff.1 hk).1
                    · obtain ⟨zs, h8, h9⟩ := h7 o ho
                      cases o with
                      | normal q =>
                        simp only [begRdD] at h8
                        split at h8
                        · rename_i e' hk'
                          intro b' ea hea
                          simp only [begRd, rcdK, hk']
                          refine ⟨trivial, h.length + 1, _, _, zs, ⟨rfl, rfl, rfl⟩, ?_, (fun _ _ _ _ _ _ _ h _ => by simp at h), hea, h8, fun o2 ho2 => ?_⟩
                          · exact hfx1 h.length (List.getElem?_eq_some_iff.1 hk).1
                          · obtain ⟨zs2, h10, h11⟩ := h5 o2 (h9 o2 ho2)
                            have key : ∀ (bb : Bool) (t : RS) (q2 : Pt), endRdD p.2.length h.length bb t q2 = some zs2 → ∀ b2, AT b2 q2 (endRd p.2.length h.length b Z bb t) := by
                              intro bb t q2 hq2 b2 e2 he2
                              simp only [endRdD] at hq2
                              split at hq2
                              · rename_i er hkr
                                split at hq2
                                · rename_i eg hkg
                                  simp only [Option.some.injEq] at hq2
                                  subst hq2
                                  simp only [endRd, rcdK, hkr, hkg]
                                  exact ⟨trivial, trivial, hZ _ (h11 _ (List.mem_singleton_self _)) _ fun i => (ofEnv_get eg i).symm⟩
                                · cases hq2
                              · cases hq2
                            cases o2 with
                            | normal q2 => exact fun b2 => key _ _ _ h10 b2
                            | exit j q2 => exact fun b2 => key _ _ _ h10 b2
                            | ret q2 => exact fun b2 => key _ _ _ h10 b2
                        · cases h8
                      | exit j q => simp [begRdD] at h8
                      | ret q => simp [begRdD] at h8
                  · cases hrs
                · cases hrs
              · intro h' hh'
                obtain ⟨zs, h4, h5⟩ := h2 h' hh'
                simp only [endLpD] at h4
                split at h4
                · rename_i t e hk
                  split at h4
                  · rename_i hw
                    simp only [Bool.and_eq_true] at hw
                    simp only [endLp, rcdK, hk]
                    refine ⟨⟨wfEB_ok _ hw.1, wfBB_ok _ hw.2⟩, ?_⟩
                    split at h4
                    · simp only [Option.some.injEq] at h4
                      subst h4
                      exact ⟨_, h5 _ (List.mem_singleton_self _), fun i => (ofEnv_get e i).symm, rfl⟩
                    · simp only [Option.some.injEq] at h4
                      subst h4
                      exact ⟨_, h5 _ (List.mem_singleton_self _), fun i => (ofEnv_get e i).symm, rfl⟩
                    · simp only [Option.some.injEq] at h4
                      subst h4
                      exact ⟨_, h5 _ (List.mem_singleton_self _), fun i => (ofEnv_get e i).symm, rfl⟩
                    · cases h4
                  · cases h4
                · cases h4
            · cases hd
          · cases hd
      · cases hm
    · cases hm
  | _ => simp [rlC] at hm
theorem cw_sound (hP : P.follows .mixedOrders = true) (hcall : ∀ f zas h0 mv r h', call f zas h0 mv = some (r, h') → Callable P f ∧ Fn P f zas h0 mv (fun r1 h1 => r1 = r ∧ h1 = h')) (hiter : ItOk P iter) : ∀ c : Code, CW P X N call mvf iter c := by
  have hcl : ∀ f zas h0 mv r h', call f zas h0 mv = some (r, h') → (fun f zas h0 mv R => Callable P f ∧ Fn P f zas h0 mv R) f zas h0 mv (fun r1 h1 => r1 = r ∧ h1 = h') := hcall
  have hcx : ∀ (fx : List Nat) (yy : Nat → Yt) (rk : Option Nat), Cx.ok ⟨fun f zas h0 mv R => Callable P f ∧ Fn P f zas h0 mv R, fx, [], fun f zas fx k Y h K => Callable P f ∧ Iter P f zas fx k Y h K, yy, rk⟩ P := fun _ _ _ => ⟨fun f zas h0 mv R h => h, fun f zas fx k Y h K h => h⟩
  intro c
  induction c with
  | skip =>
    intro l0 l hm r fx yy rk ρ0 w0 hrd hro hy n0 yd hfn hyd Q hQo p outs hd hQ a w hg
    simp only [rlC, Option.some.injEq] at hm
    subst hm
    simp only [cw, Option.some.injEq] at hd
    subst hd
    exact wpIn_skip (hQ (.normal p) (by simp) a w hg)
  | label i =>
    intro l0 l hm r fx yy rk ρ0 w0 hrd hro hy n0 yd hfn hyd Q hQo p outs hd hQ a w hg
    simp only [rlC, Option.some.injEq] at hm
    subst hm
    simp only [cw, Option.some.injEq] at hd
    subst hd
    exact wpIn_label (hQ (.normal p) (by simp) a w hg)
  | scope c ih =>
    intro l0 l hm r fx yy rk ρ0 w0 hrd hro hy n0 yd hfn hyd Q hQo p outs hd hQ a w hg
    simp only [rlC] at hm
    rcases hrd with rfl | hrd
    · refine (wpIn_wide (n := 0)).2 (wp_scope_straight ((wpIn_wide (n := 0)).1 (ih l0 l hm none fx yy rk ρ0 w0 (.inl rfl) hro hy n0 yd hfn hyd (Exit.noGoto Q) (fun ⟨a, w, hq⟩ => hQo ⟨a, w, hq⟩) p outs hd (fun o ho a w h => ?_) a w hg)))
      have := hQ o ho a w h
      cases o <;> exact this
    · exact absurd hrd.1 (by simp [codeRd])
  | ret =>
    intro l0 l hm r fx yy rk ρ0 w0 hrd hro hy n0 yd hfn hyd Q hQo p outs hd hQ a w hg
    simp only [rlC, Option.some.injEq] at hm
    subst hm
    simp only [cw, Option.some.injEq] at hd
    subst hd
    exact wpIn_ret (hQ (.ret p) (by simp) a w hg)
  | exit i =>
    intro l0 l hm r fx yy rk ρ0 w0 hrd hro hy n0 yd hfn hyd Q hQo p outs hd hQ a w hg
    simp only [rlC, Option.some.injEq] at hm
    subst hm
    simp only [cw, Option.some.injEq] at hd
    subst hd
    exact wpIn_exit (hQ (.exit i p) (by simp) a w hg)
  | region id ops draw =>
    intro l0 l hm r fx yy rk ρ0 w0 hrd hro hy n0 yd hfn hyd Q hQo p outs hd hQ a w hg
    have hdf : r = none ∨ ops.toList.all notDefer = true := hrd.imp (fun h => h) fun h => h.1
    have hN : ∀ {ps : List Pt}, outs = ps.map .normal → ∀ (s : St) a w, (∃ q ∈ ps, (∀ i, get s.e i = q.1.get i) ∧ s.h = q.2) → Good ρ0 X w0 fx N s a w → Q .normal a w := by
      rintro ps rfl s a w ⟨q, hq, h1, h2⟩ hg
      exact hQ (.normal q) (by rw [List.mem_map]; exact ⟨q, hq, rfl⟩) a w ⟨s.e, s.b, h1, by show Good ρ0 X w0 fx N ⟨s.e, q.2, s.b⟩ a w; rw [← h2]; exact hg⟩
    simp only [rlC] at hm
    split at hm
    · split at hm
      · rename_i x hr
        simp only [Option.some.injEq] at hm
        subst hm
        simp only [cw, Option.map_eq_some_iff] at hd
        obtain ⟨ps, h1, h2⟩ := hd
        obtain ⟨e, he, hgr⟩ := hg.reserve _
        exact wpIn_region_list (listIn hQo _ (hdf.imp (fun h => h) fun h => List.all_eq_true.1 h) _ _ (aOps_sound (hcx fx yy rk) rfl (hN h2.symm) _ _ _ _ a w hr hgr (opsD_ok hcl h1 he fun q hq e' he' => ⟨q, hq, he', rfl⟩)))
      · cases hm
    · split at hm
      · rename_i x hr
        split at hm
        · rename_i hc
          simp only [Bool.and_eq_true] at hc
          simp only [Option.some.injEq] at hm
          subst hm
          rcases hrd with rfl | hrd
          · simp only [cw, Option.map_eq_some_iff] at hd
            obtain ⟨ps, h1, h2⟩ := hd
            obtain ⟨e, he, hgr⟩ := hg.reserve _
            exact (wpIn_wide (n := 0)).2 (qui_sound (cx := ⟨fun f zas h0 mv R => Callable P f ∧ Fn P f zas h0 mv R, fx, [], fun f zas fx k Y h K => Callable P f ∧ Iter P f zas fx k Y h K, yy, rk⟩) hP (hN h2.symm) hr hc.1 hc.2 hgr (opsD_ok hcl h1 he fun q hq e' he' => ⟨q, hq, he', rfl⟩))
          · exact absurd hrd.2 (by simp [inRd])
        · cases hm
      · cases hm
    · split at hm
      · rename_i x hr
        split at hm
        · rename_i hc
          simp only [Bool.and_eq_true] at hc
          simp only [Option.some.injEq] at hm
          subst hm
          rcases hrd with rfl | hrd
          · simp only [cw, Option.map_eq_some_iff] at hd
            obtain ⟨ps, h1, h2⟩ := hd
            obtain ⟨e, he, hgr⟩ := hg.reserve _
            exact (wpIn_wide (n := 0)).2 (tail_sound hP (hcx fx yy rk) rfl (hN h2.symm) hr hc.1 hc.2 hgr (opsD_ok hcl h1 he fun q hq e' he' => ⟨q, hq, he', rfl⟩))
          · exact absurd hrd.2 (by simp [inRd])
        · cases hm
      · cases hm
    · split at hm
      · rename_i x hr
        simp only [Option.some.injEq] at hm
        subst hm
        simp only [cw] at hd
        split at hd
        · cases hd
        · rename_i ps h1
          simp only [Option.map_eq_some_iff] at hd
          obtain ⟨js, h2, h3⟩ := hd
          obtain ⟨e, he, hgr⟩ := hg.reserve _
          refine tree_in hP (hcx fx yy rk) hQo (K := fun s => ∃ q ∈ ps, (∀ i, get s.e i = q.1.get i) ∧ s.h = q.2) ?_ hdf hr hgr (planD_ok hcl h1 he fun q hq e' he' => ⟨q, hq, he', rfl⟩)
          rintro s a w ⟨q, hq, h4, h5⟩ hg
          obtain ⟨j, hj, hgj⟩ := joinD_ok h2 hq (⟨s.e, s.b, h4, by rw [← h5]; exact hg⟩ : GoodT ρ0 X w0 fx N q a w)
          subst h3
          exact hQ (.normal j) (by rw [List.mem_map]; exact ⟨j, hj, rfl⟩) a w hgj
      · cases hm
    · split at hm
      · rename_i x hr
        split at hm
        · rename_i hc
          simp only [Option.some.injEq] at hm
          subst hm
          rcases hrd with rfl | hrd
          · simp only [cw, Option.map_eq_some_iff] at hd
            obtain ⟨ps, h1, h2⟩ := hd
            obtain ⟨e, he, hgr⟩ := hg.reserve _
            have hops := opsYD_ok (C := fun f zas h0 mv R => Callable P f ∧ Fn P f zas h0 mv R) (it := fun f zas fx k Y h K => Callable P f ∧ Iter P f zas fx k Y h K) (rk := rk) (K := fun s => ∃ q ∈ ps, (∀ i, get s.e i = q.1.get i) ∧ s.h = q.2) hcl hyd h1 he fun q hq e' he' => ⟨q, hq, he', rfl⟩
            cases draw with
            | false => exact wpIn_region_list (aOpsY_sound (hcx fx yy rk) hy (hN h2.symm) _ _ _ _ a w hr hgr hops)
            | true =>
              simp only [Bool.not_true, Bool.false_or, Bool.and_eq_true] at hc
              exact yreg_in hP (hcx fx yy rk) hy hQo (hN h2.symm) hr hc.1 hc.2 hgr hops
          · exact absurd hrd.2 (by simp [inRd])
        · cases hm
      · cases hm
    · simp only [Option.some.injEq] at hm
      subst hm
      simp [cw] at hd
    · cases hm
  | seq x y iha ihb =>
    intro l0 l hm r fx yy rk ρ0 w0 hrd hro hy n0 yd hfn hyd Q hQo p outs hd hQ a w hg
    have key : ∀ {x' y' lx ly : LCode} {p : Pt}, rlC P N x lx = some x' → rlC P N y ly = some y' → (r = none ∨ (codeRd x = true ∧ inRd x' = true)) → (r = none ∨ (codeRd y = true ∧ inRd y' = true)) →
        andD (cw call mvf iter x' fx n0 yd rk p) (cw call mvf iter y' fx n0 yd rk) = some outs → GoodT ρ0 X w0 fx N p a w → (Code.seq x y).wpIn (FR r) 0 P Q a w := by
      intro x' y' lx ly p h1 h2 hra hrb hd hg
      unfold andD at hd
      obtain ⟨os, h3, h4⟩ := bindL_ok hd
      refine wpIn_seq (iha _ _ h1 r fx yy rk ρ0 w0 hra hro hy n0 yd hfn hyd _ (LetsOut_then hQo) p os h3 (fun o ho a w h => ?_) a w hg)
      obtain ⟨zs, h5, h6⟩ := h4 o ho
      cases o with
      | normal q => exact ihb _ _ h2 r fx yy rk ρ0 w0 hrb hro hy n0 yd hfn hyd Q hQo q zs h5 (fun o ho => hQ o (h6 o ho)) a w h
      | exit j q =>
        simp only [Option.some.injEq] at h5
        subst h5
        exact hQ _ (h6 _ (by simp)) a w h
      | ret q =>
        simp only [Option.some.injEq] at h5
        subst h5
        exact hQ _ (h6 _ (by simp)) a w h
    simp only [rlC] at hm
    split at hm
    · split at hm
      · rename_i x' y' h1 h2
        simp only [Option.some.injEq] at hm
        subst hm
        exact key h1 h2 (hrd.imp (fun h => h) fun h => by simp only [codeRd, inRd, Bool.and_eq_true] at h; exact ⟨h.1.1, h.2.1⟩) (hrd.imp (fun h => h) fun h => by simp only [codeRd, inRd, Bool.and_eq_true] at h; exact ⟨h.1.2, h.2.2⟩) hd hg
      · cases hm
    · split at hm
      · rename_i x' y' h1 h2
        simp only [Option.some.injEq] at hm
        subst hm
        simp only [cw] at hd
        split at hd
        · rename_i q hf
          obtain ⟨e, b, he, hgd⟩ := hg
          obtain ⟨s', ⟨g1, g2⟩, hgd'⟩ := frzP_good (K := fun s => (∀ i, get s.e i = q.1.get i) ∧ s.h = q.2) _ _ (frzD_ok (b := b) _ p.1 p.2 e he hf fun e' he' => ⟨he', rfl⟩) hgd
          exact key h1 h2 (hrd.imp (fun h => h) fun h => by simp only [codeRd, inRd, Bool.and_eq_true] at h; exact ⟨h.1.1, h.2.1⟩) (hrd.imp (fun h => h) fun h => by simp only [codeRd, inRd, Bool.and_eq_true] at h; exact ⟨h.1.2, h.2.2⟩) hd ⟨s'.e, s'.b, g1, by rw [← g2]; exact hgd'⟩
        · cases hd
      · cases hm
    · simp only [Option.some.injEq] at hm
      subst hm
      simp [cw] at hd
    · cases hm
  | cond c x y iha ihb =>
    intro l0 l hm r fx yy rk ρ0 w0 hrd hro hy n0 yd hfn hyd Q hQo p outs hd hQ a w hg
    simp only [rlC] at hm
    split at hm
    · split at hm
      · rename_i x' y' h1 h2
        simp only [Option.some.injEq] at hm
        subst hm
        have hra : r = none ∨ (codeRd x = true ∧ inRd x' = true) := hrd.imp (fun h => h) fun h => by simp only [codeRd, inRd, Bool.and_eq_true] at h; exact ⟨h.1.1, h.2.1⟩
        have hrb : r = none ∨ (codeRd y = true ∧ inRd y' = true) := hrd.imp (fun h => h) fun h => by simp only [codeRd, inRd, Bool.and_eq_true] at h; exact ⟨h.1.2, h.2.2⟩
        simp only [cw] at hd
        have hev : ∀ t, evT p.1 c = .v (.bool t) → a.eval c = .bool t := by
          intro t ht
          obtain ⟨e, b, he, ρ, _, ⟨_, hre⟩, _⟩ := hg
          have := ev_rep hre c
          rw [ev_ok he, ht] at this
          exact this
        split at hd
        · rename_i ht
          refine wpIn_cond (hev _ ht) ?_
          exact iha _ _ h1 r fx yy rk ρ0 w0 hra hro hy n0 yd hfn hyd Q hQo p outs hd hQ a w hg
        · rename_i ht
          refine wpIn_cond (hev _ ht) ?_
          exact ihb _ _ h2 r fx yy rk ρ0 w0 hrb hro hy n0 yd hfn hyd Q hQo p outs hd hQ a w hg
        · cases hd
      · cases hm
    · cases hm
  | block i x iha =>
    intro l0 l hm r fx yy rk ρ0 w0 hrd hro hy n0 yd hfn hyd Q hQo p outs hd hQ a w hg
    simp only [rlC] at hm
    split at hm
    · split at hm
      · rename_i x' h1
        simp only [Option.some.injEq] at hm
        subst hm
        simp only [cw, blockD] at hd
        split at hd
        · cases hd
        · rename_i os h2
          split at hd
          · cases hd
          · rename_i ps h3
            simp only [Option.some.injEq] at hd
            subst hd
            have hnorm : ∀ q a w, Out.normal q ∈ os.map (leave i) → GoodT ρ0 X w0 fx N q a w → Q .normal a w := by
              intro q a w hq hgq
              obtain ⟨j, hj, hgj⟩ := joinD_ok h3 (norms_mem hq) hgq
              exact hQ (.normal j) (by simp only [List.mem_append, List.mem_map]; exact .inl ⟨j, hj, rfl⟩) a w hgj
            refine wpIn_block (iha _ _ h1 r fx yy rk ρ0 w0 hrd hro hy n0 yd hfn hyd (Exit.inBlock i Q) (fun ⟨a, w, hq⟩ => hQo ⟨a, w, hq⟩) p os h2 (fun o ho a w h => ?_) a w hg)
            cases o with
            | normal q => exact hnorm q a w (by rw [List.mem_map]; exact ⟨_, ho, rfl⟩) h
            | exit j q =>
              show if j = i then _ else _
              split
              · rename_i hj
                exact hnorm q a w (by rw [List.mem_map]; exact ⟨_, ho, by simp [leave, hj]⟩) h
              · rename_i hj
                exact hQ (.exit j q) (List.mem_append_right _ (others_mem (by rw [List.mem_map]; exact ⟨_, ho, by simp [leave, hj]⟩) (by simp))) a w h
            | ret q => exact hQ (.ret q) (List.mem_append_right _ (others_mem (by rw [List.mem_map]; exact ⟨_, ho, rfl⟩) (by simp))) a w h
      · cases hm
    · cases hm
  | loop x iha =>
    intro l0 l hm r fx yy rk ρ0 w0 hrd hro hy n0 yd hfn hyd Q hQo p outs hd hQ a w hg
    simp only [rlC] at hm
    split at hm
    · split at hm
      · rename_i x' h1
        simp only [Option.some.injEq] at hm
        subst hm
        simp only [cw] at hd
        refine wpIn_loop_ghost (fun n a w => ∃ q zs, loopD fx n0 (cw call mvf iter x' fx n0 yd rk) n q = some zs ∧ (∀ z ∈ zs, z ∈ outs) ∧ GoodT ρ0 X w0 fx N q a w) 3000 ⟨p, outs, hd, fun _ h => h, hg⟩ ?_
        rintro n a' w' ⟨q, zs, h2, h3, hgq⟩
        cases n with
        | zero => simp [loopD] at h2
        | succ n =>
          simp only [loopD, andD] at h2
          split at h2
          rotate_left
          · cases h2
          rename_i qg hqg
          have hgq' := gcD_ok hfn hqg hgq
          obtain ⟨os, h4, h5⟩ := bindL_ok h2
          refine iha _ _ h1 r fx yy rk ρ0 w0 hrd hro hy n0 yd hfn hyd _ (LetsOut_then hQo) qg os h4 (fun o ho a w h => ?_) a' w' hgq'
          obtain ⟨ys, h6, h7⟩ := h5 o ho
          cases o with
          | normal q' => exact ⟨n, Nat.lt_succ_self n, q', ys, h6, fun z hz => h3 z (h7 z hz), h⟩
          | exit j q' =>
            simp only [Option.some.injEq] at h6
            subst h6
            exact hQ _ (h3 _ (h7 _ (by simp))) a w h
          | ret q' =>
            simp only [Option.some.injEq] at h6
            subst h6
            exact hQ _ (h3 _ (h7 _ (by simp))) a w h
      · cases hm
    · cases hm
  | rangeFunc g ps asg body iha ihb => exact cw_rfn hP hcall hiter iha ihb
  | _ => intro l0 l hm; simp [rlC] at hm
end
theorem resD_ok {p : Pt} {e : Env} (he : ∀ i, get e i = p.1.get i) {K : List V → Prop} : ∀ (ls : List LRes) (acc xs : List V), resD p ls = some xs → K (acc.reverse ++ xs) → resP p.2 e ls acc K
  | [], acc, xs, h, hK => by
    simp only [resD, Option.some.injEq] at h
    subst h
    simpa [resP] using hK
  | .tmp t :: r, acc, xs, h, hK => by
    simp only [resD] at h
    split at h
    · rename_i ys hy
      simp only [Option.some.injEq] at h
      subst h
      simp only [resP, he]
      exact resD_ok he r _ ys hy (by simpa using hK)
    · cases h
  | .cell a n :: r, acc, xs, h, hK => by
    simp only [resD] at h
    split at h
    · rename_i x ys hx hy
      simp only [Option.some.injEq] at h
      subst h
      simp only [resP, he]
      exact load_ok (K := fun x => resP p.2 e r (x :: acc) K) hx (resD_ok he r _ ys hy (by simpa using hK))
    · cases h
theorem argsT_get : ∀ (i : Nat) (xs : List V) (E : Tr) (j : Nat), (argsT i xs E).get j = if i ≤ j ∧ j < i + xs.length then (xs[j - i]?).getD .any else E.get j
  | i, [], E, j => by
    simp only [argsT, List.length_nil, Nat.add_zero]
    rw [if_neg (by omega)]
  | i, x :: r, E, j => by
    simp only [argsT]
    rw [argsT_get (i + 1) r]
    simp only [putT, forceV_eq, List.length_cons]
    rw [Tr.get_put _ _ _ _ _ (Nat.lt_succ_self i)]
    by_cases h : j = i
    · subst h
      rw [if_neg (by omega), if_pos rfl, if_pos (by omega)]
      simp
    · by_cases h2 : i + 1 ≤ j ∧ j < i + 1 + r.length
      · rw [if_pos h2, if_pos (by omega), show j - i = (j - (i + 1)) + 1 by omega]
        simp
      · rw [if_neg h2, if_neg h, if_neg (by omega)]
theorem args_get (xs : List V) (j : Nat) : get (args0 0 xs) j = (argsT 0 xs .lf).get j := by
  rw [args0_get, argsT_get]
  simp only [Nat.zero_le, if_true, Nat.sub_zero, Nat.zero_add, true_and]
  split
  · rfl
  · rename_i h
    have : xs[j]? = none := by simpa using h
    rw [this]
    rfl
theorem body_ok (hP : P.follows .mixedOrders = true) {call : CallD} {mvf : FuncId → Option Nat} {iter : ItD} (hcall : ∀ f zas h0 mv r h', call f zas h0 mv = some (r, h') → Callable P f ∧ Fn P f zas h0 mv (fun r1 h1 => r1 = r ∧ h1 = h')) (hiter : ItOk P iter)
    {f : FuncId} {en : Ent} (hl : rlF P f en.code = some (en.code, en.rs, en.nt)) {args : List V} {h0 : List Blk} {mv : List Nat} {r : V} {h' : List Blk}
    (hd : bodyD call mvf iter en args h0 mv ((List.range h0.length).filter fun k => !(hasN mv k)) = some (r, h')) : Fn P f args h0 mv (fun r1 h1 => r1 = r ∧ h1 = h') := by
  generalize hfxd : ((List.range h0.length).filter fun k => !(hasN mv k)) = fx at hd
  unfold bodyD at hd
  split at hd
  · rename_i hc
    simp only [Bool.and_eq_true, decide_eq_true_eq] at hc
    split at hd
    · rename_i outs hcw
      unfold rlF at hl
      split at hl
      · rename_i fn hf
        split at hl
        · rename_i c rs' hb hres ht
          simp only [Bool.and_eq_true, Bool.not_eq_true', decide_eq_true_eq] at ht
          cases hm : rlC P fn.ntmps c en.code with
          | none => simp [hm] at hl
          | some l1 =>
            simp only [hm, Option.map_some, Option.some.injEq, Prod.mk.injEq] at hl
            obtain ⟨rfl, hrs, hnt⟩ := hl
            have hfx : keepP fx h0 := keep_of hc.2
            have hmv : ∀ k, k < h0.length → k ∉ mv → k ∈ fx := by
              intro k hk hkm
              rw [← hfxd, List.mem_filter]
              refine ⟨by simpa using hk, ?_⟩
              cases hh : hasN mv k with
              | true => exact absurd (hasN_iff.1 hh) hkm
              | false => rfl
            intro ρ X w vals hr ha
            have hvl := RepL_len ha
            refine (callsIn_wide (n := 0)).1 (callsIn_of_wp_marks hf hb trivial ?_)
            have hg : GoodT ρ X w fx fn.ntmps (argsT 0 args .lf, h0) { tmps := vals.toArray ++ Array.replicate (fn.ntmps - vals.toArray.size) undef, defers := [] } w :=
              ⟨args0 0 args, 0, args_get args, ρ, ⟨⟨Fr.refl _ _, fun _ _ => rfl⟩, hfx⟩, ⟨hr, args0_rep ha _⟩, by simp; omega, Marks.nil⟩
            have hend : ∀ p, finD fx h0.length en.rs p = some (r, h') → ∀ s, (∀ i, get s.e i = p.1.get i) → s.h = p.2 → ∀ a w', Good ρ X w fx fn.ntmps s a w' → ∃ v, (results fn a.tmps).run P w' = .ok v w' ∧ ∃ val r1 h1 ρ', Ending.returned v = .returned val ∧ ((r1 = r ∧ h1 = h') ∧ h0.length ≤ h1.length) ∧ Fr ρ w ρ' w' ∧ Rep ρ' X w' h1 ∧ RepV ρ' X w' r1 val ∧
                ∀ k, k < h0.length → k ∉ mv → ρ' k = ρ k := by
              rintro p hfin ⟨e, h, b⟩ he rfl a w' ⟨ρ', ⟨⟨hf1, hfx1⟩, hk1⟩, ⟨hr1, he1⟩, hN1, hd1⟩
              unfold finD at hfin
              split at hfin
              · cases hfin
              · rename_i xs hxs
                generalize hL : keepN h0.length p.2 (namesL xs) = L at hfin
                simp only at hfin
                split at hfin
                · rename_i hcc
                  simp only [Bool.and_eq_true] at hcc
                  simp only [Option.some.injEq, Prod.mk.injEq] at hfin
                  obtain ⟨rfl, rfl⟩ := hfin
                  obtain ⟨hn, hlt, hle⟩ := numB_ok hcc.1
                  obtain ⟨ys, vs, h5, h6, h7⟩ := resP_run hr1 he1 (K := fun ys => ys = xs) fn.results.toList rs' [] [] hres trivial (by rw [hrs]; exact resD_ok he _ [] xs hxs rfl)
                  simp only [List.reverse_nil, List.nil_append] at h5
                  subst h5
                  refine ⟨tupU vs, results_run ht.1 h7, _, _, _, calleeLoc ρ' L, rfl, ⟨⟨rfl, rfl⟩, ?_⟩, hf1.trans gc_fr, gc_rep hr1 hn hlt, gc_val (tup_rep h6), fun k hk hkm => ?_⟩
                  · rw [List.length_map, ← hL]
                    simp [keepN]
                  · rw [callee_at (by rw [← hL]; exact keepN_get hk)]
                    exact hfx1 k (hmv k hk hkm)
                · cases hfin
            have hone : ∀ o ∈ outs, (∃ p, o = .normal p ∨ o = .ret p) ∧ finD fx h0.length en.rs o.pt = some (r, h') := by
              intro o ho
              unfold endD at hd
              split at hd
              · simp only [List.mem_singleton] at ho; subst ho; exact ⟨⟨_, .inl rfl⟩, hd⟩
              · simp only [List.mem_singleton] at ho; subst ho; exact ⟨⟨_, .inr rfl⟩, hd⟩
              · cases hd
            refine cw_sound (P := P) (X := X) (N := fn.ntmps) hP hcall hiter c _ _ hm none fx (fun _ _ _ _ => False) none ρ w (.inl rfl) trivial (fun _ => YOk_none) h0.length _ (fun k hk => by rw [← hfxd, List.mem_filter] at hk; simpa using hk.1)
              (fun _ _ _ _ _ _ _ h _ => by simp at h) _ ?_ _ outs hcw (fun o ho a w' hgd => ?_) _ _ hg
            · rintro ⟨a, w', val, _, _, _, hq, _⟩
              cases hq
            · obtain ⟨⟨p, hp⟩, hfin⟩ := hone o ho
              obtain ⟨e, b, he, hgd⟩ := hgd
              rcases hp with rfl | rfl
              · exact leaves_of (hend p hfin ⟨e, p.2, b⟩ he rfl) a.defers a w' rfl hgd
              · exact leaves_of (hend p hfin ⟨e, p.2, b⟩ he rfl) a.defers a w' rfl hgd
        · cases hl
      · cases hl
    · cases hd
  · cases hd
theorem heapsD_ok : ∀ {outs : List Out} {hs : List (List Blk)}, heapsD outs = some hs → ∀ o ∈ outs, (∃ p, (o = .normal p ∨ o = .ret p) ∧ p.2 ∈ hs)
  | [], _, _, o, ho => by simp at ho
  | x :: r, hs, h, o, ho => by
    simp only [heapsD] at h
    split at h
    · rename_i p l hl
      simp only [Option.some.injEq] at h
      subst h
      rcases List.mem_cons.1 ho with rfl | ho
      · exact ⟨p, .inl rfl, by simp⟩
      · obtain ⟨q, h1, h2⟩ := heapsD_ok hl o ho
        exact ⟨q, h1, by simp [h2]⟩
    · rename_i p l hl
      simp only [Option.some.injEq] at h
      subst h
      rcases List.mem_cons.1 ho with rfl | ho
      · exact ⟨p, .inr rfl, by simp⟩
      · obtain ⟨q, h1, h2⟩ := heapsD_ok hl o ho
        exact ⟨q, h1, by simp [h2]⟩
    · cases h
theorem ibody_ok (hP : P.follows .mixedOrders = true) {call : CallD} {mvf : FuncId → Option Nat} {iter : ItD} (hcall : ∀ f zas h0 mv r h', call f zas h0 mv = some (r, h') → Callable P f ∧ Fn P f zas h0 mv (fun r1 h1 => r1 = r ∧ h1 = h')) (hiter : ItOk P iter)
    {f : FuncId} {en : Ent} (hl : rlF P f en.code = some (en.code, en.rs, en.nt)) {args : List V} {fx : List Nat} {k : Nat} {yd : YtD} {h : List Blk} {hs : List (List Blk)}
    (hd : ibodyD call mvf iter en args fx k yd h = some hs) {Y : Yt} {K : List Blk → Prop}
    (hY : ∀ xs E h b rs Z, yd xs (E, h) = some rs → (∀ r ∈ rs, AT b r.2 (Z r.1)) → Y xs ⟨E.toEnv, h, b⟩ Z) (hK : ∀ h' ∈ hs, K h') : Iter P f args fx k Y h K := by
  unfold ibodyD at hd
  split at hd
  · rename_i hc
    simp only [Bool.and_eq_true, decide_eq_true_eq, List.isEmpty_iff, List.all_eq_true, Nat.blt_eq] at hc
    split at hd
    · rename_i outs hcw
      unfold rlF at hl
      split at hl
      · rename_i fn hf
        split at hl
        · rename_i c rs' hb hres ht
          simp only [Bool.and_eq_true, Bool.not_eq_true', decide_eq_true_eq] at ht
          cases hm : rlC P fn.ntmps c en.code with
          | none => simp [hm] at hl
          | some l1 =>
            simp only [hm, Option.map_some, Option.some.injEq, Prod.mk.injEq] at hl
            obtain ⟨rfl, hrs, hnt⟩ := hl
            have hnil : fn.results.toList = [] := by
              cases hl : fn.results.toList with
              | nil => rfl
              | cons r rs =>
                rw [hrs, hc.1.2] at hres
                rw [hl] at hres
                simp only [rlRes] at hres
                split at hres <;> simp at hres
            intro ρ X w vals hr ha hfx hYk
            have hvl := RepL_len ha
            refine (callsIn_wide (n := 0)).1 (callsIn_of_wp_marks hf hb trivial ?_)
            have hg : GoodT ρ X w fx fn.ntmps (argsT 0 args .lf, h) { tmps := vals.toArray ++ Array.replicate (fn.ntmps - vals.toArray.size) undef, defers := [] } w :=
              ⟨args0 0 args, 0, args_get args, ρ, ⟨⟨Fr.refl _ _, fun _ _ => rfl⟩, hfx⟩, ⟨hr, args0_rep ha _⟩, by simp; omega, Marks.nil⟩
            have hend : ∀ s, K s.h → ∀ a w', Good ρ X w fx fn.ntmps s a w' → ∃ v, (results fn a.tmps).run P w' = .ok v w' ∧ ∃ val h' ρ', Ending.returned v = .returned val ∧ K h' ∧ (Fr ρ w ρ' w' ∧ Rep ρ' X w' h') ∧ (∀ j ∈ fx, ρ' j = ρ j) ∧ keepP fx h' := by
              intro s hK a w' hgood
              obtain ⟨ρ', ⟨⟨hf1, hfx1⟩, hk1⟩, ⟨hr1, he1⟩, hN1, hd1⟩ := hgood
              exact ⟨tupU [], results_run (us := []) (by rw [hnil]; simp) (by rw [hnil]; trivial), _, s.h, ρ', rfl, hK, ⟨hf1, hr1⟩, hfx1, hk1⟩
            refine cw_sound (P := P) (X := X) (N := fn.ntmps) hP hcall hiter c _ _ hm none fx (fun k' xs s Z => k' = k ∧ ∃ E : Tr, (∀ i, get s.e i = E.get i) ∧ Y xs ⟨E.toEnv, s.h, s.b⟩ Z) none ρ w (.inl rfl) trivial (fun k' => ?_) h.length _ hc.2.2 ?_ _ ?_ _ outs hcw (fun o ho a w' hgd => ?_) _ _ hg
            · intro ρ1 w1 s tmps xs vs Z h1 h2 h3 h5 h6 h7
              obtain ⟨rfl, E, hE, h7⟩ := h7
              exact hYk ρ1 w1 ⟨E.toEnv, s.h, s.b⟩ tmps xs vs Z h1 h2 h3 (fun i => by rw [toEnv_get, ← hE]; exact h5 i) h6 h7
            · intro k' xs s E rs Z hs hrs hZ
              simp only at hrs
              split at hrs
              · rename_i hk
                rw [Nat.beq_eq] at hk
                exact ⟨hk, E, hs, hY xs E s.h s.b rs Z hrs hZ⟩
              · cases hrs
            · rintro ⟨a, w', val, _, _, hq, _⟩
              cases hq
            · obtain ⟨p, hp, hin⟩ := heapsD_ok hd o ho
              obtain ⟨e, b, he, hgd⟩ := hgd
              rcases hp with rfl | rfl
              · exact leaves_of (hend ⟨e, p.2, b⟩ (hK _ hin)) a.defers a w' rfl hgd
              · exact leaves_of (hend ⟨e, p.2, b⟩ (hK _ hin)) a.defers a w' rfl hgd
        · cases hl
      · cases hl
    · cases hd
  · cases hd
theorem findM_ok {f : FuncId} {zas : List V} {h0 : List Blk} {r : V} {h : List Blk} : ∀ {M : List Memo}, findM f zas h0 M = some (r, h) → ∃ m ∈ M, m.f = f ∧ m.zas = zas ∧ m.h0 = h0 ∧ m.r = r ∧ m.h = h
  | [], hf => by simp [findM] at hf
  | m :: l, hf => by
    simp only [findM] at hf
    split at hf
    · rename_i hc
      simp only [Bool.and_eq_true, Nat.beq_eq] at hc
      simp only [Option.some.injEq, Prod.mk.injEq] at hf
      exact ⟨m, by simp, hc.1, eqL_ok hc.2.1, eqBs_ok hc.2.2, hf.1, hf.2⟩
    · obtain ⟨m', h1, h2⟩ := findM_ok hf
      exact ⟨m', by simp [h1], h2⟩
def okL (P : Program) : Nat → List (Option Ent) → Prop
  | _, [] => True
  | i, none :: r => okL P (i + 1) r
  | i, some en :: r => rlF P i en.code = some (en.code, en.rs, en.nt) ∧ okL P (i + 1) r
theorem okL_get : ∀ {T : List (Option Ent)} {i : Nat}, okL P i T → ∀ (f : Nat) (en : Ent), T[f]? = some (some en) → rlF P (i + f) en.code = some (en.code, en.rs, en.nt)
  | none :: r, i, h, 0, en, he => by simp at he
  | some e :: r, i, h, 0, en, he => by
    simp only [List.getElem?_cons_zero, Option.some.injEq] at he
    subst he
    exact h.1
  | none :: r, i, h, f + 1, en, he => by
    have := okL_get (i := i + 1) h f en (by simpa using he)
    rwa [show i + (f + 1) = i + 1 + f by omega]
  | some e :: r, i, h, f + 1, en, he => by
    have := okL_get (i := i + 1) h.2 f en (by simpa using he)
    rwa [show i + (f + 1) = i + 1 + f by omega]
  | [], _, _, _, _, he => by simp at he
def Memo.ok (P : Program) (m : Memo) : Prop := Callable P m.f ∧ Fn P m.f m.zas m.h0 [] (fun r h => r = m.r ∧ h = m.h)
theorem fiD_ok (hP : P.follows .mixedOrders = true) {T : List (Option Ent)} (hT : okL P 0 T) {M : List Memo} (hM : ∀ m ∈ M, m.ok P) : ∀ d : Nat,
    (∀ (f : FuncId) (zas : List V) (h0 : List Blk) (mv : List Nat) (r : V) (h' : List Blk), (fiD T M d).1 f zas h0 mv = some (r, h') → Callable P f ∧ Fn P f zas h0 mv (fun r1 h1 => r1 = r ∧ h1 = h')) ∧ ItOk P (fiD T M d).2
  | 0 => ⟨fun _ _ _ _ _ _ h => by simp [fiD] at h, fun _ _ _ _ _ _ _ h => by simp [fiD] at h⟩
  | d + 1 => by
    obtain ⟨ih1, ih2⟩ := fiD_ok hP hT hM d
    refine ⟨fun f zas h0 mv r h' h => ?_, fun f zas fx k yd h hs hd => ?_⟩
    · simp only [fiD] at h
      split at h
      · rename_i x hx
        simp only [Option.some.injEq] at h
        subst h
        split at hx
        · rename_i hmv
          have hmv' : mv = [] := by simpa using hmv
          subst hmv'
          obtain ⟨m, h1, rfl, rfl, rfl, rfl, rfl⟩ := findM_ok hx
          exact hM m h1
        · cases hx
      · split at h
        · rename_i en hen
          have hl := okL_get hT f en hen
          rw [Nat.zero_add] at hl
          exact ⟨rlF_callable hl, body_ok hP ih1 ih2 hl h⟩
        · cases h
    · simp only [fiD] at hd
      split at hd
      · rename_i en hen
        have hl := okL_get hT f en hen
        rw [Nat.zero_add] at hl
        exact ⟨rlF_callable hl, fun Y K hY hK => ibody_ok hP ih1 ih2 hl hd hY hK⟩
      · cases hd
theorem fnD_ok (hP : P.follows .mixedOrders = true) {T : List (Option Ent)} (hT : okL P 0 T) {M : List Memo} (hM : ∀ m ∈ M, m.ok P) (d : Nat) (f : FuncId) (zas : List V) (h0 : List Blk) (mv : List Nat) (r : V) (h' : List Blk)
    (h : fnD T M d f zas h0 mv = some (r, h')) : Callable P f ∧ Fn P f zas h0 mv (fun r1 h1 => r1 = r ∧ h1 = h') := (fiD_ok hP hT hM d).1 f zas h0 mv r h' h
end
end Go.Fx
