import Derived.Test.YtmddpcjkpbjkeaaFxFrz
set_option linter.unusedVariables false
set_option linter.unusedSimpArgs false
set_option linter.unusedSectionVars false
namespace Go.Fx
open Go.RowKit

/-- What an operation's soundness gives: the executor's way on, and that the new state stands for the new world. -/
def Sound (fx bn : List Nat) (ρ : Nat → Loc) (X : Nat → Prop) (w : World) (t : Array Value) (K : V → St → Prop) (val : Value) (w' : World) : Prop :=
  ∃ x s' ρ', K x s' ∧ (keepP fx s'.h ∧ (∀ k ∈ fx, ρ' k = ρ k) ∧ ∀ k ∈ bn, (ρ k).real = true → ρ' k = ρ k ∧ w'.heap[(ρ k).blk]? = w.heap[(ρ k).blk]?) ∧ Fr ρ w ρ' w' ∧ Rep ρ' X w' s'.h ∧ RepE ρ' X w' s'.e t ∧ RepV ρ' X w' x val

section
variable {ρ : Nat → Loc} {X : Nat → Prop} {w : World} {P : Program}

theorem live_set {h : List Blk} {k : Nat} {B : Blk} (hB : B ≠ .dead) (j : Nat) (hj : liveP h j) : liveP (h.set k B) j := by
  unfold liveP at hj ⊢
  rw [List.getElem?_set]
  by_cases hk : k = j
  · subst hk
    rw [if_pos rfl]
    cases hb : h[k]? with
    | none => rw [hb] at hj; exact hj.elim
    | some B' =>
      have hl : k < h.length := (List.getElem?_eq_some_iff.1 hb).1
      rw [if_pos hl]
      cases B <;> first | trivial | exact (hB rfl).elim
  · rw [if_neg hk]
    exact hj

theorem keepP_get {h : List Blk} : ∀ {fx : List Nat}, keepP fx h → ∀ k ∈ fx, liveP h k
  | [], _, _, hk => by simp at hk
  | a :: r, hf, k, hk => by
    rcases List.mem_cons.1 hk with rfl | hk
    · exact hf.1
    · exact keepP_get hf.2 k hk
theorem keepP_mk {h : List Blk} : ∀ {fx : List Nat}, (∀ k ∈ fx, liveP h k) → keepP fx h
  | [], _ => trivial
  | a :: r, hf => ⟨hf a (by simp), keepP_mk fun k hk => hf k (by simp [hk])⟩
theorem keepP_mono {h h' : List Blk} {fx : List Nat} (hf : keepP fx h) (hl : ∀ k, liveP h k → liveP h' k) : keepP fx h' :=
  keepP_mk fun k hk => hl k (keepP_get hf k hk)
theorem fresh_ne {h : List Blk} {k j : Nat} (hk : freshP h k) (hj : liveP h j) : j ≠ k := by
  rintro rfl
  have := freshP_inv hk
  simp [liveP, this] at hj
theorem hlv {h : List Blk} {k : Nat} {cs : List V} (_ : freshP h k) : ∀ j, liveP h j → liveP (h.set k (.var cs)) j := live_set (by simp)

theorem RepL_one {cs : List V} {vs : List Value} (h : RepL ρ X w cs vs) (hd : cs.all isD = true) : ∀ v ∈ vs, v.oneCell' = true := by
  intro v hv
  obtain ⟨i, hi⟩ := List.getElem?_of_mem hv
  have hl := RepL_len h
  have hi' : i < cs.length := by rw [hl]; exact (List.getElem?_eq_some_iff.1 hi).1
  obtain ⟨u, h1, h2⟩ := RepL_get h (List.getElem?_eq_getElem hi')
  rw [hi] at h1
  simp only [Option.some.injEq] at h1
  subst h1
  exact RepD_one (RepD_of_V (List.all_eq_true.1 hd _ (List.getElem_mem hi')) h2)

theorem RepV_one {x : V} {val : Value} (hc : isC x = true) (h : RepV ρ X w x val) : val.oneCell' = true := by
  cases x with
  | v y => have h' : val = y := h; subst h'; cases val <;> simp_all [isC, Value.oneCell']
  | ro sz els => obtain ⟨a, len, cap, rfl, _⟩ := h; rfl
  | bro sz els => obtain ⟨a, len, cap, rfl, _⟩ := h; rfl
  | full sz els => obtain ⟨a, len, rfl, _⟩ := h; rfl
  | sl k i n => obtain ⟨cap, _, _, h3⟩ := h; rcases h3 with ⟨_, a, rfl⟩ | ⟨_, rfl, _⟩ <;> rfl
  | ptr k i f => obtain ⟨_, rfl⟩ := h; rfl
  | rp sz els i f => obtain ⟨b, off, rfl, _⟩ := h; rfl
  | clo f cs => obtain ⟨arr, rfl, _⟩ := h; rfl
  | mp k => obtain ⟨_, rfl⟩ := h; rfl
  | _ => simp [isC] at hc

theorem RepL_oneC {cs : List V} {vs : List Value} (h : RepL ρ X w cs vs) (hd : cs.all isC = true) : ∀ v ∈ vs, v.oneCell' = true := by
  intro v hv
  obtain ⟨i, hi⟩ := List.getElem?_of_mem hv
  have hl := RepL_len h
  have hi' : i < cs.length := by rw [hl]; exact (List.getElem?_eq_some_iff.1 hi).1
  obtain ⟨u, h1, h2⟩ := RepL_get h (List.getElem?_eq_getElem hi')
  rw [hi] at h1
  simp only [Option.some.injEq] at h1
  subst h1
  exact RepV_one (List.all_eq_true.1 hd _ (List.getElem_mem hi')) h2

/-- A new variable. -/
theorem new_var {h : List Blk} (hr : Rep ρ X w h) {k : Nat} (hk : freshP h k) {cs : List V} {arr : Array Value} {T : TypeId} (hl : RepL ρ X w cs arr.toList) {w' : World} (hm : Made w w' (.cells arr T)) :
    ∃ ρ', Fr ρ w ρ' w' ∧ (∀ j, (ρ j).real = true → ρ' j = ρ j) ∧ ((∀ j, j ≠ k → ρ' j = ρ j) ∧ ∀ j, (ρ j).real = true → w'.heap[(ρ j).blk]? = w.heap[(ρ j).blk]?) ∧ Rep ρ' X w' (h.set k (.var cs)) ∧ RepV ρ' X w' (.ptr k 0 0) (.pointer (some ⟨w.heap.size, 0, none⟩)) := by
  have hk' := freshP_inv hk
  have hkr : (ρ k).real = false := hr.blk k _ hk'
  let l : Loc := ⟨true, w.heap.size, 0, 0, 0⟩
  have hf : Fr ρ w (upd ρ k l) w' := new_fr hm (k := k) rfl
  have hag := new_ag hkr l
  refine ⟨upd ρ k l, hf, hag, ⟨fun j hj => upd_other _ _ hj, fun j hj => hm.old (hr.lt j hj)⟩, new_rep hr hm hk' rfl ?_, ?_⟩
  · simp only [RepB, upd_same]
    exact ⟨⟨rfl, rfl, rfl⟩, arr, T, hm.new, RepL_mono hf hag _ _ hl⟩
  · simp only [RepV, upd_same]
    exact ⟨rfl, rfl⟩

/-- The run of a store into cells that are there. -/
theorem storeVar_run {t : TypeId} {b o : Nat} {val : Value} {inf : TypeInfo} {c : Array Value} {T : TypeId} (hi : P.info? t = some inf) (hn : val.cells.size = inf.size) (h : w.heap[b]? = some (.cells c T (0, 0)))
    (hl : o + val.cells.size ≤ c.size) (h1 : ∀ v ∈ val.cells.toList, v.oneCell' = true) :
    (Instr.storeAt t (.pointer (some ⟨b, o, none⟩)) val).run P w = .ok () (w.setCells b o val.cells.toList) := by
  have := run_storeCells_cells (P := P) b o val.cells.toList 0 w (fun j hj => by
      simp at hj
      simp [World.cell?, h, Array.getElem?_eq_getElem (show o + j < c.size by omega)]) (fun j hj => by simp [World.frozen?, h]) h1
  simp only [Nat.add_zero] at this
  simp [Instr.storeAt, Instr.sureAddr, storeVar, sizeOf, typeInfo, hi, hn, this]

theorem storeP_run {t : TypeId} {h : List Blk} {p : V} {pv val : Value} {cs : List V} {K : List Blk → Prop} {inf : TypeInfo} (hr : Rep ρ X w h) (hi : P.info? t = some inf) (hp : RepV ρ X w p pv) (hcs : RepL ρ X w cs val.cells.toList)
    {bn : List Nat} (hk : storeP bn h inf.size p cs K) : ∃ h' w', K h' ∧ ((∀ k, liveP h k → liveP h' k) ∧ ∀ k ∈ bn, (ρ k).real = true → w'.heap[(ρ k).blk]? = w.heap[(ρ k).blk]?) ∧ Fr ρ w ρ w' ∧ Rep ρ X w' h' ∧ (Instr.storeAt t pv val).run P w = .ok () w' := by
  have hlen := RepL_len hcs
  cases p with
  | ptr k i f =>
    obtain ⟨hreal, rfl⟩ := hp
    obtain ⟨⟨hn, hkbn⟩, hone, hk⟩ := hk
    have hbn : ∀ o : Nat, ∀ j ∈ bn, (ρ j).real = true → (w.setCells (ρ k).blk o val.cells.toList).heap[(ρ j).blk]? = w.heap[(ρ j).blk]? := fun _ j hj hjr => setCells_other _ _ _ _ _ (hr.inj j k (fun e => hkbn (e ▸ hj)) hjr hreal)
    have h1 := RepL_oneC hcs hone
    simp only [blk, List.getD_eq_getElem?_getD] at hk
    have hn' : val.cells.size = inf.size := by rw [← hn, hlen]; simp
    cases hb : h[k]? with
    | none => simp [hb, storeB] at hk
    | some B =>
      have hB := hr.blk k B hb
      rw [hb] at hk
      cases B with
      | dead => exact hk.elim
      | map _ _ => exact hk.elim
      | it _ _ _ _ => exact hk.elim
      | arv sz els =>
        obtain ⟨⟨hsz, hpos⟩, _, c, T, hh, hc, hroom, hels⟩ := hB
        obtain ⟨hfit, hlt, hk⟩ : (f + inf.size ≤ sz) ∧ ∃ hi : i < els.length, K _ := hk
        have hel := hels i _ (List.getElem?_eq_getElem hlt)
        have hle : (i + 1) * sz ≤ els.length * sz := Nat.mul_le_mul_right _ (by omega)
        rw [Nat.add_mul, Nat.one_mul] at hle
        have hfit' : (ρ k).off + i * sz + f + val.cells.size ≤ c.size := by omega
        obtain ⟨c', h2, h3, h4⟩ := setCells_heap _ val.cells.toList ((ρ k).off + i * sz + f) w c T (0, 0) hh (by simpa using hfit')
        have hf := store_fr hr hreal ((ρ k).off + i * sz + f) val.cells.toList
        refine ⟨_, _, hk, ⟨live_set (by simp), hbn _⟩, hf, ?_, ?_⟩
        rotate_left
        · rw [hsz]
          exact storeVar_run hi hn' hh hfit' h1
        · refine store_rep hr hreal ⟨⟨hsz, hpos⟩, hreal, c', T, h2, by omega, by simpa using hroom, ?_⟩
          intro j e he
          by_cases hj : j = i
          · subst hj
            rw [List.getElem?_set_self (by simpa using hlt)] at he
            simp only [Option.some.injEq] at he
            subst he
            refine ⟨by rw [splice_len (by omega)]; exact hel.1, fun g x hx => ?_⟩
            rw [splice_get (by omega)] at hx
            split at hx
            · rename_i hg
              obtain ⟨v, h5, h6⟩ := RepL_get hcs hx
              refine ⟨v, ?_, RepV_mono hf (fun _ _ => rfl) _ _ h6⟩
              rw [h4, if_pos (by simp; omega)]
              rw [show (ρ k).off + j * sz + g - ((ρ k).off + j * sz + f) = g - f by omega]
              exact h5
            · rename_i hg
              obtain ⟨v, h5, h6⟩ := hel.2 g x hx
              refine ⟨v, ?_, RepV_mono hf (fun _ _ => rfl) _ _ h6⟩
              rw [h4, if_neg (by simp; omega)]
              exact h5
          · rw [List.getElem?_set_ne (Ne.symm hj)] at he
            have hej := hels j e he
            have hjl : j < els.length := (List.getElem?_eq_some_iff.1 he).1
            refine ⟨hej.1, fun g x hx => ?_⟩
            obtain ⟨v, h5, h6⟩ := hej.2 g x hx
            have hgl : g < sz := by rw [← hej.1]; exact (List.getElem?_eq_some_iff.1 hx).1
            refine ⟨v, ?_, RepV_mono hf (fun _ _ => rfl) _ _ h6⟩
            have hapart : (ρ k).off + j * sz + g < (ρ k).off + i * sz + f ∨ (ρ k).off + i * sz + f + val.cells.toList.length ≤ (ρ k).off + j * sz + g := by
              rcases Nat.lt_or_gt_of_ne hj with h7 | h7
              · have : (j + 1) * sz ≤ i * sz := Nat.mul_le_mul_right _ (by omega)
                rw [Nat.add_mul, Nat.one_mul] at this
                omega
              · have : (i + 1) * sz ≤ j * sz := Nat.mul_le_mul_right _ (by omega)
                rw [Nat.add_mul, Nat.one_mul] at this
                right
                simp
                omega
            rw [h4, if_neg (by omega)]
            exact h5
      | var old =>
        obtain ⟨⟨_, hoff, hsz⟩, c, T, hh, hl⟩ := hB
        obtain ⟨hfit, hk⟩ : (f + inf.size ≤ old.length) ∧ K _ := hk
        have holdl := RepL_len hl
        have hcs' : c.size = old.length := by simpa using holdl.symm
        have hfit' : f + val.cells.size ≤ c.size := by omega
        obtain ⟨c', h2, h3, h4⟩ := setCells_heap _ val.cells.toList f w c T (0, 0) hh (by simpa using hfit')
        have hf := store_fr hr hreal f val.cells.toList
        refine ⟨_, _, hk, ⟨live_set (by simp), hbn _⟩, hf, store_rep hr hreal ?_, ?_⟩
        · refine ⟨⟨hreal, hoff, hsz⟩, c', T, h2, RepL_mk ?_ ?_⟩
          · rw [splice_len (by omega)]
            simp
            omega
          · intro g x hx
            rw [splice_get (by omega)] at hx
            simp only [Array.getElem?_toList, h4]
            split at hx
            · rename_i hg
              rw [if_pos (by simp; omega)]
              obtain ⟨v, h5, h6⟩ := RepL_get hcs hx
              exact ⟨v, by simpa using h5, RepV_mono hf (fun _ _ => rfl) _ _ h6⟩
            · rename_i hg
              rw [if_neg (by simp; omega)]
              obtain ⟨v, h5, h6⟩ := RepL_get hl hx
              exact ⟨v, by simpa using h5, RepV_mono hf (fun _ _ => rfl) _ _ h6⟩
        · rw [hoff, hsz, show 0 + i * 0 + f = f by omega]
          exact storeVar_run hi hn' hh hfit' h1
      | arr sz els =>
        obtain ⟨⟨hsz, hpos⟩, hor⟩ := hB
        obtain ⟨⟨hfit, hdat⟩, hlt, hk⟩ : (f + inf.size ≤ sz ∧ cs.all isD = true) ∧ ∃ hi : i < els.length, K _ := hk
        rcases hor with ⟨_, rfl⟩ | ⟨_, c, T, hh, hc, hroom, hels⟩
        · simp at hlt
        · have hel := RepEls_get hels (List.getElem?_eq_getElem hlt)
          have hle : (i + 1) * sz ≤ els.length * sz := Nat.mul_le_mul_right _ (by omega)
          rw [Nat.add_mul, Nat.one_mul] at hle
          have hfit' : (ρ k).off + i * sz + f + val.cells.size ≤ c.size := by omega
          obtain ⟨c', h2, h3, h4⟩ := setCells_heap _ val.cells.toList ((ρ k).off + i * sz + f) w c T (0, 0) hh (by simpa using hfit')
          have hf := store_fr hr hreal ((ρ k).off + i * sz + f) val.cells.toList
          refine ⟨_, _, hk, ⟨live_set (by simp), hbn _⟩, hf, ?_, ?_⟩
          rotate_left
          · rw [hsz]
            exact storeVar_run hi hn' hh hfit' h1
          · refine store_rep hr hreal ⟨⟨hsz, hpos⟩, .inr ⟨hreal, c', T, h2, by omega, by simpa using hroom, ?_⟩⟩
            refine RepEls_mk fun j e he => ?_
            by_cases hj : j = i
            · subst hj
              rw [List.getElem?_set_self (by simpa using hlt)] at he
              simp only [Option.some.injEq] at he
              subst he
              refine ⟨by rw [splice_len (by omega)]; exact hel.1, RepCs_mk fun g x hx => ?_⟩
              rw [splice_get (by omega)] at hx
              simp only [World.cell?, h2]
              split at hx
              · rename_i hg
                obtain ⟨v, h5, h6⟩ := RepL_get hcs hx
                refine ⟨v, ?_, RepD_mono hf.sta _ _ (RepD_of_V ?_ h6)⟩
                · simp only [Option.isSome_none, Bool.false_eq_true, if_false, h4]
                  rw [if_pos (by simp; omega)]
                  rw [show (ρ k).off + j * sz + g - ((ρ k).off + j * sz + f) = g - f by omega]
                  exact h5
                · exact List.all_eq_true.1 hdat _ (List.mem_of_getElem? hx)
              · rename_i hg
                obtain ⟨v, h5, h6⟩ := RepCs_get hel.2 hx
                refine ⟨v, ?_, RepD_mono hf.sta _ _ h6⟩
                simp only [Option.isSome_none, Bool.false_eq_true, if_false, h4]
                rw [if_neg (by simp; omega)]
                simpa [World.cell?, hh] using h5
            · rw [List.getElem?_set_ne (Ne.symm hj)] at he
              have hej := RepEls_get hels he
              have hjl : j < els.length := (List.getElem?_eq_some_iff.1 he).1
              refine ⟨hej.1, RepCs_mk fun g x hx => ?_⟩
              obtain ⟨v, h5, h6⟩ := RepCs_get hej.2 hx
              have hgl : g < sz := by rw [← hej.1]; exact (List.getElem?_eq_some_iff.1 hx).1
              refine ⟨v, ?_, RepD_mono hf.sta _ _ h6⟩
              simp only [World.cell?, h2, Option.isSome_none, Bool.false_eq_true, if_false, h4]
              have hapart : (ρ k).off + j * sz + g < (ρ k).off + i * sz + f ∨ (ρ k).off + i * sz + f + val.cells.toList.length ≤ (ρ k).off + j * sz + g := by
                rcases Nat.lt_or_gt_of_ne hj with h7 | h7
                · have : (j + 1) * sz ≤ i * sz := Nat.mul_le_mul_right _ (by omega)
                  rw [Nat.add_mul, Nat.one_mul] at this
                  omega
                · have : (i + 1) * sz ≤ j * sz := Nat.mul_le_mul_right _ (by omega)
                  rw [Nat.add_mul, Nat.one_mul] at this
                  right
                  simp
                  omega
              rw [if_neg (by omega)]
              simpa [World.cell?, hh] using h5
  | _ => exact hk.elim

/-- Elements whose cells lie in a block. -/
theorem els_of_cells {S S' : Nat → Prop} {w' : World} {sz b off : Nat} {els : List (List V)} {c : Array Value} {T : TypeId} {fz : Nat × Nat} (hS : ∀ b, S b → S' b ∧ w'.heap[b]? = w.heap[b]?) (hh : w'.heap[b]? = some (.cells c T fz))
    (h : ∀ (i : Nat) (e : List V), els[i]? = some e → e.length = sz ∧ ∀ (f : Nat) (x : V), e[f]? = some x → ∃ u, c[off + i * sz + f]? = some u ∧ RepD S w x u) : RepEls S' w' sz b off els :=
  RepEls_mk fun i e he => ⟨(h i e he).1, RepCs_mk fun f x hx => by
    obtain ⟨u, h1, h2⟩ := (h i e he).2 f x hx
    exact ⟨u, by simp [World.cell?, hh, h1], RepD_mono hS x u h2⟩⟩

/-- A new row, under a number that was laid by. -/
theorem new_arr {h : List Blk} (hr : Rep ρ X w h) {k : Nat} (hk : freshP h k) {sz : Nat} (hsz : 0 < sz) {els : List (List V)} {c : Array Value} {T : TypeId} {w' : World} (hm : Made w w' (.cells c T)) (hlen : els.length * sz ≤ c.size)
    (hc : ∀ (i : Nat) (e : List V), els[i]? = some e → e.length = sz ∧ ∀ (f : Nat) (x : V), e[f]? = some x → ∃ u, c[i * sz + f]? = some u ∧ RepD (Sta ρ X w) w x u) (n cap : Nat) (hn : n ≤ cap) (hcm : cap ≤ maxLen) (hcs : cap * sz ≤ c.size) :
    ∃ ρ', Fr ρ w ρ' w' ∧ (∀ j, (ρ j).real = true → ρ' j = ρ j) ∧ ((∀ j, j ≠ k → ρ' j = ρ j) ∧ ∀ j, (ρ j).real = true → w'.heap[(ρ j).blk]? = w.heap[(ρ j).blk]?) ∧ Rep ρ' X w' (h.set k (.arr sz els)) ∧ RepV ρ' X w' (.sl k 0 n) (.slice (some ⟨w.heap.size, 0, none⟩) n cap) := by
  have hk' := freshP_inv hk
  have hkr : (ρ k).real = false := hr.blk k _ hk'
  have hf : Fr ρ w (upd ρ k ⟨true, w.heap.size, 0, sz, c.size⟩) w' := new_fr hm (k := k) rfl
  have hag := new_ag hkr ⟨true, w.heap.size, 0, sz, c.size⟩
  refine ⟨upd ρ k ⟨true, w.heap.size, 0, sz, c.size⟩, hf, hag, ⟨fun j hj => upd_other _ _ hj, fun j hj => hm.old (hr.lt j hj)⟩, new_rep hr hm hk' rfl ?_, ?_⟩
  · simp only [RepB, upd_same]
    refine ⟨⟨trivial, hsz⟩, .inr ⟨trivial, c, T, hm.new, rfl, by omega, ?_⟩⟩
    exact els_of_cells hf.sta hm.new (by simpa using hc)
  · simp only [RepV, upd_same]
    exact ⟨cap, hn, hcm, .inr ⟨trivial, by simp, by simpa using hcs⟩⟩

/-- A new row whose cells may name own blocks. -/
theorem new_arv {h : List Blk} (hr : Rep ρ X w h) {k : Nat} (hk : freshP h k) {sz : Nat} (hsz : 0 < sz) {els : List (List V)} {c : Array Value} {T : TypeId} {w' : World} (hm : Made w w' (.cells c T)) (hlen : els.length * sz ≤ c.size)
    (hc : ∀ (i : Nat) (e : List V), els[i]? = some e → e.length = sz ∧ ∀ (f : Nat) (x : V), e[f]? = some x → ∃ u, c[i * sz + f]? = some u ∧ RepV ρ X w x u) (n cap : Nat) (hn : n ≤ cap) (hcm : cap ≤ maxLen) (hcs : cap * sz ≤ c.size) :
    ∃ ρ', Fr ρ w ρ' w' ∧ (∀ j, (ρ j).real = true → ρ' j = ρ j) ∧ ((∀ j, j ≠ k → ρ' j = ρ j) ∧ ∀ j, (ρ j).real = true → w'.heap[(ρ j).blk]? = w.heap[(ρ j).blk]?) ∧ Rep ρ' X w' (h.set k (.arv sz els)) ∧ RepV ρ' X w' (.sl k 0 n) (.slice (some ⟨w.heap.size, 0, none⟩) n cap) := by
  have hk' := freshP_inv hk
  have hkr : (ρ k).real = false := hr.blk k _ hk'
  have hf : Fr ρ w (upd ρ k ⟨true, w.heap.size, 0, sz, c.size⟩) w' := new_fr hm (k := k) rfl
  have hag := new_ag hkr ⟨true, w.heap.size, 0, sz, c.size⟩
  refine ⟨upd ρ k ⟨true, w.heap.size, 0, sz, c.size⟩, hf, hag, ⟨fun j hj => upd_other _ _ hj, fun j hj => hm.old (hr.lt j hj)⟩, new_rep hr hm hk' rfl ?_, ?_⟩
  · simp only [RepB, upd_same]
    refine ⟨⟨trivial, hsz⟩, trivial, c, T, hm.new, rfl, by omega, fun i e he => ⟨(hc i e he).1, fun f x hx => ?_⟩⟩
    obtain ⟨u, h1, h2⟩ := (hc i e he).2 f x hx
    exact ⟨u, by simpa using h1, RepV_mono hf hag _ _ h2⟩
  · simp only [RepV, upd_same]
    exact ⟨cap, hn, hcm, .inr ⟨trivial, by simp, by simpa using hcs⟩⟩

/-- A row that is not there: nothing has been appended yet. -/
theorem new_virtual {h : List Blk} (hr : Rep ρ X w h) {k : Nat} (hk : freshP h k) {sz : Nat} (hsz : 0 < sz) :
    ∃ ρ', Fr ρ w ρ' w ∧ (∀ j, (ρ j).real = true → ρ' j = ρ j) ∧ ((∀ j, j ≠ k → ρ' j = ρ j) ∧ ∀ j, (ρ j).real = true → w.heap[(ρ j).blk]? = w.heap[(ρ j).blk]?) ∧ Rep ρ' X w (h.set k (.arr sz [])) := by
  have hk' := freshP_inv hk
  have hkr : (ρ k).real = false := hr.blk k _ hk'
  have hklt : k < h.length := (List.getElem?_eq_some_iff.1 hk').1
  let l : Loc := ⟨false, 0, 0, sz, 0⟩
  have hown : ∀ b, Own (upd ρ k l) b → Own ρ b := by
    rintro b ⟨j, h1, h2⟩
    by_cases hj : j = k
    · subst hj; rw [upd_same] at h1; cases h1
    · rw [upd_other _ _ hj] at h1 h2; exact ⟨j, h1, h2⟩
  have hf : Fr ρ w (upd ρ k l) w := ⟨rfl, rfl, rfl, Nat.le_refl _, fun b _ ho => ⟨rfl, fun h => ho (hown b h)⟩⟩
  have hag := new_ag hkr l
  refine ⟨upd ρ k l, hf, hag, ⟨fun j hj => upd_other _ _ hj, fun _ _ => rfl⟩, ⟨?_, ?_, ?_, fun b hb => hr.disj b (hown b hb), ?_, hr.xlt⟩⟩
  · intro i j hij hi hj
    by_cases h1 : i = k
    · subst h1; rw [upd_same] at hi; cases hi
    · by_cases h2 : j = k
      · subst h2; rw [upd_same] at hj; cases hj
      · rw [upd_other _ _ h1] at hi ⊢
        rw [upd_other _ _ h2] at hj ⊢
        exact hr.inj i j hij hi hj
  · intro j hj
    rw [upd_other _ _ (by simp at hj; omega)]
    exact hr.out j (by simpa using hj)
  · intro j B' hB'
    by_cases h1 : j = k
    · subst h1
      rw [List.getElem?_set_self hklt] at hB'
      simp only [Option.some.injEq] at hB'
      subst hB'
      simp only [RepB, upd_same]
      exact ⟨⟨rfl, hsz⟩, .inl ⟨rfl, trivial⟩⟩
    · rw [List.getElem?_set_ne (Ne.symm h1)] at hB'
      exact RepB_mono hf hag (upd_other _ _ h1) (fun _ => rfl) (hr.blk j B' hB')
  · intro j hj
    by_cases h3 : j = k
    · subst h3; rw [upd_same] at hj; cases hj
    · rw [upd_other _ _ h3] at hj ⊢; exact hr.lt j hj

/-- What a slice's value shows: its cells. -/
def Shows (ρ : Nat → Loc) (X : Nat → Prop) (w : World) (val : Value) (sz : Nat) (els : List (List V)) : Prop :=
  ∃ a cap, val = .slice a els.length cap ∧ els.length ≤ maxLen ∧ (els = [] ∨ ∃ b off, a = some ⟨b, off, none⟩ ∧ RepEls (Sta ρ X w) w sz b off els)

theorem viewK_inv {h : List Blk} (hr : Rep ρ X w h) {x : V} {val : Value} {K : Nat → List (List V) → Prop} (hx : RepV ρ X w x val) (hk : viewK h x K) : ∃ sz els, K sz els ∧ Shows ρ X w val sz els := by
  unfold viewK at hk
  split at hk
  · rename_i k i n
    unfold blk at hk
    rw [List.getD_eq_getElem?_getD] at hk
    cases hb : h[k]? with
    | none => simp [hb] at hk
    | some B =>
      rw [hb] at hk
      have hB := hr.blk k B hb
      cases B with
      | arr sz els =>
        obtain ⟨⟨hsz, hpos⟩, hor⟩ := hB
        obtain ⟨h1, h2⟩ : i + n ≤ els.length ∧ K sz ((els.drop i).take n) := hk
        have hlen : ((els.drop i).take n).length = n := by simp; omega
        refine ⟨sz, _, h2, ?_⟩
        obtain ⟨cap, h4, h5, h6⟩ := hx
        rcases h6 with ⟨rfl, a, rfl⟩ | ⟨hreal, rfl, hroom⟩
        · have hn : n = 0 := by omega
          subst hn
          exact ⟨a, 0, by simp, by simp [maxLen], .inl (by simp)⟩
        · rcases hor with ⟨h7, _⟩ | ⟨_, c, T, hh, hc, hrm, hels⟩
          · rw [h7] at hreal; cases hreal
          · exact ⟨_, cap, by rw [hlen], by rw [hlen]; omega, .inr ⟨_, _, rfl, by rw [hsz]; exact slc_els hels⟩⟩
      | _ => exact hk.elim
  · obtain ⟨a, len, cap, rfl, rfl, h4, h5, h6⟩ := hx
    exact ⟨_, _, hk, a, cap, rfl, by omega, h6.imp id fun ⟨b, off, e1, _, e2⟩ => ⟨b, off, e1, e2⟩⟩
  · obtain ⟨a, len, cap, rfl, rfl, h4, h5, h6⟩ := hx
    exact ⟨_, _, hk, a, cap, rfl, by omega, h6.imp id fun ⟨b, off, e1, _, e2⟩ => ⟨b, off, e1, e2⟩⟩
  · obtain ⟨a, len, rfl, rfl, h5, h6⟩ := hx
    exact ⟨_, _, hk, a, _, rfl, by omega, h6.imp id fun ⟨b, off, e1, _, e2⟩ => ⟨b, off, e1, e2⟩⟩
  · have hx' : val = .slice none 0 0 := hx
    subst hx'
    exact ⟨_, _, hk, none, 0, rfl, by simp [maxLen], .inl rfl⟩
  · exact hk.elim

/-- The cells of elements, in a row. -/
theorem flat_cells {S : Nat → Prop} {sz b : Nat} : ∀ {off : Nat} {els : List (List V)}, RepEls S w sz b off els →
    ∃ vs : List Value, vs.length = els.length * sz ∧ (∀ j v, vs[j]? = some v → w.cell? ⟨b, off + j, none⟩ = some v) ∧ (∀ v ∈ vs, v.oneCell' = true) ∧
      ∀ (i : Nat) (e : List V), els[i]? = some e → e.length = sz ∧ ∀ (f : Nat) (x : V), e[f]? = some x → ∃ u, vs[i * sz + f]? = some u ∧ RepD S w x u
  | off, [], _ => ⟨[], by simp, fun j v h => by simp at h, by simp, fun i e h => by simp at h⟩
  | off, e :: r, ⟨⟨hlen, hcs⟩, hr⟩ => by
    obtain ⟨vs, h1, h2, h3, h4⟩ := flat_cells hr
    have key : ∀ {o : Nat} {cs : List V}, RepCs S w b o cs → ∃ us : List Value, us.length = cs.length ∧ (∀ j v, us[j]? = some v → w.cell? ⟨b, o + j, none⟩ = some v) ∧ (∀ v ∈ us, v.oneCell' = true) ∧ ∀ (f : Nat) (x : V), cs[f]? = some x → ∃ u, us[f]? = some u ∧ RepD S w x u := by
      intro o cs hc
      induction cs generalizing o with
      | nil => exact ⟨[], rfl, fun j v h => by simp at h, by simp, fun f x h => by simp at h⟩
      | cons x rest ih =>
        obtain ⟨⟨u, g1, g2⟩, g3⟩ := hc
        obtain ⟨us, k1, k2, k3, k4⟩ := ih g3
        refine ⟨u :: us, by simp [k1], fun j v hj => ?_, fun v hv => ?_, fun f y hy => ?_⟩
        · cases j with
          | zero => simp at hj; subst hj; simpa using g1
          | succ j =>
            rw [show o + (j + 1) = o + 1 + j by omega]
            exact k2 j v (by simpa using hj)
        · rcases List.mem_cons.1 hv with rfl | hv
          · exact RepD_one g2
          · exact k3 v hv
        · cases f with
          | zero => simp at hy; subst hy; exact ⟨u, rfl, g2⟩
          | succ f => simpa using k4 f y (by simpa using hy)
    obtain ⟨us, k1, k2, k3, k4⟩ := key hcs
    have hul : us.length = sz := by rw [k1, hlen]
    refine ⟨us ++ vs, by simp [hul, h1, Nat.add_mul]; omega, fun j v hj => ?_, fun v hv => ?_, fun i e' he' => ?_⟩
    · by_cases hjs : j < sz
      · rw [List.getElem?_append_left (by omega)] at hj
        exact k2 j v hj
      · rw [List.getElem?_append_right (by omega), hul] at hj
        have := h2 _ v hj
        rw [show off + sz + (j - sz) = off + j by omega] at this
        exact this
    · rcases List.mem_append.1 hv with hv | hv
      · exact k3 v hv
      · exact h3 v hv
    · cases i with
      | zero =>
        simp only [List.getElem?_cons_zero, Option.some.injEq] at he'
        subst he'
        refine ⟨hlen, fun f x hx => ?_⟩
        have hf : f < sz := by rw [← hlen]; exact (List.getElem?_eq_some_iff.1 hx).1
        rw [List.getElem?_append_left (by omega)]
        simpa using k4 f x hx
      | succ i =>
        obtain ⟨g1, g2⟩ := h4 i e' (by simpa using he')
        refine ⟨g1, fun f x hx => ?_⟩
        rw [List.getElem?_append_right (by rw [hul, Nat.add_mul]; omega), hul]
        rw [show (i + 1) * sz + f - sz = i * sz + f by rw [Nat.add_mul]; omega]
        exact g2 f x hx

/-- Cells that lie one behind the other are the elements' own. -/
theorem Shows.cells {val : Value} {sz : Nat} {els : List (List V)} (h : Shows ρ X w val sz els) (hne : els ≠ []) :
    ∃ (b off cap : Nat) (vs : List Value), val = .slice (some ⟨b, off, none⟩) els.length cap ∧ vs.length = els.length * sz ∧ (∀ j v, vs[j]? = some v → w.cell? ⟨b, off + j, none⟩ = some v) ∧ (∀ v ∈ vs, v.oneCell' = true) ∧
      ∀ (i : Nat) (e : List V), els[i]? = some e → e.length = sz ∧ ∀ (f : Nat) (x : V), e[f]? = some x → ∃ u, vs[i * sz + f]? = some u ∧ RepD (Sta ρ X w) w x u := by
  obtain ⟨a, cap, rfl, _, h3⟩ := h
  rcases h3 with h3 | ⟨b, off, rfl, h4⟩
  · exact absurd h3 hne
  · obtain ⟨vs, k1, k2, k3, k4⟩ := flat_cells h4
    exact ⟨b, off, cap, vs, rfl, k1, k2, k3, k4⟩

theorem append_els {S : Nat → Prop} {sz : Nat} {A B : List (List V)} {us vs rest : List Value} (hu : us.length = A.length * sz) (hv : vs.length = B.length * sz)
    (hA : ∀ (i : Nat) (e : List V), A[i]? = some e → e.length = sz ∧ ∀ (f : Nat) (x : V), e[f]? = some x → ∃ u, us[i * sz + f]? = some u ∧ RepD S w x u)
    (hB : ∀ (i : Nat) (e : List V), B[i]? = some e → e.length = sz ∧ ∀ (f : Nat) (x : V), e[f]? = some x → ∃ u, vs[i * sz + f]? = some u ∧ RepD S w x u) :
    ∀ (i : Nat) (e : List V), (A ++ B)[i]? = some e → e.length = sz ∧ ∀ (f : Nat) (x : V), e[f]? = some x → ∃ u, (us ++ vs ++ rest)[i * sz + f]? = some u ∧ RepD S w x u := by
  intro i e he
  by_cases hi : i < A.length
  · rw [List.getElem?_append_left hi] at he
    obtain ⟨h1, h2⟩ := hA i e he
    refine ⟨h1, fun f x hx => ?_⟩
    obtain ⟨u, h3, h4⟩ := h2 f x hx
    have hlt : i * sz + f < us.length := (List.getElem?_eq_some_iff.1 h3).1
    exact ⟨u, by rw [List.append_assoc, List.getElem?_append_left hlt]; exact h3, h4⟩
  · rw [List.getElem?_append_right (by omega)] at he
    obtain ⟨h1, h2⟩ := hB _ e he
    refine ⟨h1, fun f x hx => ?_⟩
    obtain ⟨u, h3, h4⟩ := h2 f x hx
    have hlt : (i - A.length) * sz + f < vs.length := (List.getElem?_eq_some_iff.1 h3).1
    have e1 : i * sz = A.length * sz + (i - A.length) * sz := by rw [← Nat.add_mul]; congr 1; omega
    refine ⟨u, ?_, h4⟩
    rw [List.append_assoc, List.getElem?_append_right (by omega), List.getElem?_append_left (by omega), hu]
    rw [show i * sz + f - A.length * sz = (i - A.length) * sz + f by omega]
    exact h3

theorem made_zero {z : Value} {sz n : Nat} (hz : z.cells.size = sz) (hsz : 0 < sz) (hone : ∀ v ∈ z.cells.toList, isD (.v v) = true) {S : Nat → Prop} :
    ∀ (i : Nat) (e : List V), (List.replicate n (z.cells.toList.map V.v))[i]? = some e → e.length = sz ∧ ∀ (f : Nat) (x : V), e[f]? = some x → ∃ u, (madeCells z.cells (n * sz))[i * sz + f]? = some u ∧ RepD S w x u := by
  intro i e he
  rw [List.getElem?_replicate] at he
  split at he
  · rename_i hi
    simp only [Option.some.injEq] at he
    subst he
    refine ⟨by simpa using hz, fun f x hx => ?_⟩
    simp only [List.getElem?_map, Option.map_eq_some_iff] at hx
    obtain ⟨u, hu, rfl⟩ := hx
    have hf : f < sz := by rw [← hz]; simpa using (List.getElem?_eq_some_iff.1 hu).1
    have hlt : i * sz + f < n * sz := by
      have : (i + 1) * sz ≤ n * sz := Nat.mul_le_mul_right _ (by omega)
      rw [Nat.add_mul] at this
      omega
    refine ⟨u, ?_, rfl, hone u (List.mem_of_getElem? hu)⟩
    have hmod : (i * sz + f) % sz = f := by rw [Nat.mul_comm, Nat.mul_add_mod, Nat.mod_eq_of_lt hf]
    unfold madeCells
    rw [Array.getElem?_map, Array.getElem?_range, if_pos hlt]
    simp only [Option.map_some, Option.some.injEq, hz, hmod]
    have hu' : z.cells[f]? = some u := by simpa using hu
    rw [getElem!_def, hu']
  · cases he

/-- The cells of elements that are put together. -/
def Flat (S : Nat → Prop) (w : World) (sz : Nat) (els : List (List V)) (c : Array Value) : Prop :=
  c.size = els.length * sz ∧ ∀ (i : Nat) (e : List V), els[i]? = some e → e.length = sz ∧ ∀ (f : Nat) (x : V), e[f]? = some x → ∃ u, c[i * sz + f]? = some u ∧ RepD S w x u

theorem fill_lits {e : Env} {a : Act} (he : RepE ρ X w e a.tmps) {sz : Nat} {K : List (List V) → Prop} : ∀ (ps : List (Nat × Operand)) (acc : List (List V)) (cells : Array Value),
    Flat (Sta ρ X w) w sz acc cells → litsP e sz acc ps K →
      ∃ els cells', K els ∧ els.length = acc.length ∧ Instr.fill (fun i => some (i * sz, sz)) cells (ps.map fun p => (p.1, a.eval p.2)) = some cells' ∧ Flat (Sta ρ X w) w sz els cells'
  | [], acc, cells, ha, hk => ⟨acc, cells, hk, rfl, rfl, ha⟩
  | (i, x) :: r, acc, cells, ha, hk => by
    obtain ⟨cs, h1, ⟨⟨h2, h3⟩, h4⟩, h5⟩ := optK_inv hk
    have hx := cells_rep h1 (ev_rep he x)
    have hl := RepL_len hx
    simp only [Array.length_toList] at hl
    have hle : (i + 1) * sz ≤ acc.length * sz := Nat.mul_le_mul_right _ (by omega)
    rw [Nat.add_mul, Nat.one_mul] at hle
    have hfit : i * sz + (a.eval x).cells.size ≤ cells.size := by rw [ha.1]; omega
    obtain ⟨g1, g2⟩ := fold_cells (a.eval x).cells (i * sz) cells hfit
    have hfl : Flat (Sta ρ X w) w sz (acc.set i cs) ((a.eval x).cells.zipIdx.foldl (fun cs (x : Value × Nat) => cs.setIfInBounds (i * sz + x.2) x.1) cells) := by
      refine ⟨by rw [g1, ha.1]; simp, fun j e' he' => ?_⟩
      by_cases hj : j = i
      · subst hj
        rw [List.getElem?_set_self h3] at he'
        simp only [Option.some.injEq] at he'
        subst he'
        refine ⟨h2, fun f y hy => ?_⟩
        have hf : f < cs.length := (List.getElem?_eq_some_iff.1 hy).1
        obtain ⟨u, k1, k2⟩ := RepL_get hx hy
        refine ⟨u, ?_, RepD_of_V (List.all_eq_true.1 h4 _ (List.mem_of_getElem? hy)) k2⟩
        rw [g2, if_pos (by omega), show j * sz + f - j * sz = f by omega]
        simpa using k1
      · rw [List.getElem?_set_ne (Ne.symm hj)] at he'
        obtain ⟨k1, k2⟩ := ha.2 j e' he'
        refine ⟨k1, fun f y hy => ?_⟩
        have hf : f < sz := by rw [← k1]; exact (List.getElem?_eq_some_iff.1 hy).1
        obtain ⟨u, k3, k4⟩ := k2 f y hy
        refine ⟨u, ?_, k4⟩
        rw [g2, if_neg ?_]
        · exact k3
        · rcases Nat.lt_or_gt_of_ne hj with h7 | h7
          · have : (j + 1) * sz ≤ i * sz := Nat.mul_le_mul_right _ (by omega)
            rw [Nat.add_mul, Nat.one_mul] at this
            omega
          · have : (i + 1) * sz ≤ j * sz := Nat.mul_le_mul_right _ (by omega)
            rw [Nat.add_mul, Nat.one_mul] at this
            omega
    obtain ⟨els, cells', k1, k2, k3, k4⟩ := fill_lits he r _ _ hfl h5
    refine ⟨els, cells', k1, by rw [k2]; simp, ?_, k4⟩
    simp only [List.map_cons, Instr.fill]
    rw [if_neg (by simp; omega)]
    exact k3

/-- The run of a slice literal. -/
theorem lits_run {t e : TypeId} {n : Nat} {parts : Array (Nat × Value)} {inf : TypeInfo} {z : Value} {cells : Array Value} (hu : P.underlying t = some (.slice e)) (hi : P.info? e = some inf) (hz : inf.zero = some z) (hs : 0 < inf.size) (hsm : n * inf.size ≤ 16777216)
    (h : Instr.fill (fun i => some (i * inf.size, inf.size)) (madeCells z.cells (n * inf.size)) parts.toList = some cells) :
    (Instr.buildSlice t n parts).run P w = .ok (.slice (some ⟨w.heap.size, 0, none⟩) n n) (w.alloc (.cells cells e)) := by
  have h2 : ¬ n * inf.size > 2 ^ 24 := by omega
  by_cases h0 : n * inf.size = 0
  · have hn : n = 0 := by
      rcases Nat.mul_eq_zero.1 h0 with h | h
      · exact h
      · omega
    subst hn
    have e0 : Array.range (0 * inf.size) = #[] := by rw [Nat.zero_mul]; exact Array.range_zero'
    unfold madeCells at h
    rw [e0] at h
    have h' : Instr.fill (fun i => some (i * inf.size, inf.size)) #[] parts.toList = some cells := by rw [Array.map_empty] at h; exact h
    simp [Instr.buildSlice, run_underlying hu, sizeOf, typeInfo, hi, Array.range_zero', h', newRow]
  · unfold madeCells at h
    simp [Instr.buildSlice, run_underlying hu, sizeOf, typeInfo, zeroValue, hi, hz, h2, h0, h, newRow]

/-- An append that must make a new row. -/
theorem grow_run {t ty e : TypeId} {inf : TypeInfo} {z : Value} {a : Option Addr} {n cap : Nat} {olds news : List Value} {m : Nat} {b : Addr} {c : Nat} (ht : P.underlying t = some (.slice e)) (hi : P.info? e = some inf) (hz : inf.zero = some z) (hzs : z.cells.size = inf.size)
    (hol : olds.length = n * inf.size) (holds : (n = 0 ∧ cap = 0) ∨ ∃ b', a = some b' ∧ ∀ j v, olds[j]? = some v → w.cell? (b'.add j) = some v)
    (hnl : news.length = m * inf.size) (hnews : ∀ j v, news[j]? = some v → w.cell? (b.add j) = some v) (hg : cap < n + m) (hb : (n + m) * inf.bytes ≤ 140737488355328) (hmax : n + m ≤ maxLen) :
    ∃ (cc : Nat) (rest : Array Value), n + m ≤ cc ∧ cc ≤ maxLen ∧ (olds.toArray ++ news.toArray ++ rest).size = cc * inf.size ∧
      (Builtin.append_ #[t, t] ty #[.slice a n cap, .slice (some b) m c]).run P w = .ok (.slice (some ⟨w.heap.size, 0, none⟩) (n + m) cc) (w.drew.alloc (.cells (olds.toArray ++ news.toArray ++ rest) e)) := by
  have h63 : ((n + m : Nat) : Int) ≤ 9223372036854775807 := by simp only [maxLen] at hmax; omega
  have hge := grownCap_ge w (n + m) cap e
  have hle := grownCap_le_maxLen w (n + m) cap e hmax
  have hsz : (olds.toArray ++ news.toArray ++ Builtin.zeroCells z.cells (grownCap w (n + m) cap e - (n + m))).size = grownCap w (n + m) cap e * inf.size := by
    simp only [Array.size_append, List.size_toArray, size_zeroCells, hzs, hol, hnl, ← Nat.add_mul]
    congr 1
    omega
  rcases holds with ⟨h0, hcap0⟩ | ⟨b', rfl, hold⟩
  · subst h0
    have hon : olds = [] := List.eq_nil_of_length_eq_zero (by simpa using hol)
    subst hon
    subst hcap0
    cases a with
    | none =>
      refine ⟨_, _, hge, hle, hsz, ?_⟩
      have hr := run_append_nil (P := P) w t ty e inf z ht hi hz b m c news hnl hnews (by omega) (by simpa using h63) (by have := hb; simp only [Nat.zero_add] at this; omega)
      simpa using hr
    | some b' =>
      exact ⟨_, _, hge, hle, hsz, run_append_grow (P := P) w t ty e inf z ht hi hz b' 0 0 [] (by simp) (by simp) b m c news hnl hnews hg h63 (growslice_fits (by omega) hb)⟩
  · exact ⟨_, _, hge, hle, hsz, run_append_grow (P := P) w t ty e inf z ht hi hz b' n cap olds hol hold b m c news hnl hnews hg h63 (growslice_fits hg hb)⟩

/-- An append of nothing. -/
theorem append_none_run {t ty e : TypeId} {inf : TypeInfo} {a a' : Option Addr} {n cap c : Nat} (ht : P.underlying t = some (.slice e)) (hi : P.info? e = some inf) (hn : n ≤ cap) :
    (Builtin.append_ #[t, t] ty #[.slice a n cap, .slice a' 0 c]).run P w = .ok (.slice a n cap) w := by
  have hf : (Builtin.firstCells inf.size 0 (.slice a' 0 c)).run P w = .ok #[] w := by
    cases a' <;> simp [Builtin.firstCells, loadCells, loadCellsFrom]
  cases a <;> simp [Builtin.append_, run_underlying ht, sizeOf, typeInfo, hi, Builtin.lenOf, hn, hf, storeCells]

/-- An append into the room that there is. -/
theorem room_run {t ty e : TypeId} {inf : TypeInfo} {g off n cap : Nat} {news : List Value} {m : Nat} {b : Addr} {c : Nat} {cur : Array Value} {T : TypeId} (ht : P.underlying t = some (.slice e)) (hi : P.info? e = some inf)
    (hg : w.heap[g]? = some (.cells cur T (0, 0))) (hnl : news.length = m * inf.size) (hnews : ∀ j v, news[j]? = some v → w.cell? (b.add j) = some v) (h1 : ∀ v ∈ news, v.oneCell' = true) (hroom : n + m ≤ cap) (hfit : off + n * inf.size + news.length ≤ cur.size) :
    (Builtin.append_ #[t, t] ty #[.slice (some ⟨g, off, none⟩) n cap, .slice (some b) m c]).run P w = .ok (.slice (some ⟨g, off, none⟩) (n + m) cap) (w.setCells g (off + n * inf.size) news) := by
  have hf := run_firstCells_some (P := P) w inf.size m b m c news hnl hnews
  have hst := run_storeCells_cells (P := P) g (off + n * inf.size) news 0 w (fun j hj => by
      simp [World.cell?, hg, Array.getElem?_eq_getElem (show off + n * inf.size + j < cur.size by omega)]) (fun j hj => by simp [World.frozen?, hg]) h1
  simp only [Nat.add_zero] at hst
  simp [Builtin.append_, run_underlying ht, sizeOf, typeInfo, hi, Builtin.lenOf, hroom, hf, Addr.add_none, hst]

/-- A block that lies elsewhere, or from elsewhere on, from now on. -/
theorem moved_rep {h : List Blk} (hr : Rep ρ X w h) {k : Nat} (hk : k < h.length) {l : Loc} {w' : World} {B : Blk} (hf : Fr ρ w (upd ρ k l) w')
    (hnew : l.real = true → (w.heap.size ≤ l.blk ∨ ((ρ k).real = true ∧ l.blk = (ρ k).blk)) ∧ l.blk < w'.heap.size)
    (hold : ∀ j, j ≠ k → (ρ j).real = true → w'.heap[(ρ j).blk]? = w.heap[(ρ j).blk]?) (hB : RepB (upd ρ k l) X w' k B) :
    Rep (upd ρ k l) X w' ((h.map (killB [k])).set k B) := by
  have hag : ∀ j, j ∉ [k] → (ρ j).real = true → upd ρ k l j = ρ j := fun j hj _ => upd_other _ _ (by simpa using hj)
  have hcase : ∀ b, Own (upd ρ k l) b → Own ρ b ∨ w.heap.size ≤ b := by
    rintro b ⟨j, h1, h2⟩
    by_cases hj : j = k
    · subst hj
      rw [upd_same] at h1 h2
      rcases (hnew h1).1 with h3 | ⟨h3, h4⟩
      · right; omega
      · exact .inl ⟨j, h3, by rw [← h4]; exact h2⟩
    · rw [upd_other _ _ hj] at h1 h2
      exact .inl ⟨j, h1, h2⟩
  refine ⟨?_, ?_, ?_, ?_, ?_, ?_⟩
  · intro i j hij hi hj
    by_cases h1 : i = k
    · subst h1
      rw [upd_same] at hi ⊢
      rw [upd_other _ _ (Ne.symm hij)] at hj ⊢
      rcases (hnew hi).1 with h3 | ⟨h3, h4⟩
      · have := hr.lt j hj; omega
      · rw [h4]; exact hr.inj i j hij h3 hj
    · by_cases h2 : j = k
      · subst h2
        rw [upd_same] at hj ⊢
        rw [upd_other _ _ h1] at hi ⊢
        rcases (hnew hj).1 with h3 | ⟨h3, h4⟩
        · have := hr.lt i hi; omega
        · rw [h4]; exact hr.inj i j hij hi h3
      · rw [upd_other _ _ h1] at hi ⊢
        rw [upd_other _ _ h2] at hj ⊢
        exact hr.inj i j hij hi hj
  · intro j hj
    simp at hj
    rw [upd_other _ _ (by omega)]
    exact hr.out j hj
  · intro j B' hB'
    by_cases h1 : j = k
    · subst h1
      rw [List.getElem?_set_self (by simpa using hk)] at hB'
      simp only [Option.some.injEq] at hB'
      subst hB'
      exact hB
    · rw [List.getElem?_set_ne (Ne.symm h1), List.getElem?_map, Option.map_eq_some_iff] at hB'
      obtain ⟨B0, hB0, rfl⟩ := hB'
      exact RepB_kill hf [k] hag (upd_other _ _ h1) (fun hj => hold j h1 hj) (hr.blk j B0 hB0)
  · intro b ho hx
    rcases hcase b ho with h1 | h1
    · exact hr.disj b h1 hx
    · have := hr.xlt b hx; omega
  · intro j hj
    by_cases h1 : j = k
    · subst h1
      rw [upd_same] at hj ⊢
      exact (hnew hj).2
    · rw [upd_other _ _ h1] at hj ⊢
      exact Nat.lt_of_lt_of_le (hr.lt j hj) hf.size
  · intro b hb
    exact Nat.lt_of_lt_of_le (hr.xlt b hb) hf.size

theorem drop_take_els {i n : Nat} {els : List (List V)} {sz : Nat} {c : Array Value} {off : Nat} {S : Nat → Prop}
    (h : ∀ (j : Nat) (e : List V), els[j]? = some e → e.length = sz ∧ ∀ (f : Nat) (x : V), e[f]? = some x → ∃ u, c[off + j * sz + f]? = some u ∧ RepD S w x u) :
    ∀ (j : Nat) (e : List V), ((els.drop i).take n)[j]? = some e → j < n ∧ e.length = sz ∧ ∀ (f : Nat) (x : V), e[f]? = some x → ∃ u, c[off + i * sz + j * sz + f]? = some u ∧ RepD S w x u := by
  intro j e he
  rw [List.getElem?_take] at he
  split at he
  · rename_i hj
    rw [List.getElem?_drop] at he
    obtain ⟨h1, h2⟩ := h _ e he
    refine ⟨hj, h1, fun f x hx => ?_⟩
    obtain ⟨u, h3, h4⟩ := h2 f x hx
    exact ⟨u, by rw [Nat.add_mul, ← Nat.add_assoc] at h3; exact h3, h4⟩
  · cases he

theorem els_cells {S : Nat → Prop} {sz b off : Nat} {els : List (List V)} {c : Array Value} {T : TypeId} {fz : Nat × Nat} (hh : w.heap[b]? = some (.cells c T fz)) (h : RepEls S w sz b off els) :
    ∀ (i : Nat) (e : List V), els[i]? = some e → e.length = sz ∧ ∀ (f : Nat) (x : V), e[f]? = some x → ∃ u, c[off + i * sz + f]? = some u ∧ RepD S w x u := by
  intro i e he
  obtain ⟨h1, h2⟩ := RepEls_get h he
  refine ⟨h1, fun f x hx => ?_⟩
  obtain ⟨u, h3, h4⟩ := RepCs_get h2 hx
  exact ⟨u, by simpa [World.cell?, hh] using h3, h4⟩

/-- What an append, or a copy, gives. -/
def AppOk (P : Program) (fx bn : List Nat) (ρ : Nat → Loc) (X : Nat → Prop) (w : World) (t : Array Value) (run : Sem Value) (K : V → St → Prop) : Prop :=
  ∃ val w', run.run P w = .ok val w' ∧ Sound fx bn ρ X w t K val w'

theorem appNew_run {t ty e : TypeId} {inf : TypeInfo} {z : Value} {id : Nat} {s : St} {fx bn : List Nat} {ts : Array Value} {old new : List (List V)} {xv yv : Value} {K : V → St → Prop} (ht : P.underlying t = some (.slice e)) (hi : P.info? e = some inf) (hz : inf.zero = some z) (hs : 0 < inf.size) (hzs : z.cells.size = inf.size) (hby : 0 < inf.bytes)
    (hr : Rep ρ X w s.h) (he : RepE ρ X w s.e ts) (hfx : keepP fx s.h) (hx : (old = [] ∧ xv = .slice none 0 0) ∨ (new ≠ [] ∧ ∃ a, xv = .slice a old.length old.length ∧ Shows ρ X w xv inf.size old))
    (hy : Shows ρ X w yv inf.size new) (h : appNew id inf.size inf.bytes s old new K) : AppOk P fx bn ρ X w ts (Builtin.append_ #[t, t] ty #[xv, yv]) K := by
  obtain ⟨hb, hfr, hK⟩ := h
  by_cases hne : new = []
  · subst hne
    rcases hx with ⟨rfl, rfl⟩ | ⟨hne, _⟩
    · obtain ⟨a', cap', rfl, _, _⟩ := hy
      obtain ⟨ρ', hf, hag, hot, hr'⟩ := new_virtual hr hfr hs
      refine ⟨_, w, append_none_run ht hi (Nat.le_refl _), _, _, ρ', hK, ⟨keepP_mono hfx (live_set (by simp)), fun k hk => hot.1 k (fresh_ne hfr (keepP_get hfx k hk)), fun k _ hreal => ⟨hag k hreal, hot.2 k hreal⟩⟩, hf, hr', RepE_mono hf hag he, ?_⟩
      exact ⟨0, by simp, Nat.zero_le _, .inl ⟨rfl, none, rfl⟩⟩
    · exact absurd rfl hne
  · obtain ⟨b, off, cap, vs, rfl, h1, h2, h3, h4⟩ := hy.cells hne
    have hpos : 0 < new.length := List.length_pos_iff.2 hne
    have hml : old.length + new.length ≤ maxLen := by
      have : old.length + new.length ≤ (old.length + new.length) * inf.bytes := Nat.le_mul_of_pos_right _ hby
      simp only [maxLen]
      omega
    have hgo : ∃ (olds : List Value) (a : Option Addr) (cp : Nat), xv = .slice a old.length cp ∧ cp ≤ old.length ∧ olds.length = old.length * inf.size ∧ ((old.length = 0 ∧ cp = 0) ∨ ∃ b', a = some b' ∧ ∀ j v, olds[j]? = some v → w.cell? (b'.add j) = some v) ∧
        ∀ (i : Nat) (e : List V), old[i]? = some e → e.length = inf.size ∧ ∀ (f : Nat) (x : V), e[f]? = some x → ∃ u, olds[i * inf.size + f]? = some u ∧ RepD (Sta ρ X w) w x u := by
      rcases hx with ⟨rfl, rfl⟩ | ⟨_, a, rfl, hsh⟩
      · exact ⟨[], none, 0, rfl, Nat.le_refl _, by simp, .inl ⟨rfl, rfl⟩, fun i e he => by simp at he⟩
      · by_cases ho : old = []
        · subst ho
          exact ⟨[], a, 0, rfl, Nat.le_refl _, by simp, .inl ⟨rfl, rfl⟩, fun i e he => by simp at he⟩
        · obtain ⟨b', off', cap', us, e1, k1, k2, k3, k4⟩ := hsh.cells ho
          cases e1
          exact ⟨us, _, _, rfl, Nat.le_refl _, k1, .inr ⟨_, rfl, fun j v hj => by rw [Addr.add_none]; exact k2 j v hj⟩, k4⟩
    obtain ⟨olds, a, cp, rfl, hcp, hol, holds, hoe⟩ := hgo
    obtain ⟨cc, rest, g1, g2, g3, g4⟩ := grow_run (ty := ty) (c := cap) (b := ⟨b, off, none⟩) ht hi hz hzs hol holds h1 (fun j v hj => by rw [Addr.add_none]; exact h2 j v hj) (by omega) hb hml
    have hae := append_els (rest := rest.toList) hol h1 hoe h4
    have hto : (olds.toArray ++ vs.toArray ++ rest).toList = olds ++ vs ++ rest.toList := by simp
    obtain ⟨ρ', hf, hag, hot, hr', hp⟩ := new_arr hr hfr hs (els := old ++ new) (Made.drewAlloc w (.cells (olds.toArray ++ vs.toArray ++ rest) e)) (by rw [g3]; simp; exact Nat.mul_le_mul_right _ g1)
      (fun i e' he' => by
        obtain ⟨q1, q2⟩ := hae i e' he'
        refine ⟨q1, fun f x hx => ?_⟩
        obtain ⟨u, q3, q4⟩ := q2 f x hx
        exact ⟨u, by rw [← Array.getElem?_toList, hto]; exact q3, q4⟩) (old.length + new.length) cc g1 g2 (by rw [g3]; exact Nat.le_refl _)
    exact ⟨_, _, g4, _, _, ρ', hK, ⟨keepP_mono hfx (live_set (by simp)), fun k hk => hot.1 k (fresh_ne hfr (keepP_get hfx k hk)), fun k _ hreal => ⟨hag k hreal, hot.2 k hreal⟩⟩, hf, hr', RepE_mono hf hag he, hp⟩

theorem live_killB {h : List Blk} {M : List Nat} (j : Nat) (hj : liveP h j) : liveP (h.map (killB M)) j := by
  unfold liveP at hj ⊢
  rw [List.getElem?_map]
  cases hb : h[j]? with
  | none => rw [hb] at hj; exact hj.elim
  | some B => rw [hb] at hj; cases B <;> first | trivial | exact hj.elim

theorem appB_run {t ty e : TypeId} {inf : TypeInfo} {z : Value} {s : St} {fx bn : List Nat} {ts : Array Value} {k i n : Nat} {new : List (List V)} {xv yv : Value} {K : V → St → Prop} (ht : P.underlying t = some (.slice e)) (hi : P.info? e = some inf) (hz : inf.zero = some z) (hs : 0 < inf.size) (hzs : z.cells.size = inf.size) (hby : 0 < inf.bytes)
    (hr : Rep ρ X w s.h) (he : RepE ρ X w s.e ts) (hfx : keepP fx s.h) (hx : RepV ρ X w (.sl k i n) xv)
    (hy : Shows ρ X w yv inf.size new) (h : appB fx bn k i n inf.size inf.bytes s new (blk s.h k) K) : AppOk P fx bn ρ X w ts (Builtin.append_ #[t, t] ty #[xv, yv]) K := by
  unfold blk at h
  rw [List.getD_eq_getElem?_getD] at h
  cases hb : s.h[k]? with
  | none => simp [hb, appB] at h
  | some B =>
    rw [hb] at h
    have hB := hr.blk k B hb
    have hklt : k < s.h.length := (List.getElem?_eq_some_iff.1 hb).1
    cases B with
    | arr sz' els =>
      obtain ⟨⟨rfl, hin, hbytes⟩, hkfx, hK⟩ := h
      obtain ⟨⟨hsz, hpos⟩, hor⟩ := hB
      obtain ⟨cap, hnc, hcm, hxv⟩ := hx
      have hlen : ((els.drop i).take n).length = n := by simp; omega
      have hkeep : keepP fx ((s.h.map (killB [k])).set k (.arr inf.size ((els.drop i).take n ++ new))) := keepP_mono hfx fun j hj => live_set (by simp) j (live_killB j hj)
      -- what it takes to close: the new place, the world's change, the block
      have close : ∀ (l : Loc) (w' : World) (val : Value), (Builtin.append_ #[t, t] ty #[xv, yv]).run P w = .ok val w' → Fr ρ w (upd ρ k l) w' →
          (l.real = true → (w.heap.size ≤ l.blk ∨ ((ρ k).real = true ∧ l.blk = (ρ k).blk)) ∧ l.blk < w'.heap.size) →
          (∀ j, j ≠ k → (ρ j).real = true → w'.heap[(ρ j).blk]? = w.heap[(ρ j).blk]?) → RepB (upd ρ k l) X w' k (.arr inf.size ((els.drop i).take n ++ new)) →
          RepV (upd ρ k l) X w' (.sl k 0 (n + new.length)) val → AppOk P fx bn ρ X w ts (Builtin.append_ #[t, t] ty #[xv, yv]) K := by
        intro l w' val hrun hf hnew hold hBk hv
        refine ⟨val, w', hrun, _, _, upd ρ k l, hK, ⟨hkeep, fun j hj => upd_other _ _ (fun e => hkfx.1 (e ▸ hj)), fun j hj hjr => ⟨upd_other _ _ (fun e => hkfx.2 (e ▸ hj)), hold j (fun e => hkfx.2 (e ▸ hj)) hjr⟩⟩, hf, moved_rep hr hklt hf hnew hold hBk, ?_, hv⟩
        exact RepE_kill hf [k] (fun j hj _ => upd_other _ _ (by simpa using hj)) he
      have hml : n + new.length ≤ maxLen := by
        have : n + new.length ≤ (n + new.length) * inf.bytes := Nat.le_mul_of_pos_right _ hby
        simp only [maxLen]
        omega
      by_cases hne : new = []
      · -- nothing is appended
        subst hne
        obtain ⟨a', cap', rfl, _, _⟩ := hy
        have hrun : (Builtin.append_ #[t, t] ty #[xv, .slice a' ([] : List (List V)).length cap']).run P w = .ok xv w := by
          rcases hxv with ⟨rfl, a, rfl⟩ | ⟨hreal, rfl, hroom⟩
          · exact append_none_run ht hi (Nat.le_refl _)
          · exact append_none_run ht hi hnc
        have hsub : ∀ b, Own (upd ρ k { ρ k with off := (ρ k).off + i * inf.size }) b → Own ρ b := by
          rintro b ⟨j, h1, h2⟩
          by_cases hj : j = k
          · subst hj; rw [upd_same] at h1 h2; exact ⟨j, h1, h2⟩
          · rw [upd_other _ _ hj] at h1 h2; exact ⟨j, h1, h2⟩
        refine close { ρ k with off := (ρ k).off + i * inf.size } w xv hrun ⟨rfl, rfl, rfl, Nat.le_refl _, fun b _ ho => ⟨rfl, fun h => ho (hsub b h)⟩⟩ (fun hreal => ⟨.inr ⟨hreal, rfl⟩, hr.lt k hreal⟩) (fun _ _ _ => rfl) ?_ ?_
        · simp only [RepB, upd_same, List.append_nil]
          refine ⟨⟨hsz, hpos⟩, ?_⟩
          rcases hor with ⟨h1, rfl⟩ | ⟨h1, c, T, h2, h3, h4, h5⟩
          · exact .inl ⟨h1, by simp⟩
          · have hle : i * inf.size + n * inf.size ≤ els.length * inf.size := by rw [← Nat.add_mul]; exact Nat.mul_le_mul_right _ hin
            refine .inr ⟨h1, c, T, h2, h3, by rw [hlen]; omega, ?_⟩
            exact RepEls_mono (fun b hb => ⟨⟨hb.1, fun h => hb.2.1 (hsub b h), hb.2.2⟩, rfl⟩) _ _ rfl _ _ (slc_els h5)
        · simp only [RepV, upd_same]
          refine ⟨cap, by simpa using hnc, hcm, ?_⟩
          rcases hxv with ⟨h1, a, h2⟩ | ⟨h1, h2, h3⟩
          · exact .inl ⟨h1, a, h2⟩
          · refine .inr ⟨h1, by rw [h2, hsz]; simp, ?_⟩
            rw [hsz] at h3 ⊢
            rw [Nat.add_mul] at h3
            simp only [Nat.zero_add]
            omega
      · obtain ⟨b, off, cp, vs, rfl, h1, h2, h3, h4⟩ := hy.cells hne
        have hpos' : 0 < new.length := List.length_pos_iff.2 hne
        have hnews : ∀ j v, vs[j]? = some v → w.cell? ((⟨b, off, none⟩ : Addr).add j) = some v := fun j v hj => by rw [Addr.add_none]; exact h2 j v hj
        by_cases hroom : n + new.length ≤ cap
        · -- there is room
          rcases hxv with ⟨rfl, a, rfl⟩ | ⟨hreal, hxe, hrm⟩
          · omega
          · rw [hsz] at hxe
            subst hxe
            rcases hor with ⟨g1, _⟩ | ⟨_, c, T, hh, hcs, hrm2, hels⟩
            · rw [g1] at hreal; cases hreal
            · rw [hsz] at hrm
              have hle1 : (i + (n + new.length)) * inf.size ≤ (i + cap) * inf.size := Nat.mul_le_mul_right _ (by omega)
              simp only [Nat.add_mul] at hle1 hrm
              have hfit : (ρ k).off + i * inf.size + n * inf.size + vs.length ≤ c.size := by rw [h1]; omega
              obtain ⟨c', k1, k2, k3⟩ := setCells_heap _ vs ((ρ k).off + i * inf.size + n * inf.size) w c T (0, 0) hh hfit
              have hsub : ∀ b, Own (upd ρ k { ρ k with off := (ρ k).off + i * inf.size }) b → Own ρ b := by
                rintro b ⟨j, h1, h2⟩
                by_cases hj : j = k
                · subst hj; rw [upd_same] at h1 h2; exact ⟨j, h1, h2⟩
                · rw [upd_other _ _ hj] at h1 h2; exact ⟨j, h1, h2⟩
              have hf0 := store_fr hr hreal ((ρ k).off + i * inf.size + n * inf.size) vs
              have hf : Fr ρ w (upd ρ k { ρ k with off := (ρ k).off + i * inf.size }) (w.setCells (ρ k).blk ((ρ k).off + i * inf.size + n * inf.size) vs) :=
                ⟨hf0.os, hf0.tape, hf0.output, hf0.size, fun b hb ho => ⟨(hf0.keep b hb ho).1, fun h => ho (hsub b h)⟩⟩
              have hrun := room_run (ty := ty) (off := (ρ k).off + i * inf.size) (c := cp) ht hi hh h1 hnews h3 hroom hfit
              refine close { ρ k with off := (ρ k).off + i * inf.size } _ _ hrun hf (fun _ => ⟨.inr ⟨hreal, rfl⟩, by rw [setCells_size]; exact hr.lt k hreal⟩) (fun j hj hjr => setCells_other _ _ _ _ _ (hr.inj j k hj hjr hreal)) ?_ ?_
              · simp only [RepB, upd_same]
                refine ⟨⟨hsz, hpos⟩, .inr ⟨hreal, c', T, k1, by omega, ?_, ?_⟩⟩
                · simp only [List.length_append, hlen, Nat.add_mul]
                  omega
                · refine els_of_cells (S := Sta ρ X w) (w := w) hf.sta k1 ?_
                  intro j e' he'
                  by_cases hj : j < n
                  · rw [List.getElem?_append_left (by omega)] at he'
                    obtain ⟨_, q1, q2⟩ := drop_take_els (els_cells hh hels) j e' he'
                    refine ⟨q1, fun f x hx => ?_⟩
                    have hfl : f < inf.size := by rw [← q1]; exact (List.getElem?_eq_some_iff.1 hx).1
                    obtain ⟨u, q3, q4⟩ := q2 f x hx
                    have hjn : (j + 1) * inf.size ≤ n * inf.size := Nat.mul_le_mul_right _ (by omega)
                    rw [Nat.add_mul, Nat.one_mul] at hjn
                    refine ⟨u, ?_, q4⟩
                    rw [k3, if_neg (by omega)]
                    exact q3
                  · rw [List.getElem?_append_right (by omega), hlen] at he'
                    obtain ⟨q1, q2⟩ := h4 _ e' he'
                    refine ⟨q1, fun f x hx => ?_⟩
                    obtain ⟨u, q3, q4⟩ := q2 f x hx
                    have hlt : (j - n) * inf.size + f < vs.length := (List.getElem?_eq_some_iff.1 q3).1
                    have ej : j * inf.size = n * inf.size + (j - n) * inf.size := by rw [← Nat.add_mul]; congr 1; omega
                    refine ⟨u, ?_, q4⟩
                    rw [k3, if_pos (by omega)]
                    rw [show (ρ k).off + i * inf.size + j * inf.size + f - ((ρ k).off + i * inf.size + n * inf.size) = (j - n) * inf.size + f by omega]
                    exact q3
              · simp only [RepV, upd_same]
                refine ⟨cap, hroom, hcm, .inr ⟨hreal, by rw [hsz]; simp, ?_⟩⟩
                rw [hsz]
                simp only [Nat.zero_add]
                omega
        · -- a new row
          have hgo : ∃ (olds : List Value) (a : Option Addr), xv = .slice a n cap ∧ olds.length = n * inf.size ∧ ((n = 0 ∧ cap = 0) ∨ ∃ b', a = some b' ∧ ∀ j v, olds[j]? = some v → w.cell? (b'.add j) = some v) ∧
              ∀ (j : Nat) (e : List V), ((els.drop i).take n)[j]? = some e → e.length = inf.size ∧ ∀ (f : Nat) (x : V), e[f]? = some x → ∃ u, olds[j * inf.size + f]? = some u ∧ RepD (Sta ρ X w) w x u := by
            rcases hxv with ⟨rfl, a, rfl⟩ | ⟨hreal, rfl, hrm⟩
            · have hn : n = 0 := by omega
              subst hn
              exact ⟨[], a, rfl, by simp, .inl ⟨rfl, rfl⟩, fun j e he => by simp at he⟩
            · rcases hor with ⟨g1, _⟩ | ⟨_, c, T, hh, hcs, hrm2, hels⟩
              · rw [g1] at hreal; cases hreal
              · obtain ⟨us, m1, m2, m3, m4⟩ := flat_cells (slc_els (l := i) (n := n) hels)
                rw [hlen] at m1
                exact ⟨us, _, rfl, m1, .inr ⟨_, rfl, fun j v hj => by rw [Addr.add_none, hsz]; exact m2 j v hj⟩, m4⟩
          obtain ⟨olds, a, rfl, hol, holds, hoe⟩ := hgo
          obtain ⟨cc, rest, g1, g2, g3, g4⟩ := grow_run (ty := ty) (c := cp) (b := ⟨b, off, none⟩) ht hi hz hzs hol holds h1 hnews (by omega) hbytes hml
          have hae := append_els (rest := rest.toList) (A := (els.drop i).take n) (by rw [hlen]; exact hol) h1 hoe h4
          have hto : (olds.toArray ++ vs.toArray ++ rest).toList = olds ++ vs ++ rest.toList := by simp
          have hmd := Made.drewAlloc w (.cells (olds.toArray ++ vs.toArray ++ rest) e)
          have hf : Fr ρ w (upd ρ k ⟨true, w.heap.size, 0, inf.size, (olds.toArray ++ vs.toArray ++ rest).size⟩) (w.drew.alloc (.cells (olds.toArray ++ vs.toArray ++ rest) e)) := new_fr hmd (k := k) rfl
          refine close _ _ _ g4 hf (fun _ => ⟨.inl (Nat.le_refl _), by rw [hmd.size]; exact Nat.lt_succ_self _⟩) (fun j hj hjr => hmd.old (hr.lt j hjr)) ?_ ?_
          · simp only [RepB, upd_same]
            refine ⟨⟨trivial, hpos⟩, .inr ⟨trivial, _, e, hmd.new, rfl, ?_, ?_⟩⟩
            · rw [g3]
              simp only [List.length_append, hlen, Nat.zero_add]
              exact Nat.mul_le_mul_right _ g1
            · refine els_of_cells (S := Sta ρ X w) (w := w) hf.sta hmd.new ?_
              intro j e' he'
              obtain ⟨q1, q2⟩ := hae j e' he'
              refine ⟨q1, fun f x hx => ?_⟩
              obtain ⟨u, q3, q4⟩ := q2 f x hx
              exact ⟨u, by rw [← Array.getElem?_toList, hto, Nat.zero_add]; exact q3, q4⟩
          · simp only [RepV, upd_same]
            exact ⟨cc, g1, g2, .inr ⟨trivial, by simp, by simp only [Nat.zero_add]; rw [g3]; exact Nat.le_refl _⟩⟩
    | _ => exact h.elim

theorem copyB_run {t t' ty e : TypeId} {inf : TypeInfo} {s : St} {fx bn : List Nat} {ts : Array Value} {k i n : Nat} {new : List (List V)} {xv yv : Value} {K : V → St → Prop} (ht : P.underlying t = some (.slice e)) (hi : P.info? e = some inf)
    (hr : Rep ρ X w s.h) (he : RepE ρ X w s.e ts) (hfx : keepP fx s.h) (hx : RepV ρ X w (.sl k i n) xv)
    (hy : Shows ρ X w yv inf.size new) (h : copyB bn k i n inf.size s new (blk s.h k) K) : AppOk P fx bn ρ X w ts (Builtin.copy_ #[t, t'] ty #[xv, yv]) K := by
  unfold blk at h
  rw [List.getD_eq_getElem?_getD] at h
  cases hb : s.h[k]? with
  | none => simp [hb, copyB] at h
  | some B =>
    rw [hb] at h
    have hB := hr.blk k B hb
    have hklt : k < s.h.length := (List.getElem?_eq_some_iff.1 hb).1
    cases B with
    | arr sz' els =>
      obtain ⟨⟨rfl, hin, hkbn⟩, hK⟩ := h
      obtain ⟨⟨hsz, hpos⟩, hor⟩ := hB
      obtain ⟨cap, hnc, hcm, hxv⟩ := hx
      have hkeep : ∀ B', B' ≠ .dead → keepP fx (s.h.set k B') := fun B' hB' => keepP_mono hfx (live_set hB')
      by_cases h0 : min new.length n = 0
      · -- nothing is copied
        have hsame : els.take i ++ new.take n ++ els.drop (i + min new.length n) = els := by
          have : new.take n = [] := by
            apply List.eq_nil_of_length_eq_zero
            rw [List.length_take]
            omega
          rw [this, h0]
          simp
        have hset : s.h.set k (.arr inf.size els) = s.h := by
          apply List.ext_getElem?
          intro j
          rw [List.getElem?_set]
          split
          · rename_i hj; subst hj; exact hb.symm
          · rfl
        rw [hsame, hset] at hK
        have hrun : (Builtin.copy_ #[t, t'] ty #[xv, yv]).run P w = .ok (.int .i64 (min new.length n : Nat)) w := by
          obtain ⟨a', cap', rfl, _, _⟩ := hy
          have hf : (Builtin.firstCells inf.size 0 (.slice a' new.length cap')).run P w = .ok #[] w := by
            cases a' <;> simp [Builtin.firstCells, loadCells, loadCellsFrom]
          have hm : Nat.min new.length n = 0 := h0
          rcases hxv with ⟨rfl, a, rfl⟩ | ⟨hreal, rfl, hroom⟩
          · have hn : n = 0 := by omega
            subst hn
            cases a <;> simp [Builtin.copy_, run_underlying ht, Builtin.lenOf, sizeOf, typeInfo, hi, hf, storeCells, goInt]
          · simp [Builtin.copy_, run_underlying ht, Builtin.lenOf, sizeOf, typeInfo, hi, hm, hf, storeCells, goInt]
        exact ⟨_, w, hrun, _, _, ρ, hK, ⟨hfx, fun _ _ => rfl, fun _ _ _ => ⟨rfl, rfl⟩⟩, Fr.refl _ _, hr, he, rfl⟩
      · have hne : new ≠ [] := by rintro rfl; simp at h0
        obtain ⟨b, off, cp, vs, rfl, h1, h2, h3, h4⟩ := hy.cells hne
        rcases hxv with ⟨rfl, a, rfl⟩ | ⟨hreal, hxe, hrm⟩
        · omega
        · rw [hsz] at hxe hrm
          subst hxe
          rcases hor with ⟨g1, _⟩ | ⟨_, c, T, hh, hcs, hrm2, hels⟩
          · rw [g1] at hreal; cases hreal
          · have hcl : min new.length n * inf.size ≤ vs.length := by rw [h1]; exact Nat.mul_le_mul_right _ (by omega)
            have htl : (vs.take (min new.length n * inf.size)).length = min new.length n * inf.size := by simp; omega
            have hle1 : (i + n) * inf.size ≤ els.length * inf.size := Nat.mul_le_mul_right _ hin
            have hle2 : min new.length n * inf.size ≤ n * inf.size := Nat.mul_le_mul_right _ (by omega)
            rw [Nat.add_mul] at hle1
            have hfit : (ρ k).off + i * inf.size + (vs.take (min new.length n * inf.size)).length ≤ c.size := by rw [htl]; omega
            obtain ⟨c', k1, k2, k3⟩ := setCells_heap _ (vs.take (min new.length n * inf.size)) ((ρ k).off + i * inf.size) w c T (0, 0) hh hfit
            have hf := store_fr hr hreal ((ρ k).off + i * inf.size) (vs.take (min new.length n * inf.size))
            have hone : ∀ v ∈ vs.take (min new.length n * inf.size), v.oneCell' = true := fun v hv => h3 v (List.mem_of_mem_take hv)
            have hrun : (Builtin.copy_ #[t, t'] ty #[.slice (some ⟨(ρ k).blk, (ρ k).off + i * inf.size, none⟩) n cap, .slice (some ⟨b, off, none⟩) new.length cp]).run P w =
                .ok (.int .i64 (min new.length n : Nat)) (w.setCells (ρ k).blk ((ρ k).off + i * inf.size) (vs.take (min new.length n * inf.size))) := by
              have hfc := run_firstCells_some (P := P) w inf.size (min new.length n) ⟨b, off, none⟩ new.length cp (vs.take (min new.length n * inf.size)) htl (fun j v hj => by
                rw [Addr.add_none]
                refine h2 j v ?_
                rw [List.getElem?_take] at hj
                split at hj
                · exact hj
                · cases hj)
              have hst := run_storeCells_cells (P := P) (ρ k).blk ((ρ k).off + i * inf.size) (vs.take (min new.length n * inf.size)) 0 w (fun j hj => by
                simp [World.cell?, hh, Array.getElem?_eq_getElem (show (ρ k).off + i * inf.size + j < c.size by omega)]) (fun j hj => by simp [World.frozen?, hh]) hone
              simp only [Nat.add_zero] at hst
              have hm : Nat.min new.length n = min new.length n := rfl
              simp [Builtin.copy_, run_underlying ht, Builtin.lenOf, sizeOf, typeInfo, hi, hm, hfc, hst, goInt]
            refine ⟨_, _, hrun, _, _, ρ, hK, ⟨hkeep _ (by simp), fun _ _ => rfl, fun j hj hjr => ⟨rfl, setCells_other _ _ _ _ _ (hr.inj j k (fun e => hkbn (e ▸ hj)) hjr hreal)⟩⟩, hf, store_rep hr hreal ⟨⟨hsz, hpos⟩, .inr ⟨hreal, c', T, k1, by omega, ?_, ?_⟩⟩, RepE_mono hf (fun _ _ => rfl) he, rfl⟩
            · have : (els.take i ++ new.take n ++ els.drop (i + min new.length n)).length = els.length := by simp; omega
              rw [this]
              exact hrm2
            · refine els_of_cells (S := Sta ρ X w) (w := w) hf.sta k1 ?_
              intro j e' he'
              have hold := els_cells hh hels
              have hfar : ∀ f, f < inf.size → (j < i ∨ i + min new.length n ≤ j) → c'[(ρ k).off + j * inf.size + f]? = c[(ρ k).off + j * inf.size + f]? := by
                intro f hf' hj
                rw [k3, htl, if_neg ?_]
                rcases hj with hj | hj
                · have : (j + 1) * inf.size ≤ i * inf.size := Nat.mul_le_mul_right _ (by omega)
                  rw [Nat.add_mul, Nat.one_mul] at this
                  omega
                · have : (i + min new.length n) * inf.size ≤ j * inf.size := Nat.mul_le_mul_right _ (by omega)
                  rw [Nat.add_mul] at this
                  omega
              have holdj : els[j]? = some e' → (j < i ∨ i + min new.length n ≤ j) → e'.length = inf.size ∧ ∀ (f : Nat) (x : V), e'[f]? = some x → ∃ u, c'[(ρ k).off + j * inf.size + f]? = some u ∧ RepD (Sta ρ X w) w x u := by
                intro hje hj
                obtain ⟨q1, q2⟩ := hold j e' hje
                refine ⟨q1, fun f x hx => ?_⟩
                have hfl : f < inf.size := by rw [← q1]; exact (List.getElem?_eq_some_iff.1 hx).1
                obtain ⟨u, q3, q4⟩ := q2 f x hx
                exact ⟨u, by rw [hfar f hfl hj]; exact q3, q4⟩
              by_cases hj : j < i
              · rw [List.append_assoc, List.getElem?_append_left (by simp; omega), List.getElem?_take, if_pos hj] at he'
                exact holdj he' (.inl hj)
              · by_cases hj2 : j < i + min new.length n
                · rw [List.append_assoc, List.getElem?_append_right (by simp; omega), List.getElem?_append_left (by simp; omega), List.getElem?_take] at he'
                  have htk : (els.take i).length = i := by simp; omega
                  rw [htk, if_pos (by omega)] at he'
                  obtain ⟨q1, q2⟩ := h4 _ e' he'
                  refine ⟨q1, fun f x hx => ?_⟩
                  have hfl : f < inf.size := by rw [← q1]; exact (List.getElem?_eq_some_iff.1 hx).1
                  obtain ⟨u, q3, q4⟩ := q2 f x hx
                  have ej : j * inf.size = i * inf.size + (j - i) * inf.size := by rw [← Nat.add_mul]; congr 1; omega
                  have hlt : (j - i + 1) * inf.size ≤ min new.length n * inf.size := Nat.mul_le_mul_right _ (by omega)
                  rw [Nat.add_mul, Nat.one_mul] at hlt
                  refine ⟨u, ?_, q4⟩
                  rw [k3, htl, if_pos (by omega)]
                  rw [show (ρ k).off + j * inf.size + f - ((ρ k).off + i * inf.size) = (j - i) * inf.size + f by omega, List.getElem?_take, if_pos (by omega)]
                  exact q3
                · have htk : (els.take i ++ new.take n).length = i + min new.length n := by simp; omega
                  rw [List.getElem?_append_right (by omega), htk, List.getElem?_drop] at he'
                  rw [show i + min new.length n + (j - (i + min new.length n)) = j by omega] at he'
                  exact holdj he' (.inr (by omega))
    | _ => exact h.elim

theorem aOp_eff {o : Oper} {l0 l : LOp} {a : Act} {s : St} {cx : Cx} {K : V → St → Prop} (hm : rl0 P o.op l0 = some l)
    (hr : Rep ρ X w s.h) (he : RepE ρ X w s.e a.tmps) (hfx : keepP cx.fx s.h) (h : aOp cx l s K) (hn : quietOp l = false) (hc : ∀ f xs, l ≠ .call f xs) (hv : ∀ f xs, l ≠ .callv f xs) :
    (∃ val w', (execOp a.eval o).run P w = .ok (.value val) w' ∧ Sound cx.fx cx.bn ρ X w a.tmps K val w') ∨
    (∃ w', (execOp a.eval o).run P w = .ok .skip w' ∧ Sound cx.fx cx.bn ρ X w a.tmps K undef w') := by
  unfold execOp
  generalize o.op = op at hm ⊢
  cases op with
  | box t x =>
    simp only [rl0] at hm
    split at hm
    · rename_i j _
      simp only [Option.some.injEq] at hm
      subst hm
      obtain ⟨cs, h1, h2, h3⟩ := optK_inv h
      have hx := cells_rep h1 (ev_rep he x)
      obtain ⟨ρ', hf, hag, hot, hr', hp⟩ := new_var hr h2 (T := t) hx (Made.alloc w _)
      refine .inl ⟨_, _, by simp [Instr.box, newVar, newRow, newObj, Sem.run], _, _, ρ', h3, ⟨keepP_mono hfx (hlv h2), fun k hk => hot.1 k (fresh_ne h2 (keepP_get hfx k hk)), fun k _ hreal => ⟨hag k hreal, hot.2 k hreal⟩⟩, hf, hr', RepE_mono hf hag he, hp⟩
    · cases hm
  | alloc t =>
    simp only [rl0] at hm
    split at hm
    · rename_i j _
      split at hm
      · rename_i inf hi
        split at hm
        · rename_i z hz
          simp only [Option.some.injEq] at hm
          subst hm
          obtain ⟨cs, h1, h2, h3⟩ := optK_inv h
          have hx := cells_rep h1 (ofConst_rep (ρ := ρ) (X := X) (w := w) z)
          obtain ⟨ρ', hf, hag, hot, hr', hp⟩ := new_var hr h2 (T := t) hx (Made.alloc w _)
          refine .inl ⟨_, _, by simp [Instr.alloc, zeroValue, typeInfo, hi, hz, newVar, newRow, newObj, Sem.run], _, _, ρ', h3, ⟨keepP_mono hfx (hlv h2), fun k hk => hot.1 k (fresh_ne h2 (keepP_get hfx k hk)), fun k _ hreal => ⟨hag k hreal, hot.2 k hreal⟩⟩, hf, hr', RepE_mono hf hag he, hp⟩
        · cases hm
      · cases hm
    · cases hm
  | store t p x =>
    simp only [rl0] at hm
    split at hm
    · rename_i inf hi
      simp only [Option.some.injEq] at hm
      subst hm
      obtain ⟨cs, h1, h2⟩ := optK_inv h
      have hx := cells_rep h1 (ev_rep he x)
      obtain ⟨h', w', h3, hlen, hf, hr', hrun⟩ := storeP_run hr hi (ev_rep he p) hx h2
      exact .inr ⟨w', by simp [hrun], _, _, ρ, h3, ⟨keepP_mono hfx hlen.1, fun _ _ => rfl, fun k hk hreal => ⟨rfl, hlen.2 k hk hreal⟩⟩, hf, hr', RepE_mono hf (fun _ _ => rfl) he, rfl⟩
    · cases hm
  | makeMap t r =>
    simp only [rl0] at hm
    split at hm
    · rename_i j _
      split at hm
      · rename_i kt e hu
        simp only [Option.some.injEq] at hm
        subst hm
        simp only [aOp] at h
        obtain ⟨h1, h2, h3⟩ := h
        obtain ⟨ρ', hf, hag, hot, hr', hp⟩ := new_obj hr h2 (B := .map [] 0) (Made.alloc w (.map #[] 0)) (fun ρ' _ _ hp => by
          simp only [RepB, hp]
          exact ⟨⟨trivial, trivial, trivial⟩, #[], heap_alloc_new w _, rfl, trivial⟩)
        have hrun : (Instr.makeMap t (r.map a.eval)).run P w = .ok (.map (some w.heap.size)) (w.alloc (.map #[] 0)) := by
          cases r with
          | none => simp [Instr.makeMap]
          | some x =>
            obtain ⟨q, n, hq, _⟩ := intK_inv h1
            have hx := ev_rep he x
            rw [hq] at hx
            have hx' : a.eval x = .int q n := hx
            simp [Instr.makeMap, run_underlying hu, asInt, asIntOf, hx']
        exact .inl ⟨.map (some w.heap.size), w.alloc (.map #[] 0), by simp [hrun], _, _, ρ', h3, ⟨keepP_mono hfx (live_set (by simp)), fun k hk => hot.1 k (fresh_ne h2 (keepP_get hfx k hk)), fun k _ hreal => ⟨hag k hreal, hot.2 k hreal⟩⟩, hf, hr', RepE_mono hf hag he, by simp only [RepV, hp]; exact ⟨trivial, trivial⟩⟩
      · cases hm
    · cases hm
  | lookup t m k ok =>
    simp only [rl0] at hm
    split at hm
    · rename_i kt e hu
      split at hm
      · rename_i kd inf hkt hi
        split at hm
        · rename_i z hz
          simp only [Option.some.injEq] at hm
          subst hm
          simp only [aOp] at h
          obtain ⟨key, hkv, hkey, h⟩ := keyK_inv h
          have hk := ev_rep he k
          rw [hkv] at hk
          have hk' : a.eval k = key := hk
          have hmr := ev_rep he m
          split at h
          · rename_i hmv
            rw [hmv] at hmr
            have hm' : a.eval m = .map none := hmr
            obtain ⟨x, val, h1, h2, h3⟩ := lookup_nil (ρ := ρ) (X := X) (w := w) hu hkt hi hz hkey h
            exact .inl ⟨val, w, by simp [hm', hk', h3], x, s, ρ, h1, ⟨hfx, fun _ _ => rfl, fun _ _ _ => ⟨rfl, rfl⟩⟩, Fr.refl _ _, hr, he, h2⟩
          · obtain ⟨b, es, c, arr, _, h1, _, _, _, _, hm', hb, hrm⟩ := map_blk hr hmr h
            obtain ⟨x, val, h1, h2, h3⟩ := lookup_run hu hkt hi hz hkey hb hrm h1
            exact .inl ⟨val, w, by simp [hm', hk', h3], x, s, ρ, h1, ⟨hfx, fun _ _ => rfl, fun _ _ _ => ⟨rfl, rfl⟩⟩, Fr.refl _ _, hr, he, h2⟩
        · cases hm
      · cases hm
    · cases hm
  | mapUpdate t m k x | insert t m k x =>
    simp only [rl0] at hm
    split at hm
    · rename_i kt e hu
      split at hm
      · rename_i kd hkt
        simp only [Option.some.injEq] at hm
        subst hm
        simp only [aOp] at h
        obtain ⟨key, hkv, hkey, h⟩ := keyK_inv h
        have hk := ev_rep he k
        rw [hkv] at hk
        have hk' : a.eval k = key := hk
        obtain ⟨b, es, c, arr, _, ⟨hbn, h1⟩, g1, g2, g3, _, hm', hb, hrm⟩ := map_blk hr (ev_rep he m) h
        obtain ⟨B, w', h2, h3, h4, h5, h6, h7⟩ := mset_run hr hu hkt hkey g1 g2 g3 hb hrm (ev_rep he x) h1
        exact .inr ⟨w', by simp [hm', hk', h7], _, _, ρ, h2, ⟨keepP_mono hfx (live_set h3), fun _ _ => rfl, fun j hj hjr => ⟨rfl, h6 j (fun e => hbn (e ▸ hj)) hjr⟩⟩, h4, h5, RepE_mono h4 (fun _ _ => rfl) he, rfl⟩
      · cases hm
    · cases hm
  | range t m =>
    simp only [rl0] at hm
    split at hm
    · rename_i j _
      split at hm
      · rename_i kt e hu
        simp only [Option.some.injEq] at hm
        subst hm
        simp only [aOp] at h
        have hmr := ev_rep he m
        obtain ⟨b, es, c, arr, hmv, ⟨h1, h2⟩, g1, g2, g3, _, hm', hb, hrm⟩ := map_blk hr hmr h
        obtain ⟨ρ', hf, hag, hot, hr', hp⟩ := new_obj hr h1 (B := .it (ev s.e m) c [] c) (Made.alloc w (.mapIter (some (ρ b).blk) c #[] c)) (fun ρ' hf hag hp => by
          simp only [RepB, hp]
          refine ⟨⟨trivial, trivial, trivial⟩, some (ρ b).blk, heap_alloc_new w _, ?_⟩
          rw [hm'] at hmr
          exact RepV_mono hf hag _ _ hmr)
        have hrun := run_range_map w t kt e (ρ b).blk arr c hu hb
        refine .inl ⟨.pointer (some ⟨w.heap.size, 0, none⟩), w.alloc (.mapIter (some (ρ b).blk) c #[] c), by simp [hm', hrun], _, _, ρ', h2, ⟨keepP_mono hfx (live_set (by simp)), fun k hk => hot.1 k (fresh_ne h1 (keepP_get hfx k hk)), fun k _ hreal => ⟨hag k hreal, hot.2 k hreal⟩⟩, hf, hr', RepE_mono hf hag he, ?_⟩
        simp only [RepV, hp]
        exact ⟨trivial, by simp⟩
      · cases hm
    · cases hm
  | next i isS =>
    simp only [rl0] at hm
    split at hm
    · cases hm
    · rename_i hs
      have hs' : isS = false := by simpa using hs
      subst hs'
      simp only [Option.some.injEq] at hm
      subst hm
      simp only [aOp] at h
      obtain ⟨k, m, since, seen, last, bm, _, h1, g1, g2, g3, hi', hit, hmv⟩ := it_blk hr (ev_rep he i) h
      obtain ⟨b, es, c, arr, _, ⟨hbn, h2⟩, _, _, _, _, hm', hb, hrm⟩ := map_blk hr hmv h1
      simp only [Value.map.injEq] at hm'
      subst hm'
      rcases next_run (P := P) (ty := o.type) hr g1 g2 g3 hit hmv hb hrm h2 with ⟨h3, hrun⟩ | ⟨key, x, born, w', val, h3, h4, h5, h6, h7, hrun⟩
      · exact .inl ⟨.tuple #[.bool false], w, by simp [hi', hrun], _, _, ρ, h3, ⟨hfx, fun _ _ => rfl, fun _ _ _ => ⟨rfl, rfl⟩⟩, Fr.refl _ _, hr, he, ⟨_, rfl, rfl, trivial⟩⟩
      · exact .inl ⟨.tuple #[.bool true, key, val], w', by simp [hi', hrun], _, _, ρ, h3, ⟨keepP_mono hfx (live_set (by simp)), fun _ _ => rfl, fun j hj hjr => ⟨rfl, h6 j (fun e => hbn (e ▸ hj)) hjr⟩⟩, h4, h5, RepE_mono h4 (fun _ _ => rfl) he, ⟨_, rfl, rfl, rfl, h7, trivial⟩⟩
  | entry i =>
    simp only [rl0, Option.some.injEq] at hm
    subst hm
    simp only [aOp] at h
    obtain ⟨k, m, since, seen, last, bm, _, h1, g1, g2, g3, hi', hit, hmv⟩ := it_blk hr (ev_rep he i) h
    obtain ⟨b, es, c, arr, _, ⟨hlast, h2⟩, _, _, _, _, hm', hb, hrm⟩ := map_blk hr hmv h1
    simp only [Value.map.injEq] at hm'
    subst hm'
    obtain ⟨x, val, h3, h4, hrun⟩ := entry_run (P := P) hit hb hrm hlast h2
    exact .inl ⟨val, w, by simp [hi', hrun], x, s, ρ, h3, ⟨hfx, fun _ _ => rfl, fun _ _ _ => ⟨rfl, rfl⟩⟩, Fr.refl _ _, hr, he, h4⟩
  | makeSlice t lx cx' =>
    simp only [rl0] at hm
    split at hm
    · rename_i j _ _ _ _ _
      split at hm
      · rename_i e hu
        split at hm
        · rename_i inf hi
          split at hm
          · rename_i z hz
            split at hm
            · rename_i hcnd
              simp only [Option.some.injEq] at hm
              subst hm
              obtain ⟨hs, hzs, hpl⟩ := hcnd
              obtain ⟨k, n, h1, h2⟩ := intK_inv h
              obtain ⟨k', n', h3, ⟨⟨h4, h5⟩, h6, h7⟩, h8, h9⟩ := intK_inv h2
              have hx := ev_rep he lx
              rw [h1] at hx
              have hx' : a.eval lx = .int k n := hx
              have hy := ev_rep he cx'
              rw [h3] at hy
              have hy' : a.eval cx' = .int k' n' := hy
              have hle : n.toNat * inf.size ≤ n'.toNat * inf.size := Nat.mul_le_mul_right _ (by omega)
              have hmz := made_zero (w := w) (n := n'.toNat) (S := Sta ρ X w) hzs hs (fun v hv => List.all_eq_true.1 hpl v hv)
              obtain ⟨ρ', hf, hag, hot, hr', hp⟩ := new_arv hr h8 hs (els := List.replicate n.toNat (z.cells.toList.map .v)) (Made.alloc w (.cells (madeCells z.cells (n'.toNat * inf.size)) e)) (by simp [size_madeCells]; exact hle)
                (fun i e' he' => by
                  obtain ⟨q1, q2⟩ := hmz i e' (by
                    rw [List.getElem?_replicate] at he' ⊢
                    split at he'
                    · rw [if_pos (by omega)]; exact he'
                    · cases he')
                  refine ⟨q1, fun f x hx => ?_⟩
                  obtain ⟨u, q3, q4⟩ := q2 f x hx
                  exact ⟨u, q3, RepV_of_D q4⟩) n.toNat n'.toNat (by omega) (by simp only [maxLen]; omega) (by simp [size_madeCells])
              exact .inl ⟨_, _, by simp [hx', hy', run_make w t e inf z hu hi hz k k' n n' h4 h5 h6 h7], _, _, ρ', h9, ⟨keepP_mono hfx (live_set (by simp)), fun k hk => hot.1 k (fresh_ne h8 (keepP_get hfx k hk)), fun k _ hreal => ⟨hag k hreal, hot.2 k hreal⟩⟩, hf, hr', RepE_mono hf hag he, hp⟩
            · cases hm
          · cases hm
        · cases hm
      · cases hm
    · rename_i j _ _ _ _ _
      split at hm
      · rename_i e hu
        split at hm
        · rename_i inf hi
          split at hm
          · rename_i z hz
            split at hm
            · rename_i hcnd
              simp only [Option.some.injEq] at hm
              subst hm
              obtain ⟨hs, hzs, hpl⟩ := hcnd
              obtain ⟨k, n, h1, h2⟩ := intK_inv h
              obtain ⟨k', n', h3, ⟨⟨h4, h5⟩, h6, h7⟩, h8, h9⟩ := intK_inv h2
              have hx := ev_rep he lx
              rw [h1] at hx
              have hx' : a.eval lx = .int k n := hx
              have hy := ev_rep he cx'
              rw [h3] at hy
              have hy' : a.eval cx' = .int k' n' := hy
              have hle : n.toNat * inf.size ≤ n'.toNat * inf.size := Nat.mul_le_mul_right _ (by omega)
              have hmz := made_zero (w := w) (n := n'.toNat) (S := Sta ρ X w) hzs hs (fun v hv => List.all_eq_true.1 hpl v hv)
              obtain ⟨ρ', hf, hag, hot, hr', hp⟩ := new_arr hr h8 hs (els := List.replicate n.toNat (z.cells.toList.map .v)) (Made.alloc w (.cells (madeCells z.cells (n'.toNat * inf.size)) e)) (by simp [size_madeCells]; exact hle)
                (fun i e' he' => hmz i e' (by
                  rw [List.getElem?_replicate] at he' ⊢
                  split at he'
                  · rw [if_pos (by omega)]; exact he'
                  · cases he')) n.toNat n'.toNat (by omega) (by simp only [maxLen]; omega) (by simp [size_madeCells])
              exact .inl ⟨_, _, by simp [hx', hy', run_make w t e inf z hu hi hz k k' n n' h4 h5 h6 h7], _, _, ρ', h9, ⟨keepP_mono hfx (live_set (by simp)), fun k hk => hot.1 k (fresh_ne h8 (keepP_get hfx k hk)), fun k _ hreal => ⟨hag k hreal, hot.2 k hreal⟩⟩, hf, hr', RepE_mono hf hag he, hp⟩
            · cases hm
          · cases hm
        · cases hm
      · cases hm
    · cases hm
  | buildSlice t n parts =>
    simp only [rl0] at hm
    split at hm
    · rename_i xs j _ _ _ _
      split at hm
      · rename_i e hu
        split at hm
        · rename_i inf hi
          split at hm
          · rename_i z hz
            split at hm
            · rename_i hcnd
              simp only [Option.some.injEq] at hm
              subst hm
              obtain ⟨hs, hzs, hsm, hpl⟩ := hcnd
              simp only [aOp] at h
              obtain ⟨s', ρ1, h, hsb, hf1, hfx1, hl1, hr1, he1⟩ := frzP_rep (t := a.tmps) xs s ρ h hr he (fun _ _ _ => trivial)
              have hfx' : keepP cx.fx s'.h := keepP_mk fun k hk => hl1 k (by simp [hk]) (keepP_get hfx k hk)
              have hmz := made_zero (w := w) (n := n) (S := Sta ρ1 X w) hzs hs (fun v hv => List.all_eq_true.1 hpl v hv)
              obtain ⟨els, cells', h1, h2, h3, h4⟩ := fill_lits he1 parts.toList _ (madeCells z.cells (n * inf.size)) ⟨by simp [size_madeCells], hmz⟩ h
              obtain ⟨h5, h6⟩ := h1
              have hel : els.length = n := by rw [h2]; simp
              have hnm : n ≤ 16777216 := by
                have : n * 1 ≤ n * inf.size := Nat.mul_le_mul_left _ hs
                omega
              obtain ⟨ρ', hf, hag, hot, hr', hp⟩ := new_arr hr1 h5 hs (Made.alloc w (.cells cells' e)) (Nat.le_of_eq h4.1.symm) h4.2 n n (Nat.le_refl _) (by simp only [maxLen]; omega) (by rw [h4.1, hel]; exact Nat.le_refl _)
              have hrun := lits_run (w := w) (parts := parts.map fun (i, x) => (i, a.eval x)) hu hi hz hs hsm (by rw [Array.toList_map]; exact h3)
              refine .inl ⟨_, _, by simp [hrun], _, _, ρ', h6, ⟨keepP_mono hfx' (live_set (by simp)), fun k hk => (hot.1 k (fresh_ne h5 (keepP_get hfx' k hk))).trans (hfx1 k (by simp [hk])), fun k hk hreal => ?_⟩, hf1.trans hf, hr', RepE_mono hf hag he1, hp⟩
              have hk1 := hfx1 k (by simp [hk])
              have hreal1 : (ρ1 k).real = true := by rw [hk1]; exact hreal
              exact ⟨(hag k hreal1).trans hk1, by rw [← hk1]; exact hot.2 k hreal1⟩
            · cases hm
          · cases hm
        · cases hm
      · cases hm
    · rename_i j _ _ _ _
      split at hm
      · rename_i e hu
        split at hm
        · rename_i inf hi
          split at hm
          · rename_i z hz
            split at hm
            · rename_i hcnd
              simp only [Option.some.injEq] at hm
              subst hm
              obtain ⟨hs, hzs, hsm, hpl⟩ := hcnd
              have hmz := made_zero (w := w) (n := n) (S := Sta ρ X w) hzs hs (fun v hv => List.all_eq_true.1 hpl v hv)
              obtain ⟨els, cells', h1, h2, h3, h4⟩ := fill_lits he parts.toList _ (madeCells z.cells (n * inf.size)) ⟨by simp [size_madeCells], hmz⟩ h
              obtain ⟨h5, h6⟩ := h1
              have hel : els.length = n := by rw [h2]; simp
              have hnm : n ≤ 16777216 := by
                have : n * 1 ≤ n * inf.size := Nat.mul_le_mul_left _ hs
                omega
              obtain ⟨ρ', hf, hag, hot, hr', hp⟩ := new_arr hr h5 hs (Made.alloc w (.cells cells' e)) (Nat.le_of_eq h4.1.symm) h4.2 n n (Nat.le_refl _) (by simp only [maxLen]; omega) (by rw [h4.1, hel]; exact Nat.le_refl _)
              have hrun := lits_run (w := w) (parts := parts.map fun (i, x) => (i, a.eval x)) hu hi hz hs hsm (by rw [Array.toList_map]; exact h3)
              exact .inl ⟨_, _, by simp [hrun], _, _, ρ', h6, ⟨keepP_mono hfx (live_set (by simp)), fun k hk => hot.1 k (fresh_ne h5 (keepP_get hfx k hk)), fun k _ hreal => ⟨hag k hreal, hot.2 k hreal⟩⟩, hf, hr', RepE_mono hf hag he, hp⟩
            · cases hm
          · cases hm
        · cases hm
      · cases hm
    · cases hm
  | call c =>
    simp only [rl0, rlCall] at hm
    split at hm
    · split at hm
      · simp only [Option.some.injEq] at hm; subst hm; simp [quietOp] at hn
      · simp only [Option.some.injEq] at hm; subst hm; simp [quietOp] at hn
      · rename_i x t hcal hargs hts _ kt e hu
        simp only [Option.some.injEq] at hm
        subst hm
        simp only [aOp] at h
        obtain ⟨b, es, c', arr, _, h1, _, _, _, _, hm', hb, hrm⟩ := map_blk hr (ev_rep he x) h
        have ha := toArray_of hargs
        have hat := toArray_of hts
        refine .inl ⟨.int .i64 es.length, w, ?_, _, s, ρ, h1, ⟨hfx, fun _ _ => rfl, fun _ _ _ => ⟨rfl, rfl⟩⟩, Fr.refl _ _, hr, he, rfl⟩
        have hlen : arr.size = es.length := by rw [repM_len hrm]; simp
        simp [resolve, hcal, ha, hat, invoke, builtin, Builtin.len_, run_underlying hu, hm', MapKept.run_getObj_map hb, goInt, hlen]
      · cases hm
    · simp only [Option.some.injEq] at hm; exact absurd hm.symm (hc _ _)
    · simp only [Option.some.injEq] at hm; exact absurd hm.symm (hv _ _)
    · simp only [Option.some.injEq] at hm; subst hm; simp [quietOp] at hn
    · simp only [Option.some.injEq] at hm; subst hm; simp [quietOp] at hn
    · rename_i m k t ts hcal hargs hts
      split at hm
      · rename_i kt e hu
        split at hm
        · rename_i kd hkt
          simp only [Option.some.injEq] at hm
          subst hm
          simp only [aOp] at h
          obtain ⟨key, hkv, hkey, h⟩ := keyK_inv h
          have hk := ev_rep he k
          rw [hkv] at hk
          have hk' : a.eval k = key := hk
          obtain ⟨b, es, c', arr, _, ⟨hbn, h1⟩, g1, g2, g3, _, hm', hb, hrm⟩ := map_blk hr (ev_rep he m) h
          obtain ⟨B, w', h2, h3, h4, h5, h6, h7⟩ := mdel_run (ty := o.type) (ts := ts) hr hu hkt hkey g1 g2 g3 hb hrm h1
          have ha := toArray_of hargs
          have hat := toArray_of hts
          exact .inl ⟨_, w', by simp [resolve, hcal, ha, hat, invoke, builtin, hm', hk', h7], _, _, ρ, h2, ⟨keepP_mono hfx (live_set h3), fun _ _ => rfl, fun j hj hjr => ⟨rfl, h6 j (fun e => hbn (e ▸ hj)) hjr⟩⟩, h4, h5, RepE_mono h4 (fun _ _ => rfl) he, rfl⟩
        · cases hm
      · cases hm
    · rename_i x y t t' hcal hargs hts
      split at hm
      · rename_i htt
        subst htt
        split at hm
        · rename_i e j _ _ _ _ ht
          split at hm
          · rename_i inf hi
            split at hm
            · rename_i z hz
              split at hm
              · rename_i hcnd
                obtain ⟨hs, hzs, hby⟩ := hcnd
                simp only [Option.some.injEq] at hm
                subst hm
                simp only [aOp] at h
                obtain ⟨sz', new, ⟨h1, h2⟩, h3⟩ := viewK_inv hr (ev_rep he y) h
                have hsh : Shows ρ X w (a.eval y) inf.size new := by
                  rcases h1 with rfl | rfl
                  · obtain ⟨ad, cp, k1, k2, _⟩ := h3
                    exact ⟨ad, cp, k1, k2, .inl rfl⟩
                  · exact h3
                have hx := ev_rep he x
                have hok : AppOk P cx.fx cx.bn ρ X w a.tmps (Builtin.append_ #[t, t] o.type #[a.eval x, a.eval y]) K := by
                  unfold appP at h2
                  split at h2
                  · rename_i k i n hxv
                    rw [hxv] at hx
                    exact appB_run ht hi hz hs hzs hby hr he hfx hx hsh h2
                  · rename_i hxv
                    rw [hxv] at hx
                    exact appNew_run ht hi hz hs hzs hby hr he hfx (.inl ⟨rfl, hx⟩) hsh h2
                  · rename_i sz0 els hxv
                    rw [hxv] at hx
                    obtain ⟨⟨rfl, hne⟩, h2⟩ := h2
                    obtain ⟨ad, len, k1, rfl, k3, k4⟩ := hx
                    exact appNew_run ht hi hz hs hzs hby hr he hfx (.inr ⟨hne, ad, k1, ad, els.length, k1, k3, k4.imp id fun ⟨b, off, e1, _, e2⟩ => ⟨b, off, e1, e2⟩⟩) hsh h2
                  · exact h2.elim
                obtain ⟨val, w', hrun, hsd⟩ := hok
                have ha := toArray_of hargs
                have hat := toArray_of hts
                exact .inl ⟨val, w', by simp [resolve, hcal, ha, hat, invoke, builtin, hrun], hsd⟩
              · cases hm
            · cases hm
          · cases hm
        · cases hm
      · cases hm
    · rename_i x y t t' hcal hargs hts
      split at hm
      · rename_i e e' ht ht'
        split at hm
        · rename_i inf hi
          simp only [Option.some.injEq] at hm
          subst hm
          simp only [aOp] at h
          obtain ⟨sz', new, ⟨h1, h2⟩, h3⟩ := viewK_inv hr (ev_rep he y) h
          have hsh : Shows ρ X w (a.eval y) inf.size new := by
            rcases h1 with rfl | rfl
            · obtain ⟨ad, cp, k1, k2, _⟩ := h3
              exact ⟨ad, cp, k1, k2, .inl rfl⟩
            · exact h3
          have hx := ev_rep he x
          have hok : AppOk P cx.fx cx.bn ρ X w a.tmps (Builtin.copy_ #[t, t'] o.type #[a.eval x, a.eval y]) K := by
            unfold copyP at h2
            split at h2
            · rename_i k i n hxv
              rw [hxv] at hx
              exact copyB_run ht hi hr he hfx hx hsh h2
            · exact h2.elim
          obtain ⟨val, w', hrun, hsd⟩ := hok
          have ha := toArray_of hargs
          have hat := toArray_of hts
          exact .inl ⟨val, w', by simp [resolve, hcal, ha, hat, invoke, builtin, hrun], hsd⟩
        · cases hm
      · cases hm
    · cases hm
  | _ =>
    exfalso
    simp only [rl0] at hm
    (repeat' split at hm) <;> first | (cases hm; done) | (simp only [Option.some.injEq] at hm; subst hm; simp [quietOp] at hn; done) | skip
    all_goals
      rw [Option.map_eq_some_iff] at hm
      obtain ⟨ps, _, rfl⟩ := hm
      simp [quietOp] at hn
end
end Go.Fx
