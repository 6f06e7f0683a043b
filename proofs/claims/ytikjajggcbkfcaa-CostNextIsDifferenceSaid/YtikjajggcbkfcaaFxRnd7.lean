import Derived.Test.YtikjajggcbkfcaaFxFrz
import Derived.StillTail
import Derived.Deep.LoopGhost
import Derived.RangeFuncRecord
import Derived.RangeFuncNested
import Derived.OrdersHeld
import Derived.OrdersIn
import Derived.TacticsIn
set_option linter.unusedVariables false
set_option linter.unusedSimpArgs false
set_option linter.unusedSectionVars false
namespace Go.Fx
open Go.RowKit
def Sound (fx bn : List Nat) (ρ : Nat → Loc) (X : Nat → Prop) (w : World) (t : Array Value) (K : V → St → Prop) (val : Value) (w' : World) : Prop :=
  ∃ x s' ρ', K x s' ∧ (keepP fx s'.h ∧ (∀ k ∈ fx, ρ' k = ρ k) ∧ ∀ k ∈ bn, (ρ k).real = true → ρ' k = ρ k ∧ w'.heap[(ρ k).blk]? = w.heap[(ρ k).blk]?) ∧ Fr ρ w ρ' w' ∧ Rep ρ' X w' s'.h ∧ RepE ρ' X w' s'.e t ∧ RepV ρ' X w' x val
section
variable {ρ : Nat → Loc} {X : Nat → Prop} {w : World} {P : Program}
theorem live_set {h : List Blk} {k : Nat} {B : Blk} (hB : B ≠ .dead) (j : Nat) (hj : liveP h j) : liveP (h.set k B) j := by
  unfold liveP at hj ⊢
  rw [List.getElem?_set]
  by_cases hk : k = j
  · subst hk
    rw [if_pos rfl]
    cases hb : h[k]? with
    | none => rw [hb] at hj; exact hj.elim
    | some B' =>
      have hl : k < h.length := (List.getElem?_eq_some_iff.1 hb).1
      rw [if_pos hl]
      cases B <;> first | trivial | exact (hB rfl).elim
  · rw [if_neg hk]
    exact hj
theorem keepP_get {h : List Blk} : ∀ {fx : List Nat}, keepP fx h → ∀ k ∈ fx, liveP h k
  | [], _, _, hk => by simp at hk
  | a :: r, hf, k, hk => by
    rcases List.mem_cons.1 hk with rfl | hk
    · exact hf.1
    · exact keepP_get hf.2 k hk
theorem keepP_mk {h : List Blk} : ∀ {fx : List Nat}, (∀ k ∈ fx, liveP h k) → keepP fx h
  | [], _ => trivial
  | a :: r, hf => ⟨hf a (by simp), keepP_mk fun k hk => hf k (by simp [hk])⟩
theorem keepP_mono {h h' : List Blk} {fx : List Nat} (hf : keepP fx h) (hl : ∀ k, liveP h k → liveP h' k) : keepP fx h' :=
  keepP_mk fun k hk => hl k (keepP_get hf k hk)
theorem fresh_ne {h : List Blk} {k j : Nat} (hk : freshP h k) (hj : liveP h j) : j ≠ k := by
  rintro rfl
  have := freshP_inv hk
  simp [liveP, this] at hj
theorem hlv {h : List Blk} {k : Nat} {cs : List V} (_ : freshP h k) : ∀ j, liveP h j → liveP (h.set k (.var cs)) j := live_set (by simp)
theorem RepL_one {cs : List V} {vs : List Value} (h : RepL ρ X w cs vs) (hd : cs.all isD = true) : ∀ v ∈ vs, v.oneCell' = true := by
  intro v hv
  obtain ⟨i, hi⟩ := List.getElem?_of_mem hv
  have hl := RepL_len h
  have hi' : i < cs.length := by rw [hl]; exact (List.getElem?_eq_some_iff.1 hi).1
  obtain ⟨u, h1, h2⟩ := RepL_get h (List.getElem?_eq_getElem hi')
  rw [hi] at h1
  simp only [Option.some.injEq] at h1
  subst h1
  exact RepD_one (RepD_of_V (List.all_eq_true.1 hd _ (List.getElem_mem hi')) h2)
theorem RepV_one {x : V} {val : Value} (hc : isC x = true) (h : RepV ρ X w x val) : val.oneCell' = true := by
  cases x with
  | v y => have h' : val = y := h; subst h'; cases val <;> simp_all [isC, Value.oneCell']
  | ro sz els => obtain ⟨a, len, cap, rfl, _⟩ := h; rfl
  | bro sz els => obtain ⟨a, len, cap, rfl, _⟩ := h; rfl
  | full sz els => obtain ⟨a, len, rfl, _⟩ := h; rfl
  | sl k i n => obtain ⟨cap, _, _, h3⟩ := h; rcases h3 with ⟨_, a, rfl⟩ | ⟨_, rfl, _⟩ <;> rfl
  | ptr k i f => obtain ⟨_, rfl⟩ := h; rfl
  | rp sz els i f => obtain ⟨b, off, rfl, _⟩ := h; rfl
  | clo f cs => obtain ⟨arr, rfl, _⟩ := h; rfl
  | mp k => obtain ⟨_, rfl⟩ := h; rfl
  | _ => simp [isC] at hc
theorem RepL_oneC {cs : List V} {vs : List Value} (h : RepL ρ X w cs vs) (hd : cs.all isC = true) : ∀ v ∈ vs, v.oneCell' = true := by
  intro v hv
  obtain ⟨i, hi⟩ := List.getElem?_of_mem hv
  have hl := RepL_len h
  have hi' : i < cs.length := by rw [hl]; exact (List.getElem?_eq_some_iff.1 hi).1
  obtain ⟨u, h1, h2⟩ := RepL_get h (List.getElem?_eq_getElem hi')
  rw [hi] at h1
  simp only [Option.some.injEq] at h1
  subst h1
  exact RepV_one (List.all_eq_true.1 hd _ (List.getElem_mem hi')) h2
theorem new_var {h : List Blk} (hr : Rep ρ X w h) {k : Nat} (hk : freshP h k) {cs : List V} {arr : Array Value} {T : TypeId} (hl : RepL ρ X w cs arr.toList) {w' : World} (hm : Made w w' (.cells arr T)) :
    ∃ ρ', Fr ρ w ρ' w' ∧ (∀ j, (ρ j).real = true → ρ' j = ρ j) ∧ ((∀ j, j ≠ k → ρ' j = ρ j) ∧ ∀ j, (ρ j).real = true → w'.heap[(ρ j).blk]? = w.heap[(ρ j).blk]?) ∧ Rep ρ' X w' (h.set k (.var cs)) ∧ RepV ρ' X w' (.ptr k 0 0) (.pointer (some ⟨w.heap.size, 0, none⟩)) := by
  have hk' := freshP_inv hk
  have hkr : (ρ k).real = false := hr.blk k _ hk'
  let l : Loc := ⟨true, w.heap.size, 0, 0, 0, default⟩
  have hf : Fr ρ w (upd ρ k l) w' := new_fr hm (k := k) rfl
  have hag := new_ag hkr l
  refine ⟨upd ρ k l, hf, hag, ⟨fun j hj => upd_other _ _ hj, fun j hj => hm.old (hr.lt j hj)⟩, new_rep hr hm hk' rfl ?_, ?_⟩
  · simp only [RepB, upd_same]
    exact ⟨⟨rfl, rfl, rfl⟩, arr, T, hm.new, RepL_mono hf hag _ _ hl⟩
  · simp only [RepV, upd_same]
    exact ⟨rfl, rfl⟩
theorem storeVar_run {t : TypeId} {b o : Nat} {val : Value} {inf : TypeInfo} {c : Array Value} {T : TypeId} (hi : P.info? t = some inf) (hn : val.cells.size = inf.size) (h : w.heap[b]? = some (.cells c T (0, 0)))
    (hl : o + val.cells.size ≤ c.size) (h1 : ∀ v ∈ val.cells.toList, v.oneCell' = true) :
    (Instr.storeAt t (.pointer (some ⟨b, o, none⟩)) val).run P w = .ok () (w.setCells b o val.cells.toList) := by
  have := run_storeCells_cells (P := P) b o val.cells.toList 0 w (fun j hj => by
      simp at hj
      simp [World.cell?, h, Array.getElem?_eq_getElem (show o + j < c.size by omega)]) (fun j hj => by simp [World.frozen?, h]) h1
  simp only [Nat.add_zero] at this
  simp [Instr.storeAt, Instr.sureAddr, storeVar, sizeOf, typeInfo, hi, hn, this]
theorem storeP_run {t : TypeId} {h : List Blk} {p : V} {pv val : Value} {cs : List V} {K : List Blk → Prop} {inf : TypeInfo} (hr : Rep ρ X w h) (hi : P.info? t = some inf) (hp : RepV ρ X w p pv) (hcs : RepL ρ X w cs val.cells.toList)
    {bn : List Nat} (hk : storeP bn h inf.size p cs K) : ∃ h' w', K h' ∧ ((∀ k, liveP h k → liveP h' k) ∧ ∀ k ∈ bn, (ρ k).real = true → w'.heap[(ρ k).blk]? = w.heap[(ρ k).blk]?) ∧ Fr ρ w ρ w' ∧ Rep ρ X w' h' ∧ (Instr.storeAt t pv val).run P w = .ok () w' := by
  have hlen := RepL_len hcs
  cases p with
  | ptr k i f =>
    obtain ⟨hreal, rfl⟩ := hp
    obtain ⟨⟨hn, hkbn⟩, hone, hk⟩ := hk
    have hbn : ∀ o : Nat, ∀ j ∈ bn, (ρ j).real = true → (w.setCells (ρ k).blk o val.cells.toList).heap[(ρ j).blk]? = w.heap[(ρ j).blk]? := fun _ j hj hjr => setCells_other _ _ _ _ _ (hr.inj j k (fun e => hkbn (e ▸ hj)) hjr hreal)
    have h1 := RepL_oneC hcs hone
    simp only [blk, List.getD_eq_getElem?_getD] at hk
    have hn' : val.cells.size = inf.size := by rw [← hn, hlen]; simp
    cases hb : h[k]? with
    | none => simp [hb, storeB] at hk
    | some B =>
      have hB := hr.blk k B hb
      rw [hb] at hk
      cases B with
      | dead => exact hk.elim
      | map _ _ => exact hk.elim
      | it _ _ _ _ => exact hk.elim
      | rcd _ _ => exact hk.elim
      | arv sz els =>
        obtain ⟨⟨hsz, hpos⟩, _, c, T, hh, hc, hroom, hels⟩ := hB
        obtain ⟨hfit, hlt, hk⟩ : (f + inf.size ≤ sz) ∧ ∃ hi : i < els.length, K _ := hk
        have hel := hels i _ (List.getElem?_eq_getElem hlt)
        have hle : (i + 1) * sz ≤ els.length * sz := Nat.mul_le_mul_right _ (by omega)
        rw [Nat.add_mul, Nat.one_mul] at hle
        have hfit' : (ρ k).off + i * sz + f + val.cells.size ≤ c.size := by omega
        obtain ⟨c', h2, h3, h4⟩ := setCells_heap _ val.cells.toList ((ρ k).off + i * sz + f) w c T (0, 0) hh (by simpa using hfit')
        have hf := store_fr hr hreal ((ρ k).off + i * sz + f) val.cells.toList
        refine ⟨_, _, hk, ⟨live_set (by simp), hbn _⟩, hf, ?_, ?_⟩
        rotate_left
        · rw [hsz]
          exact storeVar_run hi hn' hh hfit' h1
        · refine store_rep hr hreal ⟨⟨hsz, hpos⟩, hreal, c', T, h2, by omega, by simpa using hroom, ?_⟩
          intro j e he
          by_cases hj : j = i
          · subst hj
            rw [List.getElem?_set_self (by simpa using hlt)] at he
            simp only [Option.some.injEq] at he
            subst he
            refine ⟨by rw [splice_len (by omega)]; exact hel.1, fun g x hx => ?_⟩
            rw [splice_get (by omega)] at hx
            split at hx
            · rename_i hg
              obtain ⟨v, h5, h6⟩ := RepL_get hcs hx
              refine ⟨v, ?_, RepV_mono hf (fun _ _ => rfl) _ _ h6⟩
              rw [h4, if_pos (by simp; omega)]
              rw [show (ρ k).off + j * sz + g - ((ρ k).off + j * sz + f) = g - f by omega]
              exact h5
            · rename_i hg
              obtain ⟨v, h5, h6⟩ := hel.2 g x hx
              refine ⟨v, ?_, RepV_mono hf (fun _ _ => rfl) _ _ h6⟩
              rw [h4, if_neg (by simp; omega)]
              exact h5
          · rw [List.getElem?_set_ne (Ne.symm hj)] at he
            have hej := hels j e he
            have hjl : j < els.length := (List.getElem?_eq_some_iff.1 he).1
            refine ⟨hej.1, fun g x hx => ?_⟩
            obtain ⟨v, h5, h6⟩ := hej.2 g x hx
            have hgl : g < sz := by rw [← hej.1]; exact (List.getElem?_eq_some_iff.1 hx).1
            refine ⟨v, ?_, RepV_mono hf (fun _ _ => rfl) _ _ h6⟩
            have hapart : (ρ k).off + j * sz + g < (ρ k).off + i * sz + f ∨ (ρ k).off + i * sz + f + val.cells.toList.length ≤ (ρ k).off + j * sz + g := by
              rcases Nat.lt_or_gt_of_ne hj with h7 | h7
              · have : (j + 1) * sz ≤ i * sz := Nat.mul_le_mul_right _ (by omega)
                rw [Nat.add_mul, Nat.one_mul] at this
                omega
              · have : (i + 1) * sz ≤ j * sz := Nat.mul_le_mul_right _ (by omega)
                rw [Nat.add_mul, Nat.one_mul] at this
                right
                simp
                omega
            rw [h4, if_neg (by omega)]
            exact h5
      | var old =>
        obtain ⟨⟨_, hoff, hsz⟩, c, T, hh, hl⟩ := hB
        obtain ⟨hfit, hk⟩ : (f + inf.size ≤ old.length) ∧ K _ := hk
        have holdl := RepL_len hl
        have hcs' : c.size = old.length := by simpa using holdl.symm
        have hfit' : f + val.cells.size ≤ c.size := by omega
        obtain ⟨c', h2, h3, h4⟩ := setCells_heap _ val.cells.toList f w c T (0, 0) hh (by simpa using hfit')
        have hf := store_fr hr hreal f val.cells.toList
        refine ⟨_, _, hk, ⟨live_set (by simp), hbn _⟩, hf, store_rep hr hreal ?_, ?_⟩
        · refine ⟨⟨hreal, hoff, hsz⟩, c', T, h2, RepL_mk ?_ ?_⟩
          · rw [splice_len (by omega)]
            simp
            omega
          · intro g x hx
            rw [splice_get (by omega)] at hx
            simp only [Array.getElem?_toList, h4]
            split at hx
            · rename_i hg
              rw [if_pos (by simp; omega)]
              obtain ⟨v, h5, h6⟩ := RepL_get hcs hx
              exact ⟨v, by simpa using h5, RepV_mono hf (fun _ _ => rfl) _ _ h6⟩
            · rename_i hg
              rw [if_neg (by simp; omega)]
              obtain ⟨v, h5, h6⟩ := RepL_get hl hx
              exact ⟨v, by simpa using h5, RepV_mono hf (fun _ _ => rfl) _ _ h6⟩
        · rw [hoff, hsz, show 0 + i * 0 + f = f by omega]
          exact storeVar_run hi hn' hh hfit' h1
      | arr sz els =>
        obtain ⟨⟨hsz, hpos⟩, hor⟩ := hB
        obtain ⟨⟨hfit, hdat⟩, hlt, hk⟩ : (f + inf.size ≤ sz ∧ cs.all isD = true) ∧ ∃ hi : i < els.length, K _ := hk
        rcases hor with ⟨_, rfl⟩ | ⟨_, c, T, hh, hc, hroom, hels⟩
        · simp at hlt
        · have hel := RepEls_get hels (List.getElem?_eq_getElem hlt)
          have hle : (i + 1) * sz ≤ els.length * sz := Nat.mul_le_mul_right _ (by omega)
          rw [Nat.add_mul, Nat.one_mul] at hle
          have hfit' : (ρ k).off + i * sz + f + val.cells.size ≤ c.size := by omega
          obtain ⟨c', h2, h3, h4⟩ := setCells_heap _ val.cells.toList ((ρ k).off + i * sz + f) w c T (0, 0) hh (by simpa using hfit')
          have hf := store_fr hr hreal ((ρ k).off + i * sz + f) val.cells.toList
          refine ⟨_, _, hk, ⟨live_set (by simp), hbn _⟩, hf, ?_, ?_⟩
          rotate_left
          · rw [hsz]
            exact storeVar_run hi hn' hh hfit' h1
          · refine store_rep hr hreal ⟨⟨hsz, hpos⟩, .inr ⟨hreal, c', T, h2, by omega, by simpa using hroom, ?_⟩⟩
            refine RepEls_mk fun j e he => ?_
            by_cases hj : j = i
            · subst hj
              rw [List.getElem?_set_self (by simpa using hlt)] at he
              simp only [Option.some.injEq] at he
              subst he
              refine ⟨by rw [splice_len (by omega)]; exact hel.1, RepCs_mk fun g x hx => ?_⟩
              rw [splice_get (by omega)] at hx
              simp only [World.cell?, h2]
              split at hx
              · rename_i hg
                obtain ⟨v, h5, h6⟩ := RepL_get hcs hx
                refine ⟨v, ?_, RepD_mono hf.sta _ _ (RepD_of_V ?_ h6)⟩
                · simp only [Option.isSome_none, Bool.false_eq_true, if_false, h4]
                  rw [if_pos (by simp; omega)]
                  rw [show (ρ k).off + j * sz + g - ((ρ k).off + j * sz + f) = g - f by omega]
                  exact h5
                · exact List.all_eq_true.1 hdat _ (List.mem_of_getElem? hx)
              · rename_i hg
                obtain ⟨v, h5, h6⟩ := RepCs_get hel.2 hx
                refine ⟨v, ?_, RepD_mono hf.sta _ _ h6⟩
                simp only [Option.isSome_none, Bool.false_eq_true, if_false, h4]
                rw [if_neg (by simp; omega)]
                simpa [World.cell?, hh] using h5
            · rw [List.getElem?_set_ne (Ne.symm hj)] at he
              have hej := RepEls_get hels he
              have hjl : j < els.length := (List.getElem?_eq_some_iff.1 he).1
              refine ⟨hej.1, RepCs_mk fun g x hx => ?_⟩
              obtain ⟨v, h5, h6⟩ := RepCs_get hej.2 hx
              have hgl : g < sz := by rw [← hej.1]; exact (List.getElem?_eq_some_iff.1 hx).1
              refine ⟨v, ?_, RepD_mono hf.sta _ _ h6⟩
              simp only [World.cell?, h2, Option.isSome_none, Bool.false_eq_true, if_false, h4]
              have hapart : (ρ k).off + j * sz + g < (ρ k).off + i * sz + f ∨ (ρ k).off + i * sz + f + val.cells.toList.length ≤ (ρ k).off + j * sz + g := by
                rcases Nat.lt_or_gt_of_ne hj with h7 | h7
                · have : (j + 1) * sz ≤ i * sz := Nat.mul_le_mul_right _ (by omega)
                  rw [Nat.add_mul, Nat.one_mul] at this
                  omega
                · have : (i + 1) * sz ≤ j * sz := Nat.mul_le_mul_right _ (by omega)
                  rw [Nat.add_mul, Nat.one_mul] at this
                  right
                  simp
                  omega
              rw [if_neg (by omega)]
              simpa [World.cell?, hh] using h5
  | _ => exact hk.elim
theorem els_of_cells {S S' : Nat → Prop} {w' : World} {sz b off : Nat} {els : List (List V)} {c : Array Value} {T : TypeId} {fz : Nat × Nat} (hS : ∀ b, S b → S' b ∧ w'.heap[b]? = w.heap[b]?) (hh : w'.heap[b]? = some (.cells c T fz))
    (h : ∀ (i : Nat) (e : List V), els[i]? = some e → e.length = sz ∧ ∀ (f : Nat) (x : V), e[f]? = some x → ∃ u, c[off + i * sz + f]? = some u ∧ RepD S w x u) : RepEls S' w' sz b off els :=
  RepEls_mk fun i e he => ⟨(h i e he).1, RepCs_mk fun f x hx => by
    obtain ⟨u, h1, h2⟩ := (h i e he).2 f x hx
    exact ⟨u, by simp [World.cell?, hh, h1], RepD_mono hS x u h2⟩⟩
theorem new_arr {h : List Blk} (hr : Rep ρ X w h) {k : Nat} (hk : freshP h k) {sz : Nat} (hsz : 0 < sz) {els : List (List V)} {c : Array Value} {T : TypeId} {w' : World} (hm : Made w w' (.cells c T)) (hlen : els.length * sz ≤ c.size)
    (hc : ∀ (i : Nat) (e : List V), els[i]? = some e → e.length = sz ∧ ∀ (f : Nat) (x : V), e[f]? = some x → ∃ u, c[i * sz + f]? = some u ∧ RepD (Sta ρ X w) w x u) (n cap : Nat) (hn : n ≤ cap) (hcm : cap ≤ maxLen) (hcs : cap * sz ≤ c.size) :
    ∃ ρ', Fr ρ w ρ' w' ∧ (∀ j, (ρ j).real = true → ρ' j = ρ j) ∧ ((∀ j, j ≠ k → ρ' j = ρ j) ∧ ∀ j, (ρ j).real = true → w'.heap[(ρ j).blk]? = w.heap[(ρ j).blk]?) ∧ Rep ρ' X w' (h.set k (.arr sz els)) ∧ RepV ρ' X w' (.sl k 0 n) (.slice (some ⟨w.heap.size, 0, none⟩) n cap) := by
  have hk' := freshP_inv hk
  have hkr : (ρ k).real = false := hr.blk k _ hk'
  have hf : Fr ρ w (upd ρ k ⟨true, w.heap.size, 0, sz, c.size, default⟩) w' := new_fr hm (k := k) rfl
  have hag := new_ag hkr ⟨true, w.heap.size, 0, sz, c.size, default⟩
  refine ⟨upd ρ k ⟨true, w.heap.size, 0, sz, c.size, default⟩, hf, hag, ⟨fun j hj => upd_other _ _ hj, fun j hj => hm.old (hr.lt j hj)⟩, new_rep hr hm hk' rfl ?_, ?_⟩
  · simp only [RepB, upd_same]
    refine ⟨⟨trivial, hsz⟩, .inr ⟨trivial, c, T, hm.new, rfl, by omega, ?_⟩⟩
    exact els_of_cells hf.sta hm.new (by simpa using hc)
  · simp only [RepV, upd_same]
    exact ⟨cap, hn, hcm, .inr ⟨trivial, by simp, by simpa using hcs⟩⟩
theorem new_arv {h : List Blk} (hr : Rep ρ X w h) {k : Nat} (hk : freshP h k) {sz : Nat} (hsz : 0 < sz) {els : List (List V)} {c : Array Value} {T : TypeId} {w' : World} (hm : Made w w' (.cells c T)) (hlen : els.length * sz ≤ c.size)
    (hc : ∀ (i : Nat) (e : List V), els[i]? = some e → e.length = sz ∧ ∀ (f : Nat) (x : V), e[f]? = some x → ∃ u, c[i * sz + f]? = some u ∧ RepV ρ X w x u) (n cap : Nat) (hn : n ≤ cap) (hcm : cap ≤ maxLen) (hcs : cap * sz ≤ c.size) :
    ∃ ρ', Fr ρ w ρ' w' ∧ (∀ j, (ρ j).real = true → ρ' j = ρ j) ∧ ((∀ j, j ≠ k → ρ' j = ρ j) ∧ ∀ j, (ρ j).real = true → w'.heap[(ρ j).blk]? = w.heap[(ρ j).blk]?) ∧ Rep ρ' X w' (h.set k (.arv sz els)) ∧ RepV ρ' X w' (.sl k 0 n) (.slice (some ⟨w.heap.size, 0, none⟩) n cap) := by
  have hk' := freshP_inv hk
  have hkr : (ρ k).real = false := hr.blk k _ hk'
  have hf : Fr ρ w (upd ρ k ⟨true, w.heap.size, 0, sz, c.size, default⟩) w' := new_fr hm (k := k) rfl
  have hag := new_ag hkr ⟨true, w.heap.size, 0, sz, c.size, default⟩
  refine ⟨upd ρ k ⟨true, w.heap.size, 0, sz, c.size, default⟩, hf, hag, ⟨fun j hj => upd_other _ _ hj, fun j hj => hm.old (hr.lt j hj)⟩, new_rep hr hm hk' rfl ?_, ?_⟩
  · simp only [RepB, upd_same]
    refine ⟨⟨trivial, hsz⟩, trivial, c, T, hm.new, rfl, by omega, fun i e he => ⟨(hc i e he).1, fun f x hx => ?_⟩⟩
    obtain ⟨u, h1, h2⟩ := (hc i e he).2 f x hx
    exact ⟨u, by simpa using h1, RepV_mono hf hag _ _ h2⟩
  · simp only [RepV, upd_same]
    exact ⟨cap, hn, hcm, .inr ⟨trivial, by simp, by simpa using hcs⟩⟩
theorem new_virtual {h : List Blk} (hr : Rep ρ X w h) {k : Nat} (hk : freshP h k) {sz : Nat} (hsz : 0 < sz) :
    ∃ ρ', Fr ρ w ρ' w ∧ (∀ j, (ρ j).real = true → ρ' j = ρ j) ∧ ((∀ j, j ≠ k → ρ' j = ρ j) ∧ ∀ j, (ρ j).real = true → w.heap[(ρ j).blk]? = w.heap[(ρ j).blk]?) ∧ Rep ρ' X w (h.set k (.arr sz [])) := by
  have hk' := freshP_inv hk
  have hkr : (ρ k).real = false := hr.blk k _ hk'
  have hklt : k < h.length := (List.getElem?_eq_some_iff.1 hk').1
  let l : Loc := ⟨false, 0, 0, sz, 0, default⟩
  have hown : ∀ b, Own (upd ρ k l) b → Own ρ b := by
    rintro b ⟨j, h1, h2⟩
    by_cases hj : j = k
    · subst hj; rw [upd_same] at h1; cases h1
    · rw [upd_other _ _ hj] at h1 h2; exact ⟨j, h1, h2⟩
  have hf : Fr ρ w (upd ρ k l) w := ⟨rfl, rfl, rfl, Nat.le_refl _, fun b _ ho => ⟨rfl, fun h => ho (hown b h)⟩⟩
  have hag := new_ag hkr l
  refine ⟨upd ρ k l, hf, hag, ⟨fun j hj => upd_other _ _ hj, fun _ _ => rfl⟩, ⟨?_, ?_, ?_, fun b hb => hr.disj b (hown b hb), ?_, hr.xlt⟩⟩
  · intro i j hij hi hj
    by_cases h1 : i = k
    · subst h1; rw [upd_same] at hi; cases hi
    · by_cases h2 : j = k
      · subst h2; rw [upd_same] at hj; cases hj
      · rw [upd_other _ _ h1] at hi ⊢
        rw [upd_other _ _ h2] at hj ⊢
        exact hr.inj i j hij hi hj
  · intro j hj
    rw [upd_other _ _ (by simp at hj; omega)]
    exact hr.out j (by simpa using hj)
  · intro j B' hB'
    by_cases h1 : j = k
    · subst h1
      rw [List.getElem?_set_self hklt] at hB'
      simp only [Option.some.injEq] at hB'
      subst hB'
      simp only [RepB, upd_same]
      exact ⟨⟨rfl, hsz⟩, .inl ⟨rfl, trivial⟩⟩
    · rw [List.getElem?_set_ne (Ne.symm h1)] at hB'
      exact RepB_mono hf hag (upd_other _ _ h1) (fun _ => rfl) (hr.blk j B' hB')
  · intro j hj
    by_cases h3 : j = k
    · subst h3; rw [upd_same] at hj; cases hj
    · rw [upd_other _ _ h3] at hj ⊢; exact hr.lt j hj
def Shows (ρ : Nat → Loc) (X : Nat → Prop) (w : World) (val : Value) (sz : Nat) (els : List (List V)) : Prop :=
  ∃ a cap, val = .slice a els.length cap ∧ els.length ≤ maxLen ∧ (els = [] ∨ ∃ b off, a = some ⟨b, off, none⟩ ∧ RepEls (Sta ρ X w) w sz b off els)
theorem viewK_inv {h : List Blk} (hr : Rep ρ X w h) {x : V} {val : Value} {K : Nat → List (List V) → Prop} (hx : RepV ρ X w x val) (hk : viewK h x K) : ∃ sz els, K sz els ∧ Shows ρ X w val sz els := by
  unfold viewK at hk
  split at hk
  · rename_i k i n
    unfold blk at hk
    rw [List.getD_eq_getElem?_getD] at hk
    cases hb : h[k]? with
    | none => simp [hb] at hk
    | some B =>
      rw [hb] at hk
      have hB := hr.blk k B hb
      cases B with
      | arr sz els =>
        obtain ⟨⟨hsz, hpos⟩, hor⟩ := hB
        obtain ⟨h1, h2⟩ : i + n ≤ els.length ∧ K sz ((els.drop i).take n) := hk
        have hlen : ((els.drop i).take n).length = n := by simp; omega
        refine ⟨sz, _, h2, ?_⟩
        obtain ⟨cap, h4, h5, h6⟩ := hx
        rcases h6 with ⟨rfl, a, rfl⟩ | ⟨hreal, rfl, hroom⟩
        · have hn : n = 0 := by omega
          subst hn
          exact ⟨a, 0, by simp, by simp [maxLen], .inl (by simp)⟩
        · rcases hor with ⟨h7, _⟩ | ⟨_, c, T, hh, hc, hrm, hels⟩
          · rw [h7] at hreal; cases hreal
          · exact ⟨_, cap, by rw [hlen], by rw [hlen]; omega, .inr ⟨_, _, rfl, by rw [hsz]; exact slc_els hels⟩⟩
      | _ => exact hk.elim
  · obtain ⟨a, len, cap, rfl, rfl, h4, h5, h6⟩ := hx
    exact ⟨_, _, hk, a, cap, rfl, by omega, h6.imp id fun ⟨b, off, e1, _, e2⟩ => ⟨b, off, e1, e2⟩⟩
  · obtain ⟨a, len, cap, rfl, rfl, h4, h5, h6⟩ := hx
    exact ⟨_, _, hk, a, cap, rfl, by omega, h6.imp id fun ⟨b, off, e1, _, e2⟩ => ⟨b, off, e1, e2⟩⟩
  · obtain ⟨a, len, rfl, rfl, h5, h6⟩ := hx
    exact ⟨_, _, hk, a, _, rfl, by omega, h6.imp id fun ⟨b, off, e1, _, e2⟩ => ⟨b, off, e1, e2⟩⟩
  · have hx' : val = .slice none 0 0 := hx
    subst hx'
    exact ⟨_, _, hk, none, 0, rfl, by simp [maxLen], .inl rfl⟩
  · exact hk.elim
theorem flat_cells {S : Nat → Prop} {sz b : Nat} : ∀ {off : Nat} {els : List (List V)}, RepEls S w sz b off els →
    ∃ vs : List Value, vs.length = els.length * sz ∧ (∀ j v, vs[j]? = some v → w.cell? ⟨b, off + j, none⟩ = some v) ∧ (∀ v ∈ vs, v.oneCell' = true) ∧
      ∀ (i : Nat) (e : List V), els[i]? = some e → e.length = sz ∧ ∀ (f : Nat) (x : V), e[f]? = some x → ∃ u, vs[i * sz + f]? = some u ∧ RepD S w x u
  | off, [], _ => ⟨[], by simp, fun j v h => by simp at h, by simp, fun i e h => by simp at h⟩
  | off, e :: r, ⟨⟨hlen, hcs⟩, hr⟩ => by
    obtain ⟨vs, h1, h2, h3, h4⟩ := flat_cells hr
    have key : ∀ {o : Nat} {cs : List V}, RepCs S w b o cs → ∃ us : List Value, us.length = cs.length ∧ (∀ j v, us[j]? = some v → w.cell? ⟨b, o + j, none⟩ = some v) ∧ (∀ v ∈ us, v.oneCell' = true) ∧ ∀ (f : Nat) (x : V), cs[f]? = some x → ∃ u, us[f]? = some u ∧ RepD S w x u := by
      intro o cs hc
      induction cs generalizing o with
      | nil => exact ⟨[], rfl, fun j v h => by simp at h, by simp, fun f x h => by simp at h⟩
      | cons x rest ih =>
        obtain ⟨⟨u, g1, g2⟩, g3⟩ := hc
        obtain ⟨us, k1, k2, k3, k4⟩ := ih g3
        refine ⟨u :: us, by simp [k1], fun j v hj => ?_, fun v hv => ?_, fun f y hy => ?_⟩
        · cases j with
          | zero => simp at hj; subst hj; simpa using g1
          | succ j =>
            rw [show o + (j + 1) = o + 1 + j by omega]
            exact k2 j v (by simpa using hj)
        · rcases List.mem_cons.1 hv with rfl | hv
          · exact RepD_one g2
          · exact k3 v hv
        · cases f with
          | zero => simp at hy; subst hy; exact ⟨u, rfl, g2⟩
          | succ f => simpa using k4 f y (by simpa using hy)
    obtain ⟨us, k1, k2, k3, k4⟩ := key hcs
    have hul : us.length = sz := by rw [k1, hlen]
    refine ⟨us ++ vs, by simp [hul, h1, Nat.add_mul]; omega, fun j v hj => ?_, fun v hv => ?_, fun i e' he' => ?_⟩
    · by_cases hjs : j < sz
      · rw [List.getElem?_append_left (by omega)] at hj
        exact k2 j v hj
      · rw [List.getElem?_append_right (by omega), hul] at hj
        have := h2 _ v hj
        rw [show off + sz + (j - sz) = off + j by omega] at this
        exact this
    · rcases List.mem_append.1 hv with hv | hv
      · exact k3 v hv
      · exact h3 v hv
    · cases i with
      | zero =>
        simp only [List.getElem?_cons_zero, Option.some.injEq] at he'
        subst he'
        refine ⟨hlen, fun f x hx => ?_⟩
        have hf : f < sz := by rw [← hlen]; exact (List.getElem?_eq_some_iff.1 hx).1
        rw [List.getElem?_append_left (by omega)]
        simpa using k4 f x hx
      | succ i =>
        obtain ⟨g1, g2⟩ := h4 i e' (by simpa using he')
        refine ⟨g1, fun f x hx => ?_⟩
        rw [List.getElem?_append_right (by rw [hul, Nat.add_mul]; omega), hul]
        rw [show (i + 1) * sz + f - sz = i * sz + f by rw [Nat.add_mul]; omega]
        exact g2 f x hx
theorem Shows.cells {val : Value} {sz : Nat} {els : List (List V)} (h : Shows ρ X w val sz els) (hne : els ≠ []) :
    ∃ (b off cap : Nat) (vs : List Value), val = .slice (some ⟨b, off, none⟩) els.length cap ∧ vs.length = els.length * sz ∧ (∀ j v, vs[j]? = some v → w.cell? ⟨b, off + j, none⟩ = some v) ∧ (∀ v ∈ vs, v.oneCell' = true) ∧
      ∀ (i : Nat) (e : List V), els[i]? = some e → e.length = sz ∧ ∀ (f : Nat) (x : V), e[f]? = some x → ∃ u, vs[i * sz + f]? = some u ∧ RepD (Sta ρ X w) w x u := by
  obtain ⟨a, cap, rfl, _, h3⟩ := h
  rcases h3 with h3 | ⟨b, off, rfl, h4⟩
  · exact absurd h3 hne
  · obtain ⟨vs, k1, k2, k3, k4⟩ := flat_cells h4
    exact ⟨b, off, cap, vs, rfl, k1, k2, k3, k4⟩
theorem append_els {S : Nat → Prop} {sz : Nat} {A B : List (List V)} {us vs rest : List Value} (hu : us.length = A.length * sz) (hv : vs.length = B.length * sz)
    (hA : ∀ (i : Nat) (e : List V), A[i]? = some e → e.length = sz ∧ ∀ (f : Nat) (x : V), e[f]? = some x → ∃ u, us[i * sz + f]? = some u ∧ RepD S w x u)
    (hB : ∀ (i : Nat) (e : List V), B[i]? = some e → e.length = sz ∧ ∀ (f : Nat) (x : V), e[f]? = some x → ∃ u, vs[i * sz + f]? = some u ∧ RepD S w x u) :
    ∀ (i : Nat) (e : List V), (A ++ B)[i]? = some e → e.length = sz ∧ ∀ (f : Nat) (x : V), e[f]? = some x → ∃ u, (us ++ vs ++ rest)[i * sz + f]? = some u ∧ RepD S w x u := by
  intro i e he
  by_cases hi : i < A.length
  · rw [List.getElem?_append_left hi] at he
    obtain ⟨h1, h2⟩ := hA i e he
    refine ⟨h1, fun f x hx => ?_⟩
    obtain ⟨u, h3, h4⟩ := h2 f x hx
    have hlt : i * sz + f < us.length := (List.getElem?_eq_some_iff.1 h3).1
    exact ⟨u, by rw [List.append_assoc, List.getElem?_append_left hlt]; exact h3, h4⟩
  · rw [List.getElem?_append_right (by omega)] at he
    obtain ⟨h1, h2⟩ := hB _ e he
    refine ⟨h1, fun f x hx => ?_⟩
    obtain ⟨u, h3, h4⟩ := h2 f x hx
    have hlt : (i - A.length) * sz + f < vs.length := (List.getElem?_eq_some_iff.1 h3).1
    have e1 : i * sz = A.length * sz + (i - A.length) * sz := by rw [← Nat.add_mul]; congr 1; omega
    refine ⟨u, ?_, h4⟩
    rw [List.append_assoc, List.getElem?_append_right (by omega), List.getElem?_append_left (by omega), hu]
    rw [show i * sz + f - A.length * sz = (i - A.length) * sz + f by omega]
    exact h3
theorem made_zero {z : Value} {sz n : Nat} (hz : z.cells.size = sz) (hsz : 0 < sz) (hone : ∀ v ∈ z.cells.toList, isD (.v v) = true) {S : Nat → Prop} :
    ∀ (i : Nat) (e : List V), (List.replicate n (z.cells.toList.map V.v))[i]? = some e → e.length = sz ∧ ∀ (f : Nat) (x : V), e[f]? = some x → ∃ u, (madeCells z.cells (n * sz))[i * sz + f]? = some u ∧ RepD S w x u := by
  intro i e he
  rw [List.getElem?_replicate] at he
  split at he
  · rename_i hi
    simp only [Option.some.injEq] at he
    subst he
    refine ⟨by simpa using hz, fun f x hx => ?_⟩
    simp only [List.getElem?_map, Option.map_eq_some_iff] at hx
    obtain ⟨u, hu, rfl⟩ := hx
    have hf : f < sz := by rw [← hz]; simpa using (List.getElem?_eq_some_iff.1 hu).1
    have hlt : i * sz + f < n * sz := by
      have : (i + 1) * sz ≤ n * sz := Nat.mul_le_mul_right _ (by omega)
      rw [Nat.add_mul] at this
      omega
    refine ⟨u, ?_, rfl, hone u (List.mem_of_getElem? hu)⟩
    have hmod : (i * sz + f) % sz = f := by rw [Nat.mul_comm, Nat.mul_add_mod, Nat.mod_eq_of_lt hf]
    unfold madeCells
    rw [Array.getElem?_map, Array.getElem?_range, if_pos hlt]
    simp only [Option.map_some, Option.some.injEq, hz, hmod]
    have hu' : z.cells[f]? = some u := by simpa using hu
    rw [getElem!_def, hu']
  · cases he
def Flat (S : Nat → Prop) (w : World) (sz : Nat) (els : List (List V)) (c : Array Value) : Prop :=
  c.size = els.length * sz ∧ ∀ (i : Nat) (e : List V), els[i]? = some e → e.length = sz ∧ ∀ (f : Nat) (x : V), e[f]? = some x → ∃ u, c[i * sz + f]? = some u ∧ RepD S w x u
theorem fill_lits {e : Env} {a : Act} (he : RepE ρ X w e a.tmps) {sz : Nat} {K : List (List V) → Prop} : ∀ (ps : List (Nat × Operand)) (acc : List (List V)) (cells : Array Value),
    Flat (Sta ρ X w) w sz acc cells → litsP e sz acc ps K →
      ∃ els cells', K els ∧ els.length = acc.length ∧ Instr.fill (fun i => some (i * sz, sz)) cells (ps.map fun p => (p.1, a.eval p.2)) = some cells' ∧ Flat (Sta ρ X w) w sz els cells'
  | [], acc, cells, ha, hk => ⟨acc, cells, hk, rfl, rfl, ha⟩
  | (i, x) :: r, acc, cells, ha, hk => by
    obtain ⟨cs, h1, ⟨⟨h2, h3⟩, h4⟩, h5⟩ := optK_inv hk
    have hx := cells_rep h1 (ev_rep he x)
    have hl := RepL_len hx
    simp only [Array.length_toList] at hl
    have hle : (i + 1) * sz ≤ acc.length * sz := Nat.mul_le_mul_right _ (by omega)
    rw [Nat.add_mul, Nat.one_mul] at hle
    have hfit : i * sz + (a.eval x).cells.size ≤ cells.size := by rw [ha.1]; omega
    obtain ⟨g1, g2⟩ := fold_cells (a.eval x).cells (i * sz) cells hfit
    have hfl : Flat (Sta ρ X w) w sz (acc.set i cs) ((a.eval x).cells.zipIdx.foldl (fun cs (x : Value × Nat) => cs.setIfInBounds (i * sz + x.2) x.1) cells) := by
      refine ⟨by rw [g1, ha.1]; simp, fun j e' he' => ?_⟩
      by_cases hj : j = i
      · subst hj
        rw [List.getElem?_set_self h3] at he'
        simp only [Option.some.injEq] at he'
        subst he'
        refine ⟨h2, fun f y hy => ?_⟩
        have hf : f < cs.length := (List.getElem?_eq_some_iff.1 hy).1
        obtain ⟨u, k1, k2⟩ := RepL_get hx hy
        refine ⟨u, ?_, RepD_of_V (List.all_eq_true.1 h4 _ (List.mem_of_getElem? hy)) k2⟩
        rw [g2, if_pos (by omega), show j * sz + f - j * sz = f by omega]
        simpa using k1
      · rw [List.getElem?_set_ne (Ne.symm hj)] at he'
        obtain ⟨k1, k2⟩ := ha.2 j e' he'
        refine ⟨k1, fun f y hy => ?_⟩
        have hf : f < sz := by rw [← k1]; exact (List.getElem?_eq_some_iff.1 hy).1
        obtain ⟨u, k3, k4⟩ := k2 f y hy
        refine ⟨u, ?_, k4⟩
        rw [g2, if_neg ?_]
        · exact k3
        · rcases Nat.lt_or_gt_of_ne hj with h7 | h7
          · have : (j + 1) * sz ≤ i * sz := Nat.mul_le_mul_right _ (by omega)
            rw [Nat.add_mul, Nat.one_mul] at this
            omega
          · have : (i + 1) * sz ≤ j * sz := Nat.mul_le_mul_right _ (by omega)
            rw [Nat.add_mul, Nat.one_mul] at this
            omega
    obtain ⟨els, cells', k1, k2, k3, k4⟩ := fill_lits he r _ _ hfl h5
    refine ⟨els, cells', k1, by rw [k2]; simp, ?_, k4⟩
    simp only [List.map_cons, Instr.fill]
    rw [if_neg (by simp; omega)]
    exact k3
theorem lits_run {t e : TypeId} {n : Nat} {parts : Array (Nat × Value)} {inf : TypeInfo} {z : Value} {cells : Array Value} (hu : P.underlying t = some (.slice e)) (hi : P.info? e = some inf) (hz : inf.zero = some z) (hs : 0 < inf.size) (hsm : n * inf.size ≤ 16777216)
    (h : Instr.fill (fun i => some (i * inf.size, inf.size)) (madeCells z.cells (n * inf.size)) parts.toList = some cells) :
    (Instr.buildSlice t n parts).run P w = .ok (.slice (some ⟨w.heap.size, 0, none⟩) n n) (w.alloc (.cells cells e)) := by
  have h2 : ¬ n * inf.size > 2 ^ 24 := by omega
  by_cases h0 : n * inf.size = 0
  · have hn : n = 0 := by
      rcases Nat.mul_eq_zero.1 h0 with h | h
      · exact h
      · omega
    subst hn
    have e0 : Array.range (0 * inf.size) = #[] := by rw [Nat.zero_mul]; exact Array.range_zero'
    unfold madeCells at h
    rw [e0] at h
    have h' : Instr.fill (fun i => some (i * inf.size, inf.size)) #[] parts.toList = some cells := by rw [Array.map_empty] at h; exact h
    simp [Instr.buildSlice, run_underlying hu, sizeOf, typeInfo, hi, Array.range_zero', h', newRow]
  · unfold madeCells at h
    simp [Instr.buildSlice, run_underlying hu, sizeOf, typeInfo, zeroValue, hi, hz, h2, h0, h, newRow]
theorem grow_run {t ty e : TypeId} {inf : TypeInfo} {z : Value} {a : Option Addr} {n cap : Nat} {olds news : List Value} {m : Nat} {b : Addr} {c : Nat} (ht : P.underlying t = some (.slice e)) (hi : P.info? e = some inf) (hz : inf.zero = some z) (hzs : z.cells.size = inf.size)
    (hol : olds.length = n * inf.size) (holds : (n = 0 ∧ cap = 0) ∨ ∃ b', a = some b' ∧ ∀ j v, olds[j]? = some v → w.cell? (b'.add j) = some v)
    (hnl : news.length = m * inf.size) (hnews : ∀ j v, news[j]? = some v → w.cell? (b.add j) = some v) (hg : cap < n + m) (hb : (n + m) * inf.bytes ≤ 140737488355328) (hmax : n + m ≤ maxLen) :
    ∃ (cc : Nat) (rest : Array Value), n + m ≤ cc ∧ cc ≤ maxLen ∧ (olds.toArray ++ news.toArray ++ rest).size = cc * inf.size ∧
      (Builtin.append_ #[t, t] ty #[.slice a n cap, .slice (some b) m c]).run P w = .ok (.slice (some ⟨w.heap.size, 0, none⟩) (n + m) cc) (w.drew.alloc (.cells (olds.toArray ++ news.toArray ++ rest) e)) := by
  have h63 : ((n + m : Nat) : Int) ≤ 9223372036854775807 := by simp only [maxLen] at hmax; omega
  have hge := grownCap_ge w (n + m) cap e
  have hle := grownCap_le_maxLen w (n + m) cap e hmax
  have hsz : (olds.toArray ++ news.toArray ++ Builtin.zeroCells z.cells (grownCap w (n + m) cap e - (n + m))).size = grownCap w (n + m) cap e * inf.size := by
    simp only [Array.size_append, List.size_toArray, size_zeroCells, hzs, hol, hnl, ← Nat.add_mul]
    congr 1
    omega
  rcases holds with ⟨h0, hcap0⟩ | ⟨b', rfl, hold⟩
  · subst h0
    have hon : olds = [] := List.eq_nil_of_length_eq_zero (by simpa using hol)
    subst hon
    subst hcap0
    cases a with
    | none =>
      refine ⟨_, _, hge, hle, hsz, ?_⟩
      have hr := run_append_nil (P := P) w t ty e inf z ht hi hz b m c news hnl hnews (by omega) (by simpa using h63) (by have := hb; simp only [Nat.zero_add] at this; omega)
      simpa using hr
    | some b' =>
      exact ⟨_, _, hge, hle, hsz, run_append_grow (P := P) w t ty e inf z ht hi hz b' 0 0 [] (by simp) (by simp) b m c news hnl hnews hg h63 (growslice_fits (by omega) hb)⟩
  · exact ⟨_, _, hge, hle, hsz, run_append_grow (P := P) w t ty e inf z ht hi hz b' n cap olds hol hold b m c news hnl hnews hg h63 (growslice_fits hg hb)⟩
theorem append_none_run {t ty e : TypeId} {inf : TypeInfo} {a a' : Option Addr} {n cap c : Nat} (ht : P.underlying t = some (.slice e)) (hi : P.info? e = some inf) (hn : n ≤ cap) :
    (Builtin.append_ #[t, t] ty #[.slice a n cap, .slice a' 0 c]).run P w = .ok (.slice a n cap) w := by
  have hf : (Builtin.firstCells inf.size 0 (.slice a' 0 c)).run P w = .ok #[] w := by
    cases a' <;> simp [Builtin.firstCells, loadCells, loadCellsFrom]
  cases a <;> simp [Builtin.append_, run_underlying ht, sizeOf, typeInfo, hi, Builtin.lenOf, hn, hf, storeCells]
theorem room_run {t ty e : TypeId} {inf : TypeInfo} {g off n cap : Nat} {news : List Value} {m : Nat} {b : Addr} {c : Nat} {cur : Array Value} {T : TypeId} (ht : P.underlying t = some (.slice e)) (hi : P.info? e = some inf)
    (hg : w.heap[g]? = some (.cells cur T (0, 0))) (hnl : news.length = m * inf.size) (hnews : ∀ j v, news[j]? = some v → w.cell? (b.add j) = some v) (h1 : ∀ v ∈ news, v.oneCell' = true) (hroom : n + m ≤ cap) (hfit : off + n * inf.size + news.length ≤ cur.size) :
    (Builtin.append_ #[t, t] ty #[.slice (some ⟨g, off, none⟩) n cap, .slice (some b) m c]).run P w = .ok (.slice (some ⟨g, off, none⟩) (n + m) cap) (w.setCells g (off + n * inf.size) news) := by
  have hf := run_firstCells_some (P := P) w inf.size m b m c news hnl hnews
  have hst := run_storeCells_cells (P := P) g (off + n * inf.size) news 0 w (fun j hj => by
      simp [World.cell?, hg, Array.getElem?_eq_getElem (show off + n * inf.size + j < cur.size by omega)]) (fun j hj => by simp [World.frozen?, hg]) h1
  simp only [Nat.add_zero] at hst
  simp [Builtin.append_, run_underlying ht, sizeOf, typeInfo, hi, Builtin.lenOf, hroom, hf, Addr.add_none, hst]
theorem moved_rep {h : List Blk} (hr : Rep ρ X w h) {k : Nat} (hk : k < h.length) {l : Loc} {w' : World} {B : Blk} (hf : Fr ρ w (upd ρ k l) w')
    (hnew : l.real = true → (w.heap.size ≤ l.blk ∨ ((ρ k).real = true ∧ l.blk = (ρ k).blk)) ∧ l.blk < w'.heap.size)
    (hold : ∀ j, j ≠ k → (ρ j).real = true → w'.heap[(ρ j).blk]? = w.heap[(ρ j).blk]?) (hB : RepB (upd ρ k l) X w' k B) :
    Rep (upd ρ k l) X w' ((h.map (killB [k])).set k B) := by
  have hag : ∀ j, j ∉ [k] → (ρ j).real = true → upd ρ k l j = ρ j := fun j hj _ => upd_other _ _ (by simpa using hj)
  have hcase : ∀ b, Own (upd ρ k l) b → Own ρ b ∨ w.heap.size ≤ b := by
    rintro b ⟨j, h1, h2⟩
    by_cases hj : j = k
    · subst hj
      rw [upd_same] at h1 h2
      rcases (hnew h1).1 with h3 | ⟨h3, h4⟩
      · right; omega
      · exact .inl ⟨j, h3, by rw [← h4]; exact h2⟩
    · rw [upd_other _ _ hj] at h1 h2
      exact .inl ⟨j, h1, h2⟩
  refine ⟨?_, ?_, ?_, ?_, ?_, ?_⟩
  · intro i j hij hi hj
    by_cases h1 : i = k
    · subst h1
      rw [upd_same] at hi ⊢
      rw [upd_other _ _ (Ne.symm hij)] at hj ⊢
      rcases (hnew hi).1 with h3 | ⟨h3, h4⟩
      · have := hr.lt j hj; omega
      · rw [h4]; exact hr.inj i j hij h3 hj
    · by_cases h2 : j = k
      · subst h2
        rw [upd_same] at hj ⊢
        rw [upd_other _ _ h1] at hi ⊢
        rcases (hnew hj).1 with h3 | ⟨h3, h4⟩
        · have := hr.lt i hi; omega
        · rw [h4]; exact hr.inj i j hij hi h3
      · rw [upd_other _ _ h1] at hi ⊢
        rw [upd_other _ _ h2] at hj ⊢
        exact hr.inj i j hij hi hj
  · intro j hj
    simp at hj
    rw [upd_other _ _ (by omega)]
    exact hr.out j hj
  · intro j B' hB'
    by_cases h1 : j = k
    · subst h1
      rw [List.getElem?_set_self (by simpa using hk)] at hB'
      simp only [Option.some.injEq] at hB'
      subst hB'
      exact hB
    · rw [List.getElem?_set_ne (Ne.symm h1), List.getElem?_map, Option.map_eq_some_iff] at hB'
      obtain ⟨B0, hB0, rfl⟩ := hB'
      exact RepB_kill hf [k] hag (upd_other _ _ h1) (fun hj => hold j h1 hj) (hr.blk j B0 hB0)
  · intro b ho hx
    rcases hcase b ho with h1 | h1
    · exact hr.disj b h1 hx
    · have := hr.xlt b hx; omega
  · intro j hj
    by_cases h1 : j = k
    · subst h1
      rw [upd_same] at hj ⊢
      exact (hnew hj).2
    · rw [upd_other _ _ h1] at hj ⊢
      exact Nat.lt_of_lt_of_le (hr.lt j hj) hf.size
  · intro b hb
    exact Nat.lt_of_lt_of_le (hr.xlt b hb) hf.size
theorem drop_take_els {i n : Nat} {els : List (List V)} {sz : Nat} {c : Array Value} {off : Nat} {S : Nat → Prop}
    (h : ∀ (j : Nat) (e : List V), els[j]? = some e → e.length = sz ∧ ∀ (f : Nat) (x : V), e[f]? = some x → ∃ u, c[off + j * sz + f]? = some u ∧ RepD S w x u) :
    ∀ (j : Nat) (e : List V), ((els.drop i).take n)[j]? = some e → j < n ∧ e.length = sz ∧ ∀ (f : Nat) (x : V), e[f]? = some x → ∃ u, c[off + i * sz + j * sz + f]? = some u ∧ RepD S w x u := by
  intro j e he
  rw [List.getElem?_take] at he
  split at he
  · rename_i hj
    rw [List.getElem?_drop] at he
    obtain ⟨h1, h2⟩ := h _ e he
    refine ⟨hj, h1, fun f x hx => ?_⟩
    obtain ⟨u, h3, h4⟩ := h2 f x hx
    exact ⟨u, by rw [Nat.add_mul, ← Nat.add_assoc] at h3; exact h3, h4⟩
  · cases he
theorem els_cells {S : Nat → Prop} {sz b off : Nat} {els : List (List V)} {c : Array Value} {T : TypeId} {fz : Nat × Nat} (hh : w.heap[b]? = some (.cells c T fz)) (h : RepEls S w sz b off els) :
    ∀ (i : Nat) (e : List V), els[i]? = some e → e.length = sz ∧ ∀ (f : Nat) (x : V), e[f]? = some x → ∃ u, c[off + i * sz + f]? = some u ∧ RepD S w x u := by
  intro i e he
  obtain ⟨h1, h2⟩ := RepEls_get h he
  refine ⟨h1, fun f x hx => ?_⟩
  obtain ⟨u, h3, h4⟩ := RepCs_get h2 hx
  exact ⟨u, by simpa [World.cell?, hh] using h3, h4⟩
def AppOk (P : Program) (fx bn : List Nat) (ρ : Nat → Loc) (X : Nat → Prop) (w : World) (t : Array Value) (run : Sem Value) (K : V → St → Prop) : Prop :=
  ∃ val w', run.run P w = .ok val w' ∧ Sound fx bn ρ X w t K val w'
theorem appNew_run {t ty e : TypeId} {inf : TypeInfo} {z : Value} {id : Nat} {s : St} {fx bn : List Nat} {ts : Array Value} {old new : List (List V)} {xv yv : Value} {K : V → St → Prop} (ht : P.underlying t = some (.slice e)) (hi : P.info? e = some inf) (hz : inf.zero = some z) (hs : 0 < inf.size) (hzs : z.cells.size = inf.size) (hby : 0 < inf.bytes)
    (hr : Rep ρ X w s.h) (he : RepE ρ X w s.e ts) (hfx : keepP fx s.h) (hx : (old = [] ∧ xv = .slice none 0 0) ∨ (new ≠ [] ∧ ∃ a, xv = .slice a old.length old.length ∧ Shows ρ X w xv inf.size old))
    (hy : Shows ρ X w yv inf.size new) (h : appNew id inf.size inf.bytes s old new K) : AppOk P fx bn ρ X w ts (Builtin.append_ #[t, t] ty #[xv, yv]) K := by
  obtain ⟨hb, hfr, hK⟩ := h
  by_cases hne : new = []
  · subst hne
    rcases hx with ⟨rfl, rfl⟩ | ⟨hne, _⟩
    · obtain ⟨a', cap', rfl, _, _⟩ := hy
      obtain ⟨ρ', hf, hag, hot, hr'⟩ := new_virtual hr hfr hs
      refine ⟨_, w, append_none_run ht hi (Nat.le_refl _), _, _, ρ', hK, ⟨keepP_mono hfx (live_set (by simp)), fun k hk => hot.1 k (fresh_ne hfr (keepP_get hfx k hk)), fun k _ hreal => ⟨hag k hreal, hot.2 k hreal⟩⟩, hf, hr', RepE_mono hf hag he, ?_⟩
      exact ⟨0, by simp, Nat.zero_le _, .inl ⟨rfl, none, rfl⟩⟩
    · exact absurd rfl hne
  · obtain ⟨b, off, cap, vs, rfl, h1, h2, h3, h4⟩ := hy.cells hne
    have hpos : 0 < new.length := List.length_pos_iff.2 hne
    have hml : old.length + new.length ≤ maxLen := by
      have : old.length + new.length ≤ (old.length + new.length) * inf.bytes := Nat.le_mul_of_pos_right _ hby
      simp only [maxLen]
      omega
    have hgo : ∃ (olds : List Value) (a : Option Addr) (cp : Nat), xv = .slice a old.length cp ∧ cp ≤ old.length ∧ olds.length = old.length * inf.size ∧ ((old.length = 0 ∧ cp = 0) ∨ ∃ b', a = some b' ∧ ∀ j v, olds[j]? = some v → w.cell? (b'.add j) = some v) ∧
        ∀ (i : Nat) (e : List V), old[i]? = some e → e.length = inf.size ∧ ∀ (f : Nat) (x : V), e[f]? = some x → ∃ u, olds[i * inf.size + f]? = some u ∧ RepD (Sta ρ X w) w x u := by
      rcases hx with ⟨rfl, rfl⟩ | ⟨_, a, rfl, hsh⟩
      · exact ⟨[], none, 0, rfl, Nat.le_refl _, by simp, .inl ⟨rfl, rfl⟩, fun i e he => by simp at he⟩
      · by_cases ho : old = []
        · subst ho
          exact ⟨[], a, 0, rfl, Nat.le_refl _, by simp, .inl ⟨rfl, rfl⟩, fun i e he => by simp at he⟩
        · obtain ⟨b', off', cap', us, e1, k1, k2, k3, k4⟩ := hsh.cells ho
          cases e1
          exact ⟨us, _, _, rfl, Nat.le_refl _, k1, .inr ⟨_, rfl, fun j v hj => by rw [Addr.add_none]; exact k2 j v hj⟩, k4⟩
    obtain ⟨olds, a, cp, rfl, hcp, hol, holds, hoe⟩ := hgo
    obtain ⟨cc, rest, g1, g2, g3, g4⟩ := grow_run (ty := ty) (c := cap) (b := ⟨b, off, none⟩) ht hi hz hzs hol holds h1 (fun j v hj => by rw [Addr.add_none]; exact h2 j v hj) (by omega) hb hml
    have hae := append_els (rest := rest.toList) hol h1 hoe h4
    have hto : (olds.toArray ++ vs.toArray ++ rest).toList = olds ++ vs ++ rest.toList := by simp
    obtain ⟨ρ', hf, hag, hot, hr', hp⟩ := new_arr hr hfr hs (els := old ++ new) (Made.drewAlloc w (.cells (olds.toArray ++ vs.toArray ++ rest) e)) (by rw [g3]; simp; exact Nat.mul_le_mul_right _ g1)
      (fun i e' he' => by
        obtain ⟨q1, q2⟩ := hae i e' he'
        refine ⟨q1, fun f x hx => ?_⟩
        obtain ⟨u, q3, q4⟩ := q2 f x hx
        exact ⟨u, by rw [← Array.getElem?_toList, hto]; exact q3, q4⟩) (old.length + new.length) cc g1 g2 (by rw [g3]; exact Nat.le_refl _)
    exact ⟨_, _, g4, _, _, ρ', hK, ⟨keepP_mono hfx (live_set (by simp)), fun k hk => hot.1 k (fresh_ne hfr (keepP_get hfx k hk)), fun k _ hreal => ⟨hag k hreal, hot.2 k hreal⟩⟩, hf, hr', RepE_mono hf hag he, hp⟩
theorem live_killB {h : List Blk} {M : List Nat} (j : Nat) (hj : liveP h j) : liveP (h.map (killB M)) j := by
  unfold liveP at hj ⊢
  rw [List.getElem?_map]
  cases hb : h[j]? with
  | none => rw [hb] at hj; exact hj.elim
  | some B => rw [hb] at hj; cases B <;> first | trivial | exact hj.elim
theorem appB_run {t ty e : TypeId} {inf : TypeInfo} {z : Value} {s : St} {fx bn : List Nat} {ts : Array Value} {k i n : Nat} {new : List (List V)} {xv yv : Value} {K : V → St → Prop} (ht : P.underlying t = some (.slice e)) (hi : P.info? e = some inf) (hz : inf.zero = some z) (hs : 0 < inf.size) (hzs : z.cells.size = inf.size) (hby : 0 < inf.bytes)
    (hr : Rep ρ X w s.h) (he : RepE ρ X w s.e ts) (hfx : keepP fx s.h) (hx : RepV ρ X w (.sl k i n) xv)
    (hy : Shows ρ X w yv inf.size new) (h : appB fx bn k i n inf.size inf.bytes s new (blk s.h k) K) : AppOk P fx bn ρ X w ts (Builtin.append_ #[t, t] ty #[xv, yv]) K := by
  unfold blk at h
  rw [List.getD_eq_getElem?_getD] at h
  cases hb : s.h[k]? with
  | none => simp [hb, appB] at h
  | some B =>
    rw [hb] at h
    have hB := hr.blk k B hb
    have hklt : k < s.h.length := (List.getElem?_eq_some_iff.1 hb).1
    cases B with
    | arr sz' els =>
      obtain ⟨⟨rfl, hin, hbytes⟩, hkfx, hK⟩ := h
      obtain ⟨⟨hsz, hpos⟩, hor⟩ := hB
      obtain ⟨cap, hnc, hcm, hxv⟩ := hx
      have hlen : ((els.drop i).take n).length = n := by simp; omega
      have hkeep : keepP fx ((s.h.map (killB [k])).set k (.arr inf.size ((els.drop i).take n ++ new))) := keepP_mono hfx fun j hj => live_set (by simp) j (live_killB j hj)
      -- what it takes to close: the new place, the world's change, the block
      have close : ∀ (l : Loc) (w' : World) (val : Value), (Builtin.append_ #[t, t] ty #[xv, yv]).run P w = .ok val w' → Fr ρ w (upd ρ k l) w' →
          (l.real = true → (w.heap.size ≤ l.blk ∨ ((ρ k).real = true ∧ l.blk = (ρ k).blk)) ∧ l.blk < w'.heap.size) →
          (∀ j, j ≠ k → (ρ j).real = true → w'.heap[(ρ j).blk]? = w.heap[(ρ j).blk]?) → RepB (upd ρ k l) X w' k (.arr inf.size ((els.drop i).take n ++ new)) →
          RepV (upd ρ k l) X w' (.sl k 0 (n + new.length)) val → AppOk P fx bn ρ X w ts (Builtin.append_ #[t, t] ty #[xv, yv]) K := by
        intro l w' val hrun hf hnew hold hBk hv
        refine ⟨val, w', hrun, _, _, upd ρ k l, hK, ⟨hkeep, fun j hj => upd_other _ _ (fun e => hkfx.1 (e ▸ hj)), fun j hj hjr => ⟨upd_other _ _ (fun e => hkfx.2 (e ▸ hj)), hold j (fun e => hkfx.2 (e ▸ hj)) hjr⟩⟩, hf, moved_rep hr hklt hf hnew hold hBk, ?_, hv⟩
        exact RepE_kill hf [k] (fun j hj _ => upd_other _ _ (by simpa using hj)) he
      have hml : n + new.length ≤ maxLen := by
        have : n + new.length ≤ (n + new.length) * inf.bytes := Nat.le_mul_of_pos_right _ hby
        simp only [maxLen]
        omega
      by_cases hne : new = []
      · -- nothing is appended
        subst hne
        obtain ⟨a', cap', rfl, _, _⟩ := hy
        have hrun : (Builtin.append_ #[t, t] ty #[xv, .slice a' ([] : List (List V)).length cap']).run P w = .ok xv w := by
          rcases hxv with ⟨rfl, a, rfl⟩ | ⟨hreal, rfl, hroom⟩
          · exact append_none_run ht hi (Nat.le_refl _)
          · exact append_none_run ht hi hnc
        have hsub : ∀ b, Own (upd ρ k { ρ k with off := (ρ k).off + i * inf.size }) b → Own ρ b := by
          rintro b ⟨j, h1, h2⟩
          by_cases hj : j = k
          · subst hj; rw [upd_same] at h1 h2; exact ⟨j, h1, h2⟩
          · rw [upd_other _ _ hj] at h1 h2; exact ⟨j, h1, h2⟩
        refine close { ρ k with off := (ρ k).off + i * inf.size } w xv hrun ⟨rfl, rfl, rfl, Nat.le_refl _, fun b _ ho => ⟨rfl, fun h => ho (hsub b h)⟩⟩ (fun hreal => ⟨.inr ⟨hreal, rfl⟩, hr.lt k hreal⟩) (fun _ _ _ => rfl) ?_ ?_
        · simp only [RepB, upd_same, List.append_nil]
          refine ⟨⟨hsz, hpos⟩, ?_⟩
          rcases hor with ⟨h1, rfl⟩ | ⟨h1, c, T, h2, h3, h4, h5⟩
          · exact .inl ⟨h1, by simp⟩
          · have hle : i * inf.size + n * inf.size ≤ els.length * inf.size := by rw [← Nat.add_mul]; exact Nat.mul_le_mul_right _ hin
            refine .inr ⟨h1, c, T, h2, h3, by rw [hlen]; omega, ?_⟩
            exact RepEls_mono (fun b hb => ⟨⟨hb.1, fun h => hb.2.1 (hsub b h), hb.2.2⟩, rfl⟩) _ _ rfl _ _ (slc_els h5)
        · simp only [RepV, upd_same]
          refine ⟨cap, by simpa using hnc, hcm, ?_⟩
          rcases hxv with ⟨h1, a, h2⟩ | ⟨h1, h2, h3⟩
          · exact .inl ⟨h1, a, h2⟩
          · refine .inr ⟨h1, by rw [h2, hsz]; simp, ?_⟩
            rw [hsz] at h3 ⊢
            rw [Nat.add_mul] at h3
            simp only [Nat.zero_add]
            omega
      · obtain ⟨b, off, cp, vs, rfl, h1, h2, h3, h4⟩ := hy.cells hne
        have hpos' : 0 < new.length := List.length_pos_iff.2 hne
        have hnews : ∀ j v, vs[j]? = some v → w.cell? ((⟨b, off, none⟩ : Addr).add j) = some v := fun j v hj => by rw [Addr.add_none]; exact h2 j v hj
        by_cases hroom : n + new.length ≤ cap
        · -- there is room
          rcases hxv with ⟨rfl, a, rfl⟩ | ⟨hreal, hxe, hrm⟩
          · omega
          · rw [hsz] at hxe
            subst hxe
            rcases hor with ⟨g1, _⟩ | ⟨_, c, T, hh, hcs, hrm2, hels⟩
            · rw [g1] at hreal; cases hreal
            · rw [hsz] at hrm
              have hle1 : (i + (n + new.length)) * inf.size ≤ (i + cap) * inf.size := Nat.mul_le_mul_right _ (by omega)
              simp only [Nat.add_mul] at hle1 hrm
              have hfit : (ρ k).off + i * inf.size + n * inf.size + vs.length ≤ c.size := by rw [h1]; omega
              obtain ⟨c', k1, k2, k3⟩ := setCells_heap _ vs ((ρ k).off + i * inf.size + n * inf.size) w c T (0, 0) hh hfit
              have hsub : ∀ b, Own (upd ρ k { ρ k with off := (ρ k).off + i * inf.size }) b → Own ρ b := by
                rintro b ⟨j, h1, h2⟩
                by_cases hj : j = k
                · subst hj; rw [upd_same] at h1 h2; exact ⟨j, h1, h2⟩
                · rw [upd_other _ _ hj] at h1 h2; exact ⟨j, h1, h2⟩
              have hf0 := store_fr hr hreal ((ρ k).off + i * inf.size + n * inf.size) vs
              have hf : Fr ρ w (upd ρ k { ρ k with off := (ρ k).off + i * inf.size }) (w.setCells (ρ k).blk ((ρ k).off + i * inf.size + n * inf.size) vs) :=
                ⟨hf0.os, hf0.tape, hf0.output, hf0.size, fun b hb ho => ⟨(hf0.keep b hb ho).1, fun h => ho (hsub b h)⟩⟩
              have hrun := room_run (ty := ty) (off := (ρ k).off + i * inf.size) (c := cp) ht hi hh h1 hnews h3 hroom hfit
              refine close { ρ k with off := (ρ k).off + i * inf.size } _ _ hrun hf (fun _ => ⟨.inr ⟨hreal, rfl⟩, by rw [setCells_size]; exact hr.lt k hreal⟩) (fun j hj hjr => setCells_other _ _ _ _ _ (hr.inj j k hj hjr hreal)) ?_ ?_
              · simp only [RepB, upd_same]
                refine ⟨⟨hsz, hpos⟩, .inr ⟨hreal, c', T, k1, by omega, ?_, ?_⟩⟩
                · simp only [List.length_append, hlen, Nat.add_mul]
                  omega
                · refine els_of_cells (S := Sta ρ X w) (w := w) hf.sta k1 ?_
                  intro j e' he'
                  by_cases hj : j < n
                  · rw [List.getElem?_append_left (by omega)] at he'
                    obtain ⟨_, q1, q2⟩ := drop_take_els (els_cells hh hels) j e' he'
                    refine ⟨q1, fun f x hx => ?_⟩
                    have hfl : f < inf.size := by rw [← q1]; exact (List.getElem?_eq_some_iff.1 hx).1
                    obtain ⟨u, q3, q4⟩ := q2 f x hx
                    have hjn : (j + 1) * inf.size ≤ n * inf.size := Nat.mul_le_mul_right _ (by omega)
                    rw [Nat.add_mul, Nat.one_mul] at hjn
                    refine ⟨u, ?_, q4⟩
                    rw [k3, if_neg (by omega)]
                    exact q3
                  · rw [List.getElem?_append_right (by omega), hlen] at he'
                    obtain ⟨q1, q2⟩ := h4 _ e' he'
                    refine ⟨q1, fun f x hx => ?_⟩
                    obtain ⟨u, q3, q4⟩ := q2 f x hx
                    have hlt : (j - n) * inf.size + f < vs.length := (List.getElem?_eq_some_iff.1 q3).1
                    have ej : j * inf.size = n * inf.size + (j - n) * inf.size := by rw [← Nat.add_mul]; congr 1; omega
                    refine ⟨u, ?_, q4⟩
                    rw [k3, if_pos (by omega)]
                    rw [show (ρ k).off + i * inf.size + j * inf.size + f - ((ρ k).off + i * inf.size + n * inf.size) = (j - n) * inf.size + f by omega]
                    exact q3
              · simp only [RepV, upd_same]
                refine ⟨cap, hroom, hcm, .inr ⟨hreal, by rw [hsz]; simp, ?_⟩⟩
                rw [hsz]
                simp only [Nat.zero_add]
                omega
        · -- a new row
          have hgo : ∃ (olds : List Value) (a : Option Addr), xv = .slice a n cap ∧ olds.length = n * inf.size ∧ ((n = 0 ∧ cap = 0) ∨ ∃ b', a = some b' ∧ ∀ j v, olds[j]? = some v → w.cell? (b'.add j) = some v) ∧
              ∀ (j : Nat) (e : List V), ((els.drop i).take n)[j]? = some e → e.length = inf.size ∧ ∀ (f : Nat) (x : V), e[f]? = some x → ∃ u, olds[j * inf.size + f]? = some u ∧ RepD (Sta ρ X w) w x u := by
            rcases hxv with ⟨rfl, a, rfl⟩ | ⟨hreal, rfl, hrm⟩
            · have hn : n = 0 := by omega
              subst hn
              exact ⟨[], a, rfl, by simp, .inl ⟨rfl, rfl⟩, fun j e he => by simp at he⟩
            · rcases hor with ⟨g1, _⟩ | ⟨_, c, T, hh, hcs, hrm2, hels⟩
              · rw [g1] at hreal; cases hreal
              · obtain ⟨us, m1, m2, m3, m4⟩ := flat_cells (slc_els (l := i) (n := n) hels)
                rw [hlen] at m1
                exact ⟨us, _, rfl, m1, .inr ⟨_, rfl, fun j v hj => by rw [Addr.add_none, hsz]; exact m2 j v hj⟩, m4⟩
          obtain ⟨olds, a, rfl, hol, holds, hoe⟩ := hgo
          obtain ⟨cc, rest, g1, g2, g3, g4⟩ := grow_run (ty := ty) (c := cp) (b := ⟨b, off, none⟩) ht hi hz hzs hol holds h1 hnews (by omega) hbytes hml
          have hae := append_els (rest := rest.toList) (A := (els.drop i).take n) (by rw [hlen]; exact hol) h1 hoe h4
          have hto : (olds.toArray ++ vs.toArray ++ rest).toList = olds ++ vs ++ rest.toList := by simp
          have hmd := Made.drewAlloc w (.cells (olds.toArray ++ vs.toArray ++ rest) e)
          have hf : Fr ρ w (upd ρ k ⟨true, w.heap.size, 0, inf.size, (olds.toArray ++ vs.toArray ++ rest).size, default⟩) (w.drew.alloc (.cells (olds.toArray ++ vs.toArray ++ rest) e)) := new_fr hmd (k := k) rfl
          refine close _ _ _ g4 hf (fun _ => ⟨.inl (Nat.le_refl _), by rw [hmd.size]; exact Nat.lt_succ_self _⟩) (fun j hj hjr => hmd.old (hr.lt j hjr)) ?_ ?_
          · simp only [RepB, upd_same]
            refine ⟨⟨trivial, hpos⟩, .inr ⟨trivial, _, e, hmd.new, rfl, ?_, ?_⟩⟩
            · rw [g3]
              simp only [List.length_append, hlen, Nat.zero_add]
              exact Nat.mul_le_mul_right _ g1
            · refine els_of_cells (S := Sta ρ X w) (w := w) hf.sta hmd.new ?_
              intro j e' he'
              obtain ⟨q1, q2⟩ := hae j e' he'
              refine ⟨q1, fun f x hx => ?_⟩
              obtain ⟨u, q3, q4⟩ := q2 f x hx
              exact ⟨u, by rw [← Array.getElem?_toList, hto, Nat.zero_add]; exact q3, q4⟩
          · simp only [RepV, upd_same]
            exact ⟨cc, g1, g2, .inr ⟨trivial, by simp, by simp only [Nat.zero_add]; rw [g3]; exact Nat.le_refl _⟩⟩
    | _ => exact h.elim
theorem copyB_run {t t' ty e : TypeId} {inf : TypeInfo} {s : St} {fx bn : List Nat} {ts : Array Value} {k i n : Nat} {new : List (List V)} {xv yv : Value} {K : V → St → Prop} (ht : P.underlying t = some (.slice e)) (hi : P.info? e = some inf)
    (hr : Rep ρ X w s.h) (he : RepE ρ X w s.e ts) (hfx : keepP fx s.h) (hx : RepV ρ X w (.sl k i n) xv)
    (hy : Shows ρ X w yv inf.size new) (h : copyB bn k i n inf.size s new (blk s.h k) K) : AppOk P fx bn ρ X w ts (Builtin.copy_ #[t, t'] ty #[xv, yv]) K := by
  unfold blk at h
  rw [List.getD_eq_getElem?_getD] at h
  cases hb : s.h[k]? with
  | none => simp [hb, copyB] at h
  | some B =>
    rw [hb] at h
    have hB := hr.blk k B hb
    have hklt : k < s.h.length := (List.getElem?_eq_some_iff.1 hb).1
    cases B with
    | arr sz' els =>
      obtain ⟨⟨rfl, hin, hkbn⟩, hK⟩ := h
      obtain ⟨⟨hsz, hpos⟩, hor⟩ := hB
      obtain ⟨cap, hnc, hcm, hxv⟩ := hx
      have hkeep : ∀ B', B' ≠ .dead → keepP fx (s.h.set k B') := fun B' hB' => keepP_mono hfx (live_set hB')
      by_cases h0 : min new.length n = 0
      · -- nothing is copied
        have hsame : els.take i ++ new.take n ++ els.drop (i + min new.length n) = els := by
          have : new.take n = [] := by
            apply List.eq_nil_of_length_eq_zero
            rw [List.length_take]
            omega
          rw [this, h0]
          simp
        have hset : s.h.set k (.arr inf.size els) = s.h := by
          apply List.ext_getElem?
          intro j
          rw [List.getElem?_set]
          split
          · rename_i hj; subst hj; exact hb.symm
          · rfl
        rw [hsame, hset] at hK
        have hrun : (Builtin.copy_ #[t, t'] ty #[xv, yv]).run P w = .ok (.int .i64 (min new.length n : Nat)) w := by
          obtain ⟨a', cap', rfl, _, _⟩ := hy
          have hf : (Builtin.firstCells inf.size 0 (.slice a' new.length cap')).run P w = .ok #[] w := by
            cases a' <;> simp [Builtin.firstCells, loadCells, loadCellsFrom]
          have hm : Nat.min new.length n = 0 := h0
          rcases hxv with ⟨rfl, a, rfl⟩ | ⟨hreal, rfl, hroom⟩
          · have hn : n = 0 := by omega
            subst hn
            cases a <;> simp [Builtin.copy_, run_underlying ht, Builtin.lenOf, sizeOf, typeInfo, hi, hf, storeCells, goInt]
          · simp [Builtin.copy_, run_underlying ht, Builtin.lenOf, sizeOf, typeInfo, hi, hm, hf, storeCells, goInt]
        exact ⟨_, w, hrun, _, _, ρ, hK, ⟨hfx, fun _ _ => rfl, fun _ _ _ => ⟨rfl, rfl⟩⟩, Fr.refl _ _, hr, he, rfl⟩
      · have hne : new ≠ [] := by rintro rfl; simp at h0
        obtain ⟨b, off, cp, vs, rfl, h1, h2, h3, h4⟩ := hy.cells hne
        rcases hxv with ⟨rfl, a, rfl⟩ | ⟨hreal, hxe, hrm⟩
        · omega
        · rw [hsz] at hxe hrm
          subst hxe
          rcases hor with ⟨g1, _⟩ | ⟨_, c, T, hh, hcs, hrm2, hels⟩
          · rw [g1] at hreal; cases hreal
          · have hcl : min new.length n * inf.size ≤ vs.length := by rw [h1]; exact Nat.mul_le_mul_right _ (by omega)
            have htl : (vs.take (min new.length n * inf.size)).length = min new.length n * inf.size := by simp; omega
            have hle1 : (i + n) * inf.size ≤ els.length * inf.size := Nat.mul_le_mul_right _ hin
            have hle2 : min new.length n * inf.size ≤ n * inf.size := Nat.mul_le_mul_right _ (by omega)
            rw [Nat.add_mul] at hle1
            have hfit : (ρ k).off + i * inf.size + (vs.take (min new.length n * inf.size)).length ≤ c.size := by rw [htl]; omega
            obtain ⟨c', k1, k2, k3⟩ := setCells_heap _ (vs.take (min new.length n * inf.size)) ((ρ k).off + i * inf.size) w c T (0, 0) hh hfit
            have hf := store_fr hr hreal ((ρ k).off + i * inf.size) (vs.take (min new.length n * inf.size))
            have hone : ∀ v ∈ vs.take (min new.length n * inf.size), v.oneCell' = true := fun v hv => h3 v (List.mem_of_mem_take hv)
            have hrun : (Builtin.copy_ #[t, t'] ty #[.slice (some ⟨(ρ k).blk, (ρ k).off + i * inf.size, none⟩) n cap, .slice (some ⟨b, off, none⟩) new.length cp]).run P w =
                .ok (.int .i64 (min new.length n : Nat)) (w.setCells (ρ k).blk ((ρ k).off + i * inf.size) (vs.take (min new.length n * inf.size))) := by
              have hfc := run_firstCells_some (P := P) w inf.size (min new.length n) ⟨b, off, none⟩ new.length cp (vs.take (min new.length n * inf.size)) htl (fun j v hj => by
                rw [Addr.add_none]
                refine h2 j v ?_
                rw [List.getElem?_take] at hj
                split at hj
                · exact hj
                · cases hj)
              have hst := run_storeCells_cells (P := P) (ρ k).blk ((ρ k).off + i * inf.size) (vs.take (min new.length n * inf.size)) 0 w (fun j hj => by
                simp [World.cell?, hh, Array.getElem?_eq_getElem (show (ρ k).off + i * inf.size + j < c.size by omega)]) (fun j hj => by simp [World.frozen?, hh]) hone
              simp only [Nat.add_zero] at hst
              have hm : Nat.min new.length n = min new.length n := rfl
              simp [Builtin.copy_, run_underlying ht, Builtin.lenOf, sizeOf, typeInfo, hi, hm, hfc, hst, goInt]
            refine ⟨_, _, hrun, _, _, ρ, hK, ⟨hkeep _ (by simp), fun _ _ => rfl, fun j hj hjr => ⟨rfl, setCells_other _ _ _ _ _ (hr.inj j k (fun e => hkbn (e ▸ hj)) hjr hreal)⟩⟩, hf, store_rep hr hreal ⟨⟨hsz, hpos⟩, .inr ⟨hreal, c', T, k1, by omega, ?_, ?_⟩⟩, RepE_mono hf (fun _ _ => rfl) he, rfl⟩
            · have : (els.take i ++ new.take n ++ els.drop (i + min new.length n)).length = els.length := by simp; omega
              rw [this]
              exact hrm2
            · refine els_of_cells (S := Sta ρ X w) (w := w) hf.sta k1 ?_
              intro j e' he'
              have hold := els_cells hh hels
              have hfar : ∀ f, f < inf.size → (j < i ∨ i + min new.length n ≤ j) → c'[(ρ k).off + j * inf.size + f]? = c[(ρ k).off + j * inf.size + f]? := by
                intro f hf' hj
                rw [k3, htl, if_neg ?_]
                rcases hj with hj | hj
                · have : (j + 1) * inf.size ≤ i * inf.size := Nat.mul_le_mul_right _ (by omega)
                  rw [Nat.add_mul, Nat.one_mul] at this
                  omega
                · have : (i + min new.length n) * inf.size ≤ j * inf.size := Nat.mul_le_mul_right _ (by omega)
                  rw [Nat.add_mul] at this
                  omega
              have holdj : els[j]? = some e' → (j < i ∨ i + min new.length n ≤ j) → e'.length = inf.size ∧ ∀ (f : Nat) (x : V), e'[f]? = some x → ∃ u, c'[(ρ k).off + j * inf.size + f]? = some u ∧ RepD (Sta ρ X w) w x u := by
                intro hje hj
                obtain ⟨q1, q2⟩ := hold j e' hje
                refine ⟨q1, fun f x hx => ?_⟩
                have hfl : f < inf.size := by rw [← q1]; exact (List.getElem?_eq_some_iff.1 hx).1
                obtain ⟨u, q3, q4⟩ := q2 f x hx
                exact ⟨u, by rw [hfar f hfl hj]; exact q3, q4⟩
              by_cases hj : j < i
              · rw [List.append_assoc, List.getElem?_append_left (by simp; omega), List.getElem?_take, if_pos hj] at he'
                exact holdj he' (.inl hj)
              · by_cases hj2 : j < i + min new.length n
                · rw [List.append_assoc, List.getElem?_append_right (by simp; omega), List.getElem?_append_left (by simp; omega), List.getElem?_take] at he'
                  have htk : (els.take i).length = i := by simp; omega
                  rw [htk, if_pos (by omega)] at he'
                  obtain ⟨q1, q2⟩ := h4 _ e' he'
                  refine ⟨q1, fun f x hx => ?_⟩
                  have hfl : f < inf.size := by rw [← q1]; exact (List.getElem?_eq_some_iff.1 hx).1
                  obtain ⟨u, q3, q4⟩ := q2 f x hx
                  have ej : j * inf.size = i * inf.size + (j - i) * inf.size := by rw [← Nat.add_mul]; congr 1; omega
                  have hlt : (j - i + 1) * inf.size ≤ min new.length n * inf.size := Nat.mul_le_mul_right _ (by omega)
                  rw [Nat.add_mul, Nat.one_mul] at hlt
                  refine ⟨u, ?_, q4⟩
                  rw [k3, htl, if_pos (by omega)]
                  rw [show (ρ k).off + j * inf.size + f - ((ρ k).off + i * inf.size) = (j - i) * inf.size + f by omega, List.getElem?_take, if_pos (by omega)]
                  exact q3
                · have htk : (els.take i ++ new.take n).length = i + min new.length n := by simp; omega
                  rw [List.getElem?_append_right (by omega), htk, List.getElem?_drop] at he'
                  rw [show i + min new.length n + (j - (i + min new.length n)) = j by omega] at he'
                  exact holdj he' (.inr (by omega))
    | _ => exact h.elim
theorem aOp_eff {o : Oper} {l0 l : LOp} {a : Act} {s : St} {cx : Cx} {K : V → St → Prop} (hm : rl0 P o.op l0 = some l)
    (hr : Rep ρ X w s.h) (he : RepE ρ X w s.e a.tmps) (hfx : keepP cx.fx s.h) (h : aOp cx l s K) (hn : quietOp l = false) (hc : ∀ f xs, l ≠ .call f xs) (hv : ∀ f xs, l ≠ .callv f xs) :
    (∃ val w', (execOp a.eval o).run P w = .ok (.value val) w' ∧ Sound cx.fx cx.bn ρ X w a.tmps K val w') ∨
    (∃ w', (execOp a.eval o).run P w = .ok .skip w' ∧ Sound cx.fx cx.bn ρ X w a.tmps K undef w') := by
  unfold execOp
  generalize o.op = op at hm ⊢
  cases op with
  | box t x =>
    simp only [rl0] at hm
    split at hm
    · rename_i j _
      simp only [Option.some.injEq] at hm
      subst hm
      obtain ⟨cs, h1, h2, h3⟩ := optK_inv h
      have hx := cells_rep h1 (ev_rep he x)
      obtain ⟨ρ', hf, hag, hot, hr', hp⟩ := new_var hr h2 (T := t) hx (Made.alloc w _)
      refine .inl ⟨_, _, by simp [Instr.box, newVar, newRow, newObj, Sem.run], _, _, ρ', h3, ⟨keepP_mono hfx (hlv h2), fun k hk => hot.1 k (fresh_ne h2 (keepP_get hfx k hk)), fun k _ hreal => ⟨hag k hreal, hot.2 k hreal⟩⟩, hf, hr', RepE_mono hf hag he, hp⟩
    · cases hm
  | alloc t =>
    simp only [rl0] at hm
    split at hm
    · rename_i j _
      split at hm
      · rename_i inf hi
        split at hm
        · rename_i z hz
          simp only [Option.some.injEq] at hm
          subst hm
          obtain ⟨cs, h1, h2, h3⟩ := optK_inv h
          have hx := cells_rep h1 (ofConst_rep (ρ := ρ) (X := X) (w := w) z)
          obtain ⟨ρ', hf, hag, hot, hr', hp⟩ := new_var hr h2 (T := t) hx (Made.alloc w _)
          refine .inl ⟨_, _, by simp [Instr.alloc, zeroValue, typeInfo, hi, hz, newVar, newRow, newObj, Sem.run], _, _, ρ', h3, ⟨keepP_mono hfx (hlv h2), fun k hk => hot.1 k (fresh_ne h2 (keepP_get hfx k hk)), fun k _ hreal => ⟨hag k hreal, hot.2 k hreal⟩⟩, hf, hr', RepE_mono hf hag he, hp⟩
        · cases hm
      · cases hm
    · cases hm
  | store t p x =>
    simp only [rl0] at hm
    split at hm
    · rename_i inf hi
      simp only [Option.some.injEq] at hm
      subst hm
      obtain ⟨cs, h1, h2⟩ := optK_inv h
      have hx := cells_rep h1 (ev_rep he x)
      obtain ⟨h', w', h3, hlen, hf, hr', hrun⟩ := storeP_run hr hi (ev_rep he p) hx h2
      exact .inr ⟨w', by simp [hrun], _, _, ρ, h3, ⟨keepP_mono hfx hlen.1, fun _ _ => rfl, fun k hk hreal => ⟨rfl, hlen.2 k hk hreal⟩⟩, hf, hr', RepE_mono hf (fun _ _ => rfl) he, rfl⟩
    · cases hm
  | makeMap t r =>
    simp only [rl0] at hm
    split at hm
    · rename_i j _
      split at hm
      · rename_i kt e hu
        simp only [Option.some.injEq] at hm
        subst hm
        simp only [aOp] at h
        obtain ⟨h1, h2, h3⟩ := h
        obtain ⟨ρ', hf, hag, hot, hr', hp⟩ := new_obj hr h2 (B := .map [] 0) (Made.alloc w (.map #[] 0)) (fun ρ' _ _ hp => by
          simp only [RepB, hp]
          exact ⟨⟨trivial, trivial, trivial⟩, #[], heap_alloc_new w _, rfl, trivial⟩)
        have hrun : (Instr.makeMap t (r.map a.eval)).run P w = .ok (.map (some w.heap.size)) (w.alloc (.map #[] 0)) := by
          cases r with
          | none => simp [Instr.makeMap]
          | some x =>
            obtain ⟨q, n, hq, _⟩ := intK_inv h1
            have hx := ev_rep he x
            rw [hq] at hx
            have hx' : a.eval x = .int q n := hx
            simp [Instr.makeMap, run_underlying hu, asInt, asIntOf, hx']
        exact .inl ⟨.map (some w.heap.size), w.alloc (.map #[] 0), by simp [hrun], _, _, ρ', h3, ⟨keepP_mono hfx (live_set (by simp)), fun k hk => hot.1 k (fresh_ne h2 (keepP_get hfx k hk)), fun k _ hreal => ⟨hag k hreal, hot.2 k hreal⟩⟩, hf, hr', RepE_mono hf hag he, by simp only [RepV, hp]; exact ⟨trivial, trivial⟩⟩
      · cases hm
    · cases hm
  | lookup t m k ok =>
    simp only [rl0] at hm
    split at hm
    · rename_i kt e hu
      split at hm
      · rename_i kd inf hkt hi
        split at hm
        · rename_i z hz
          simp only [Option.some.injEq] at hm
          subst hm
          simp only [aOp] at h
          obtain ⟨key, hkv, hkey, h⟩ := keyK_inv h
          have hk := ev_rep he k
          rw [hkv] at hk
          have hk' : a.eval k = key := hk
          have hmr := ev_rep he m
          split at h
          · rename_i hmv
            rw [hmv] at hmr
            have hm' : a.eval m = .map none := hmr
            obtain ⟨x, val, h1, h2, h3⟩ := lookup_nil (ρ := ρ) (X := X) (w := w) hu hkt hi hz hkey h
            exact .inl ⟨val, w, by simp [hm', hk', h3], x, s, ρ, h1, ⟨hfx, fun _ _ => rfl, fun _ _ _ => ⟨rfl, rfl⟩⟩, Fr.refl _ _, hr, he, h2⟩
          · obtain ⟨b, es, c, arr, _, h1, _, _, _, _, hm', hb, hrm⟩ := map_blk hr hmr h
            obtain ⟨x, val, h1, h2, h3⟩ := lookup_run hu hkt hi hz hkey hb hrm h1
            exact .inl ⟨val, w, by simp [hm', hk', h3], x, s, ρ, h1, ⟨hfx, fun _ _ => rfl, fun _ _ _ => ⟨rfl, rfl⟩⟩, Fr.refl _ _, hr, he, h2⟩
        · cases hm
      · cases hm
    · cases hm
  | mapUpdate t m k x | insert t m k x =>
    simp only [rl0] at hm
    split at hm
    · rename_i kt e hu
      split at hm
      · rename_i kd hkt
        simp only [Option.some.injEq] at hm
        subst hm
        simp only [aOp] at h
        obtain ⟨key, hkv, hkey, h⟩ := keyK_inv h
        have hk := ev_rep he k
        rw [hkv] at hk
        have hk' : a.eval k = key := hk
        obtain ⟨b, es, c, arr, _, ⟨hbn, h1⟩, g1, g2, g3, _, hm', hb, hrm⟩ := map_blk hr (ev_rep he m) h
        obtain ⟨B, w', h2, h3, h4, h5, h6, h7⟩ := mset_run hr hu hkt hkey g1 g2 g3 hb hrm (ev_rep he x) h1
        exact .inr ⟨w', by simp [hm', hk', h7], _, _, ρ, h2, ⟨keepP_mono hfx (live_set h3), fun _ _ => rfl, fun j hj hjr => ⟨rfl, h6 j (fun e => hbn (e ▸ hj)) hjr⟩⟩, h4, h5, RepE_mono h4 (fun _ _ => rfl) he, rfl⟩
      · cases hm
    · cases hm
  | range t m =>
    simp only [rl0] at hm
    split at hm
    · rename_i j _
      split at hm
      · rename_i kt e hu
        simp only [Option.some.injEq] at hm
        subst hm
        simp only [aOp] at h
        have hmr := ev_rep he m
        obtain ⟨b, es, c, arr, hmv, ⟨h1, h2⟩, g1, g2, g3, _, hm', hb, hrm⟩ := map_blk hr hmr h
        obtain ⟨ρ', hf, hag, hot, hr', hp⟩ := new_obj hr h1 (B := .it (ev s.e m) c [] c) (Made.alloc w (.mapIter (some (ρ b).blk) c #[] c)) (fun ρ' hf hag hp => by
          simp only [RepB, hp]
          refine ⟨⟨trivial, trivial, trivial⟩, some (ρ b).blk, heap_alloc_new w _, ?_⟩
          rw [hm'] at hmr
          exact RepV_mono hf hag _ _ hmr)
        have hrun := run_range_map w t kt e (ρ b).blk arr c hu hb
        refine .inl ⟨.pointer (some ⟨w.heap.size, 0, none⟩), w.alloc (.mapIter (some (ρ b).blk) c #[] c), by simp [hm', hrun], _, _, ρ', h2, ⟨keepP_mono hfx (live_set (by simp)), fun k hk => hot.1 k (fresh_ne h1 (keepP_get hfx k hk)), fun k _ hreal => ⟨hag k hreal, hot.2 k hreal⟩⟩, hf, hr', RepE_mono hf hag he, ?_⟩
        simp only [RepV, hp]
        exact ⟨trivial, by simp⟩
      · cases hm
    · cases hm
  | next i isS =>
    simp only [rl0] at hm
    split at hm
    · cases hm
    · rename_i hs
      have hs' : isS = false := by simpa using hs
      subst hs'
      simp only [Option.some.injEq] at hm
      subst hm
      simp only [aOp] at h
      obtain ⟨k, m, since, seen, last, bm, _, h1, g1, g2, g3, hi', hit, hmv⟩ := it_blk hr (ev_rep he i) h
      obtain ⟨b, es, c, arr, _, ⟨hbn, h2⟩, _, _, _, _, hm', hb, hrm⟩ := map_blk hr hmv h1
      simp only [Value.map.injEq] at hm'
      subst hm'
      rcases next_run (P := P) (ty := o.type) hr g1 g2 g3 hit hmv hb hrm h2 with ⟨h3, hrun⟩ | ⟨key, x, born, w', val, h3, h4, h5, h6, h7, hrun⟩
      · exact .inl ⟨.tuple #[.bool false], w, by simp [hi', hrun], _, _, ρ, h3, ⟨hfx, fun _ _ => rfl, fun _ _ _ => ⟨rfl, rfl⟩⟩, Fr.refl _ _, hr, he, ⟨_, rfl, rfl, trivial⟩⟩
      · exact .inl ⟨.tuple #[.bool true, key, val], w', by simp [hi', hrun], _, _, ρ, h3, ⟨keepP_mono hfx (live_set (by simp)), fun _ _ => rfl, fun j hj hjr => ⟨rfl, h6 j (fun e => hbn (e ▸ hj)) hjr⟩⟩, h4, h5, RepE_mono h4 (fun _ _ => rfl) he, ⟨_, rfl, rfl, rfl, h7, trivial⟩⟩
  | entry i =>
    simp only [rl0, Option.some.injEq] at hm
    subst hm
    simp only [aOp] at h
    obtain ⟨k, m, since, seen, last, bm, _, h1, g1, g2, g3, hi', hit, hmv⟩ := it_blk hr (ev_rep he i) h
    obtain ⟨b, es, c, arr, _, ⟨hlast, h2⟩, _, _, _, _, hm', hb, hrm⟩ := map_blk hr hmv h1
    simp only [Value.map.injEq] at hm'
    subst hm'
    obtain ⟨x, val, h3, h4, hrun⟩ := entry_run (P := P) hit hb hrm hlast h2
    exact .inl ⟨val, w, by simp [hi', hrun], x, s, ρ, h3, ⟨hfx, fun _ _ => rfl, fun _ _ _ => ⟨rfl, rfl⟩⟩, Fr.refl _ _, hr, he, h4⟩
  | makeSlice t lx cx' =>
    simp only [rl0] at hm
    split at hm
    · rename_i j _ _ _ _ _
      split at hm
      · rename_i e hu
        split at hm
        · rename_i inf hi
          split at hm
          · rename_i z hz
            split at hm
            · rename_i hcnd
              simp only [Option.some.injEq] at hm
              subst hm
              obtain ⟨hs, hzs, hpl⟩ := hcnd
              obtain ⟨k, n, h1, h2⟩ := intK_inv h
              obtain ⟨k', n', h3, ⟨⟨h4, h5⟩, h6, h7⟩, h8, h9⟩ := intK_inv h2
              have hx := ev_rep he lx
              rw [h1] at hx
              have hx' : a.eval lx = .int k n := hx
              have hy := ev_rep he cx'
              rw [h3] at hy
              have hy' : a.eval cx' = .int k' n' := hy
              have hle : n.toNat * inf.size ≤ n'.toNat * inf.size := Nat.mul_le_mul_right _ (by omega)
              have hmz := made_zero (w := w) (n := n'.toNat) (S := Sta ρ X w) hzs hs (fun v hv => List.all_eq_true.1 hpl v hv)
              obtain ⟨ρ', hf, hag, hot, hr', hp⟩ := new_arv hr h8 hs (els := List.replicate n.toNat (z.cells.toList.map .v)) (Made.alloc w (.cells (madeCells z.cells (n'.toNat * inf.size)) e)) (by simp [size_madeCells]; exact hle)
                (fun i e' he' => by
                  obtain ⟨q1, q2⟩ := hmz i e' (by
                    rw [List.getElem?_replicate] at he' ⊢
                    split at he'
                    · rw [if_pos (by omega)]; exact he'
                    · cases he')
                  refine ⟨q1, fun f x hx => ?_⟩
                  obtain ⟨u, q3, q4⟩ := q2 f x hx
                  exact ⟨u, q3, RepV_of_D q4⟩) n.toNat n'.toNat (by omega) (by simp only [maxLen]; omega) (by simp [size_madeCells])
              exact .inl ⟨_, _, by simp [hx', hy', run_make w t e inf z hu hi hz k k' n n' h4 h5 h6 h7], _, _, ρ', h9, ⟨keepP_mono hfx (live_set (by simp)), fun k hk => hot.1 k (fresh_ne h8 (keepP_get hfx k hk)), fun k _ hreal => ⟨hag k hreal, hot.2 k hreal⟩⟩, hf, hr', RepE_mono hf hag he, hp⟩
            · cases hm
          · cases hm
        · cases hm
      · cases hm
    · rename_i j _ _ _ _ _
      split at hm
      · rename_i e hu
        split at hm
        · rename_i inf hi
          split at hm
          · rename_i z hz
            split at hm
            · rename_i hcnd
              simp only [Option.some.injEq] at hm
              subst hm
              obtain ⟨hs, hzs, hpl⟩ := hcnd
              obtain ⟨k, n, h1, h2⟩ := intK_inv h
              obtain ⟨k', n', h3, ⟨⟨h4, h5⟩, h6, h7⟩, h8, h9⟩ := intK_inv h2
              have hx := ev_rep he lx
              rw [h1] at hx
              have hx' : a.eval lx = .int k n := hx
              have hy := ev_rep he cx'
              rw [h3] at hy
              have hy' : a.eval cx' = .int k' n' := hy
              have hle : n.toNat * inf.size ≤ n'.toNat * inf.size := Nat.mul_le_mul_right _ (by omega)
              have hmz := made_zero (w := w) (n := n'.toNat) (S := Sta ρ X w) hzs hs (fun v hv => List.all_eq_true.1 hpl v hv)
              obtain ⟨ρ', hf, hag, hot, hr', hp⟩ := new_arr hr h8 hs (els := List.replicate n.toNat (z.cells.toList.map .v)) (Made.alloc w (.cells (madeCells z.cells (n'.toNat * inf.size)) e)) (by simp [size_madeCells]; exact hle)
                (fun i e' he' => hmz i e' (by
                  rw [List.getElem?_replicate] at he' ⊢
                  split at he'
                  · rw [if_pos (by omega)]; exact he'
                  · cases he')) n.toNat n'.toNat (by omega) (by simp only [maxLen]; omega) (by simp [size_madeCells])
              exact .inl ⟨_, _, by simp [hx', hy', run_make w t e inf z hu hi hz k k' n n' h4 h5 h6 h7], _, _, ρ', h9, ⟨keepP_mono hfx (live_set (by simp)), fun k hk => hot.1 k (fresh_ne h8 (keepP_get hfx k hk)), fun k _ hreal => ⟨hag k hreal, hot.2 k hreal⟩⟩, hf, hr', RepE_mono hf hag he, hp⟩
            · cases hm
          · cases hm
        · cases hm
      · cases hm
    · cases hm
  | buildSlice t n parts =>
    simp only [rl0] at hm
    split at hm
    · rename_i xs j _ _ _ _
      split at hm
      · rename_i e hu
        split at hm
        · rename_i inf hi
          split at hm
          · rename_i z hz
            split at hm
            · rename_i hcnd
              simp only [Option.some.injEq] at hm
              subst hm
              obtain ⟨hs, hzs, hsm, hpl⟩ := hcnd
              simp only [aOp] at h
              obtain ⟨s', ρ1, h, hsb, hf1, hfx1, hl1, hr1, he1⟩ := frzP_rep (t := a.tmps) xs s ρ h hr he (fun _ _ _ => trivial)
              have hfx' : keepP cx.fx s'.h := keepP_mk fun k hk => hl1 k (by simp [hk]) (keepP_get hfx k hk)
              have hmz := made_zero (w := w) (n := n) (S := Sta ρ1 X w) hzs hs (fun v hv => List.all_eq_true.1 hpl v hv)
              obtain ⟨els, cells', h1, h2, h3, h4⟩ := fill_lits he1 parts.toList _ (madeCells z.cells (n * inf.size)) ⟨by simp [size_madeCells], hmz⟩ h
              obtain ⟨h5, h6⟩ := h1
              have hel : els.length = n := by rw [h2]; simp
              have hnm : n ≤ 16777216 := by
                have : n * 1 ≤ n * inf.size := Nat.mul_le_mul_left _ hs
                omega
              obtain ⟨ρ', hf, hag, hot, hr', hp⟩ := new_arr hr1 h5 hs (Made.alloc w (.cells cells' e)) (Nat.le_of_eq h4.1.symm) h4.2 n n (Nat.le_refl _) (by simp only [maxLen]; omega) (by rw [h4.1, hel]; exact Nat.le_refl _)
              have hrun := lits_run (w := w) (parts := parts.map fun (i, x) => (i, a.eval x)) hu hi hz hs hsm (by rw [Array.toList_map]; exact h3)
              refine .inl ⟨_, _, by simp [hrun], _, _, ρ', h6, ⟨keepP_mono hfx' (live_set (by simp)), fun k hk => (hot.1 k (fresh_ne h5 (keepP_get hfx' k hk))).trans (hfx1 k (by simp [hk])), fun k hk hreal => ?_⟩, hf1.trans hf, hr', RepE_mono hf hag he1, hp⟩
              have hk1 := hfx1 k (by simp [hk])
              have hreal1 : (ρ1 k).real = true := by rw [hk1]; exact hreal
              exact ⟨(hag k hreal1).trans hk1, by rw [← hk1]; exact hot.2 k hreal1⟩
            · cases hm
          · cases hm
        · cases hm
      · cases hm
    · rename_i j _ _ _ _
      split at hm
      · rename_i e hu
        split at hm
        · rename_i inf hi
          split at hm
          · rename_i z hz
            split at hm
            · rename_i hcnd
              simp only [Option.some.injEq] at hm
              subst hm
              obtain ⟨hs, hzs, hsm, hpl⟩ := hcnd
              have hmz := made_zero (w := w) (n := n) (S := Sta ρ X w) hzs hs (fun v hv => List.all_eq_true.1 hpl v hv)
              obtain ⟨els, cells', h1, h2, h3, h4⟩ := fill_lits he parts.toList _ (madeCells z.cells (n * inf.size)) ⟨by simp [size_madeCells], hmz⟩ h
              obtain ⟨h5, h6⟩ := h1
              have hel : els.length = n := by rw [h2]; simp
              have hnm : n ≤ 16777216 := by
                have : n * 1 ≤ n * inf.size := Nat.mul_le_mul_left _ hs
                omega
              obtain ⟨ρ', hf, hag, hot, hr', hp⟩ := new_arr hr h5 hs (Made.alloc w (.cells cells' e)) (Nat.le_of_eq h4.1.symm) h4.2 n n (Nat.le_refl _) (by simp only [maxLen]; omega) (by rw [h4.1, hel]; exact Nat.le_refl _)
              have hrun := lits_run (w := w) (parts := parts.map fun (i, x) => (i, a.eval x)) hu hi hz hs hsm (by rw [Array.toList_map]; exact h3)
              exact .inl ⟨_, _, by simp [hrun], _, _, ρ', h6, ⟨keepP_mono hfx (live_set (by simp)), fun k hk => hot.1 k (fresh_ne h5 (keepP_get hfx k hk)), fun k _ hreal => ⟨hag k hreal, hot.2 k hreal⟩⟩, hf, hr', RepE_mono hf hag he, hp⟩
            · cases hm
          · cases hm
        · cases hm
      · cases hm
    · cases hm
  | call c =>
    simp only [rl0, rlCall] at hm
    split at hm
    · split at hm
      · simp only [Option.some.injEq] at hm; subst hm; simp [quietOp] at hn
      · simp only [Option.some.injEq] at hm; subst hm; simp [quietOp] at hn
      · rename_i x t hcal hargs hts _ kt e hu
        simp only [Option.some.injEq] at hm
        subst hm
        simp only [aOp] at h
        obtain ⟨b, es, c', arr, _, h1, _, _, _, _, hm', hb, hrm⟩ := map_blk hr (ev_rep he x) h
        have ha := toArray_of hargs
        have hat := toArray_of hts
        refine .inl ⟨.int .i64 es.length, w, ?_, _, s, ρ, h1, ⟨hfx, fun _ _ => rfl, fun _ _ _ => ⟨rfl, rfl⟩⟩, Fr.refl _ _, hr, he, rfl⟩
        have hlen : arr.size = es.length := by rw [repM_len hrm]; simp
        simp [resolve, hcal, ha, hat, invoke, builtin, Builtin.len_, run_underlying hu, hm', MapKept.run_getObj_map hb, goInt, hlen]
      · cases hm
    · simp only [Option.some.injEq] at hm; exact absurd hm.symm (hc _ _)
    · simp only [Option.some.injEq] at hm; exact absurd hm.symm (hv _ _)
    · simp only [Option.some.injEq] at hm; subst hm; simp [quietOp] at hn
    · simp only [Option.some.injEq] at hm; subst hm; simp [quietOp] at hn
    · rename_i m k t ts hcal hargs hts
      split at hm
      · rename_i kt e hu
        split at hm
        · rename_i kd hkt
          simp only [Option.some.injEq] at hm
          subst hm
          simp only [aOp] at h
          obtain ⟨key, hkv, hkey, h⟩ := keyK_inv h
          have hk := ev_rep he k
          rw [hkv] at hk
          have hk' : a.eval k = key := hk
          obtain ⟨b, es, c', arr, _, ⟨hbn, h1⟩, g1, g2, g3, _, hm', hb, hrm⟩ := map_blk hr (ev_rep he m) h
          obtain ⟨B, w', h2, h3, h4, h5, h6, h7⟩ := mdel_run (ty := o.type) (ts := ts) hr hu hkt hkey g1 g2 g3 hb hrm h1
          have ha := toArray_of hargs
          have hat := toArray_of hts
          exact .inl ⟨_, w', by simp [resolve, hcal, ha, hat, invoke, builtin, hm', hk', h7], _, _, ρ, h2, ⟨keepP_mono hfx (live_set h3), fun _ _ => rfl, fun j hj hjr => ⟨rfl, h6 j (fun e => hbn (e ▸ hj)) hjr⟩⟩, h4, h5, RepE_mono h4 (fun _ _ => rfl) he, rfl⟩
        · cases hm
      · cases hm
    · rename_i x y t t' hcal hargs hts
      split at hm
      · rename_i htt
        subst htt
        split at hm
        · rename_i e j _ _ _ _ ht
          split at hm
          · rename_i inf hi
            split at hm
            · rename_i z hz
              split at hm
              · rename_i hcnd
                obtain ⟨hs, hzs, hby⟩ := hcnd
                simp only [Option.some.injEq] at hm
                subst hm
                simp only [aOp] at h
                obtain ⟨sz', new, ⟨h1, h2⟩, h3⟩ := viewK_inv hr (ev_rep he y) h
                have hsh : Shows ρ X w (a.eval y) inf.size new := by
                  rcases h1 with rfl | rfl
                  · obtain ⟨ad, cp, k1, k2, _⟩ := h3
                    exact ⟨ad, cp, k1, k2, .inl rfl⟩
                  · exact h3
                have hx := ev_rep he x
                have hok : AppOk P cx.fx cx.bn ρ X w a.tmps (Builtin.append_ #[t, t] o.type #[a.eval x, a.eval y]) K := by
                  unfold appP at h2
                  split at h2
                  · rename_i k i n hxv
                    rw [hxv] at hx
                    exact appB_run ht hi hz hs hzs hby hr he hfx hx hsh h2
                  · rename_i hxv
                    rw [hxv] at hx
                    exact appNew_run ht hi hz hs hzs hby hr he hfx (.inl ⟨rfl, hx⟩) hsh h2
                  · rename_i sz0 els hxv
                    rw [hxv] at hx
                    obtain ⟨⟨rfl, hne⟩, h2⟩ := h2
                    obtain ⟨ad, len, k1, rfl, k3, k4⟩ := hx
                    exact appNew_run ht hi hz hs hzs hby hr he hfx (.inr ⟨hne, ad, k1, ad, els.length, k1, k3, k4.imp id fun ⟨b, off, e1, _, e2⟩ => ⟨b, off, e1, e2⟩⟩) hsh h2
                  · exact h2.elim
                obtain ⟨val, w', hrun, hsd⟩ := hok
                have ha := toArray_of hargs
                have hat := toArray_of hts
                exact .inl ⟨val, w', by simp [resolve, hcal, ha, hat, invoke, builtin, hrun], hsd⟩
              · cases hm
            · cases hm
          · cases hm
        · cases hm
      · cases hm
    · rename_i x y t t' hcal hargs hts
      split at hm
      · rename_i e e' ht ht'
        split at hm
        · rename_i inf hi
          simp only [Option.some.injEq] at hm
          subst hm
          simp only [aOp] at h
          obtain ⟨sz', new, ⟨h1, h2⟩, h3⟩ := viewK_inv hr (ev_rep he y) h
          have hsh : Shows ρ X w (a.eval y) inf.size new := by
            rcases h1 with rfl | rfl
            · obtain ⟨ad, cp, k1, k2, _⟩ := h3
              exact ⟨ad, cp, k1, k2, .inl rfl⟩
            · exact h3
          have hx := ev_rep he x
          have hok : AppOk P cx.fx cx.bn ρ X w a.tmps (Builtin.copy_ #[t, t'] o.type #[a.eval x, a.eval y]) K := by
            unfold copyP at h2
            split at h2
            · rename_i k i n hxv
              rw [hxv] at hx
              exact copyB_run ht hi hr he hfx hx hsh h2
            · exact h2.elim
          obtain ⟨val, w', hrun, hsd⟩ := hok
          have ha := toArray_of hargs
          have hat := toArray_of hts
          exact .inl ⟨val, w', by simp [resolve, hcal, ha, hat, invoke, builtin, hrun], hsd⟩
        · cases hm
      · cases hm
    · cases hm
  | _ =>
    exfalso
    simp only [rl0] at hm
    (repeat' split at hm) <;> first | (cases hm; done) | (simp only [Option.some.injEq] at hm; subst hm; simp [quietOp] at hn; done) | skip
    all_goals
      rw [Option.map_eq_some_iff] at hm
      obtain ⟨ps, _, rfl⟩ := hm
      simp [quietOp] at hn
end
end Go.Fx
namespace Go.Fx
open Go.RowKit
def Fn (P : Program) (f : FuncId) (args : List V) (h0 : List Blk) (mv : List Nat) (R : V → List Blk → Prop) : Prop :=
  ∀ (ρ : Nat → Loc) (X : Nat → Prop) (w : World) (vals : List Value), Rep ρ X w h0 → RepL ρ X w args vals →
    Calls P f vals.toArray w fun e w' => ∃ val r h' ρ', e = .returned val ∧ (R r h' ∧ h0.length ≤ h'.length) ∧ Fr ρ w ρ' w' ∧ Rep ρ' X w' h' ∧ RepV ρ' X w' r val ∧
      ∀ k, k < h0.length → k ∉ mv → ρ' k = ρ k
section
variable {ρ : Nat → Loc} {X : Nat → Prop} {w : World}
theorem pos_some {ι : List Nat} {k j : Nat} : pos ι k = some j → ι[j]? = some k := by
  induction ι generalizing j with
  | nil => intro h; simp [pos] at h
  | cons x r ih =>
    intro h
    simp only [pos] at h
    split at h
    · rename_i hk
      simp only [Option.some.injEq] at h
      subst h; subst hk
      rfl
    · cases hp : pos r k with
      | none => simp [hp] at h
      | some m =>
        simp [hp] at h
        subst h
        simpa using ih hp
theorem pos_none {ι : List Nat} {k : Nat} : pos ι k = none → k ∉ ι := by
  induction ι with
  | nil => intro _; simp
  | cons x r ih =>
    intro h
    simp only [pos] at h
    split at h
    · cases h
    · rename_i hk
      cases hp : pos r k with
      | none => simp [hk, ih hp]
      | some m => simp [hp] at h
def calleeLoc (ρ : Nat → Loc) (ι : List Nat) (j : Nat) : Loc :=
  match ι[j]? with
  | some k => ρ k
  | none => ⟨false, 0, 0, 0, 0, default⟩
def calleeX (ρ : Nat → Loc) (X : Nat → Prop) (ι : List Nat) (b : Nat) : Prop := X b ∨ (Own ρ b ∧ ¬ Own (calleeLoc ρ ι) b)
theorem callee_own {ι : List Nat} {b : Nat} (h : Own (calleeLoc ρ ι) b) : Own ρ b := by
  obtain ⟨j, h1, h2⟩ := h
  unfold calleeLoc at h1 h2
  split at h1
  · rename_i k hk
    exact ⟨k, h1, by simpa [hk] using h2⟩
  · cases h1
theorem callee_at {ι : List Nat} {j k : Nat} (h : ι[j]? = some k) : calleeLoc ρ ι j = ρ k := by simp [calleeLoc, h]
theorem callee_sta {ι : List Nat} {b : Nat} (h : Sta ρ X w b) : Sta (calleeLoc ρ ι) (calleeX ρ X ι) w b :=
  ⟨h.1, fun ho => h.2.1 (callee_own ho), fun hx => hx.elim h.2.2 (fun hy => h.2.1 hy.1)⟩
theorem callee_len {ι : List Nat} {b : Nat} (h : Len ρ w b) : Len (calleeLoc ρ ι) w b := ⟨h.1, fun ho => h.2 (callee_own ho)⟩
theorem callee_sta' {ι : List Nat} : ∀ b, Sta ρ X w b → Sta (calleeLoc ρ ι) (calleeX ρ X ι) w b ∧ w.heap[b]? = w.heap[b]? := fun _ h => ⟨callee_sta h, rfl⟩
theorem callee_not_own {h : List Blk} (hr : Rep ρ X w h) {ι : List Nat} {k : Nat} (hk : k ∉ ι) (hreal : (ρ k).real = true) : ¬ Own (calleeLoc ρ ι) (ρ k).blk := by
  rintro ⟨j, h1, h2⟩
  unfold calleeLoc at h1 h2
  split at h1
  · rename_i m hm
    simp only [hm] at h2
    have hmem : m ∈ ι := List.mem_of_getElem? hm
    have hne : m ≠ k := fun e => hk (e ▸ hmem)
    exact hr.inj m k hne h1 hreal h2
  · cases h1
theorem RepEls_view {S : Nat → Prop} {sz b off i n : Nat} {els : List (List V)} (h : RepEls S w sz b off els) : RepEls S w sz b (off + i * sz) ((els.drop i).take n) :=
  RepEls_mk fun j e he => by
    have he' : els[i + j]? = some e := by
      rw [List.getElem?_take] at he
      split at he
      · simpa using he
      · cases he
    have := RepEls_get h he'
    rw [Nat.add_mul] at this
    rw [Nat.add_assoc]
    exact this
mutual
theorem lend_rep {h : List Blk} (hr : Rep ρ X w h) {ι : List Nat} : ∀ (x : V) (val : Value), lendOk h (pos ι) x → RepV ρ X w x val → RepV (calleeLoc ρ ι) (calleeX ρ X ι) w (lend h (pos ι) x) val
  | .any, _, _, _ => trivial
  | .v _, _, _, hx => hx
  | .ro sz els, val, _, hx => RepD_mono callee_sta' (.ro sz els) val hx
  | .bro sz els, val, _, hx => by
    obtain ⟨a, len, cap, h1, h2, h3, h4, h5⟩ := hx
    refine ⟨a, len, cap, h1, h2, h3, h4, h5.imp id ?_⟩
    rintro ⟨b, off, h6, h7, h8⟩
    exact ⟨b, off, h6, callee_len h7, RepEls_mono callee_sta' sz b rfl off els h8⟩
  | .full sz els, val, _, hx => by
    obtain ⟨a, len, h1, h2, h4, h5⟩ := hx
    refine ⟨a, len, h1, h2, h4, h5.imp id ?_⟩
    rintro ⟨b, off, h6, h7, h8⟩
    exact ⟨b, off, h6, callee_len h7, RepEls_mono callee_sta' sz b rfl off els h8⟩
  | .rp sz els i f, val, _, hx => by
    obtain ⟨b, off, h6, h7, h8⟩ := hx
    exact ⟨b, off, h6, callee_len h7, RepEls_mono callee_sta' sz b rfl off els h8⟩
  | .sl k i n, val, hok, hx => by
    cases hp : pos ι k with
    | some j =>
      simp only [lend, hp]
      have hj := callee_at (ρ := ρ) (pos_some hp)
      obtain ⟨cap, h1, h2, h3⟩ := hx
      refine ⟨cap, h1, h2, ?_⟩
      rw [hj]
      exact h3
    | none =>
      simp only [lend, hp]
      simp only [lendOk, hp] at hok
      have hk := pos_none hp
      cases hb : h[k]? with
      | none => simp only [blk, List.getD_eq_getElem?_getD, hb]; exact trivial
      | some B =>
        simp only [blk, List.getD_eq_getElem?_getD, hb] at hok ⊢
        have hB := hr.blk k B hb
        cases B with
        | arr sz els =>
          obtain ⟨⟨hsz, hpos⟩, hor⟩ := hB
          have hok' : i + n ≤ els.length := hok
          have hlen : ((els.drop i).take n).length = n := by simp; omega
          obtain ⟨cap, h1, h2, h3⟩ := hx
          show RepV _ _ w (.bro sz _) val
          rcases h3 with ⟨rfl, a, rfl⟩ | ⟨hreal, rfl, hroom⟩
          · have hn : n = 0 := by omega
            subst hn
            exact ⟨a, 0, 0, rfl, by simp, Nat.le_refl _, Nat.zero_le _, .inl (by simp)⟩
          · rcases hor with ⟨h4, _⟩ | ⟨_, c, T, hh, hc, hrm, hels⟩
            · rw [h4] at hreal; cases hreal
            · refine ⟨_, n, cap, rfl, hlen.symm, h1, h2, .inr ⟨_, _, rfl, ⟨hr.lt k hreal, callee_not_own hr hk hreal⟩, ?_⟩⟩
              rw [hsz]
              exact RepEls_mono callee_sta' sz _ rfl _ _ (RepEls_view hels)
        | dead => trivial
        | var _ => trivial
        | arv _ _ => trivial
        | map _ _ => trivial
        | it _ _ _ _ => trivial
        | rcd _ _ => trivial
  | .ptr k i f, val, _, hx => by
    cases hp : pos ι k with
    | some j =>
      simp only [lend, hp]
      have hj := callee_at (ρ := ρ) (pos_some hp)
      simp only [RepV]
      rw [hj]
      exact hx
    | none => simp only [lend, hp]; trivial
  | .agg cs, val, hok, hx => by
    obtain ⟨arr, h1, h2⟩ := hx
    exact ⟨arr, h1, lends_rep hr cs arr.toList hok h2⟩
  | .tup cs, val, hok, hx => by
    obtain ⟨arr, h1, h2⟩ := hx
    exact ⟨arr, h1, lends_rep hr cs arr.toList hok h2⟩
  | .clo f cs, val, hok, hx => by
    obtain ⟨arr, h1, h2⟩ := hx
    exact ⟨arr, h1, lends_rep hr cs arr.toList hok h2⟩
  | .mp k, val, _, hx => by
    cases hp : pos ι k with
    | some j =>
      simp only [lend, hp]
      have hj := callee_at (ρ := ρ) (pos_some hp)
      simp only [RepV]
      rw [hj]
      exact hx
    | none => simp only [lend, hp]; trivial
  | .itr _, _, _, _ => trivial
theorem lends_rep {h : List Blk} (hr : Rep ρ X w h) {ι : List Nat} : ∀ (xs : List V) (vs : List Value), lendsOk h (pos ι) xs → RepL ρ X w xs vs → RepL (calleeLoc ρ ι) (calleeX ρ X ι) w (lends h (pos ι) xs) vs
  | [], [], _, _ => trivial
  | x :: r, u :: us, hok, hx => ⟨lend_rep hr x u hok.1 hx.1, lends_rep hr r us hok.2 hx.2⟩
  | [], _ :: _, _, hx => hx.elim
  | _ :: _, [], _, hx => hx.elim
end
theorem wkB_rep {x : V} {s : Nat} {e : List (List V)} {val : Value} (hk : wkB x s e) (hx : RepV ρ X w x val) : RepV ρ X w (.bro s e) val := by
  unfold wkB at hk
  split at hk
  · obtain ⟨rfl, rfl⟩ := hk; exact hx
  · obtain ⟨rfl, rfl⟩ := hk
    obtain ⟨a, len, cap, h1, h2, h3, h4, h5⟩ := hx
    exact ⟨a, len, cap, h1, h2, h3, h4, h5.imp id fun ⟨b, off, h6, h7, h8⟩ => ⟨b, off, h6, ⟨h7.1, h7.2.1⟩, h8⟩⟩
  · obtain ⟨rfl, rfl⟩ := hk
    obtain ⟨a, len, h1, h2, h4, h5⟩ := hx
    exact ⟨a, len, len, h1, h2, Nat.le_refl _, h4, h5⟩
  · subst hk
    exact ⟨none, 0, 0, hx, rfl, Nat.le_refl _, Nat.zero_le _, .inl rfl⟩
  · exact hk.elim
theorem wkR_rep {x : V} {s : Nat} {e : List (List V)} {val : Value} (hk : wkR x s e) (hx : RepV ρ X w x val) : RepV ρ X w (.ro s e) val := by
  unfold wkR at hk
  split at hk
  · obtain ⟨rfl, rfl⟩ := hk; exact hx
  · subst hk
    exact ⟨none, 0, 0, hx, rfl, Nat.le_refl _, Nat.zero_le _, .inl rfl⟩
  · exact hk.elim
mutual
theorem wk_rep : ∀ (y x : V) (val : Value), wk y x → RepV ρ X w x val → RepV ρ X w y val
  | .any, _, _, _, _ => trivial
  | .bro _ _, _, _, hk, hx => wkB_rep (by simpa only [wk] using hk) hx
  | .ro _ _, _, _, hk, hx => wkR_rep (by simpa only [wk] using hk) hx
  | .agg ys, .agg xs, _, hk, ⟨arr, h1, h2⟩ => ⟨arr, h1, wkL_rep ys xs _ (by simpa only [wk] using hk) h2⟩
  | .tup ys, .tup xs, _, hk, ⟨arr, h1, h2⟩ => ⟨arr, h1, wkL_rep ys xs _ (by simpa only [wk] using hk) h2⟩
  | .clo f ys, .clo g xs, _, hk, ⟨arr, h1, h2⟩ => by
    simp only [wk] at hk
    obtain ⟨rfl, hk⟩ := hk
    exact ⟨arr, h1, wkL_rep ys xs _ hk h2⟩
  | .v y, x, _, hk, hx => by simp only [wk] at hk; subst hk; exact hx
  | .full _ _, x, _, hk, hx => by simp only [wk] at hk; subst hk; exact hx
  | .sl _ _ _, x, _, hk, hx => by simp only [wk] at hk; subst hk; exact hx
  | .ptr _ _ _, x, _, hk, hx => by simp only [wk] at hk; subst hk; exact hx
  | .rp _ _ _ _, x, _, hk, hx => by simp only [wk] at hk; subst hk; exact hx
  | .mp _, x, _, hk, hx => by simp only [wk] at hk; subst hk; exact hx
  | .itr _, x, _, hk, hx => by simp only [wk] at hk; subst hk; exact hx
  | .agg _, .any, _, hk, _ | .agg _, .v _, _, hk, _ | .agg _, .ro _ _, _, hk, _ | .agg _, .bro _ _, _, hk, _ | .agg _, .full _ _, _, hk, _ | .agg _, .sl _ _ _, _, hk, _ | .agg _, .ptr _ _ _, _, hk, _
  | .agg _, .rp _ _ _ _, _, hk, _ | .agg _, .tup _, _, hk, _ | .agg _, .clo _ _, _, hk, _ | .agg _, .mp _, _, hk, _ | .agg _, .itr _, _, hk, _ => by simp only [wk] at hk
  | .tup _, .any, _, hk, _ | .tup _, .v _, _, hk, _ | .tup _, .ro _ _, _, hk, _ | .tup _, .bro _ _, _, hk, _ | .tup _, .full _ _, _, hk, _ | .tup _, .sl _ _ _, _, hk, _ | .tup _, .ptr _ _ _, _, hk, _
  | .tup _, .rp _ _ _ _, _, hk, _ | .tup _, .agg _, _, hk, _ | .tup _, .clo _ _, _, hk, _ | .tup _, .mp _, _, hk, _ | .tup _, .itr _, _, hk, _ => by simp only [wk] at hk
  | .clo _ _, .any, _, hk, _ | .clo _ _, .v _, _, hk, _ | .clo _ _, .ro _ _, _, hk, _ | .clo _ _, .bro _ _, _, hk, _ | .clo _ _, .full _ _, _, hk, _ | .clo _ _, .sl _ _ _, _, hk, _ | .clo _ _, .ptr _ _ _, _, hk, _
  | .clo _ _, .rp _ _ _ _, _, hk, _ | .clo _ _, .agg _, _, hk, _ | .clo _ _, .tup _, _, hk, _ | .clo _ _, .mp _, _, hk, _ | .clo _ _, .itr _, _, hk, _ => by simp only [wk] at hk
theorem wkL_rep : ∀ (ys xs : List V) (vs : List Value), wkL ys xs → RepL ρ X w xs vs → RepL ρ X w ys vs
  | [], [], _, _, hx => hx
  | y :: ys, x :: xs, u :: us, hk, hx => by simp only [wkL] at hk; exact ⟨wk_rep y x u hk.1 hx.1, wkL_rep ys xs us hk.2 hx.2⟩
  | _ :: _, _ :: _, [], _, hx => hx.elim
  | [], _ :: _, _, hk, _ => by simp only [wkL] at hk
  | _ :: _, [], _, hk, _ => by simp only [wkL] at hk
end
mutual
theorem ren_rep {ρ1 ρ2 : Nat → Loc} {X1 X2 : Nat → Prop} {g : Nat → Option Nat} (hS : ∀ b, Sta ρ1 X1 w b → Sta ρ2 X2 w b) (hg : ∀ k j, g k = some j → (ρ1 k).real = true → ρ2 j = ρ1 k) :
    ∀ (x : V) (val : Value), RepV ρ1 X1 w x val → RepV ρ2 X2 w (ren g x) val
  | .any, _, _ => trivial
  | .v _, _, hx => hx
  | .ro sz els, val, hx => RepD_mono (fun b hb => ⟨hS b hb, rfl⟩) (.ro sz els) val hx
  | .bro _ _, _, _ | .full _ _, _, _ | .rp _ _ _ _, _, _ | .itr _, _, _ => trivial
  | .sl k i n, val, hx => by
    simp only [ren]
    split
    · rename_i j hj
      obtain ⟨cap, h1, h2, h3⟩ := hx
      refine ⟨cap, h1, h2, h3.imp id ?_⟩
      rintro ⟨h4, h5⟩
      rw [hg k j hj h4]
      exact ⟨h4, h5⟩
    · trivial
  | .ptr k i f, val, hx => by
    simp only [ren]
    split
    · rename_i j hj
      obtain ⟨h4, h5⟩ := hx
      simp only [RepV]
      rw [hg k j hj h4]
      exact ⟨h4, h5⟩
    · trivial
  | .mp k, val, hx => by
    simp only [ren]
    split
    · rename_i j hj
      obtain ⟨h4, h5⟩ := hx
      simp only [RepV]
      rw [hg k j hj h4]
      exact ⟨h4, h5⟩
    · trivial
  | .agg cs, val, hx => by
    obtain ⟨arr, h1, h2⟩ := hx
    exact ⟨arr, h1, rens_rep hS hg cs _ h2⟩
  | .tup cs, val, hx => by
    obtain ⟨arr, h1, h2⟩ := hx
    exact ⟨arr, h1, rens_rep hS hg cs _ h2⟩
  | .clo f cs, val, hx => by
    obtain ⟨arr, h1, h2⟩ := hx
    exact ⟨arr, h1, rens_rep hS hg cs _ h2⟩
theorem rens_rep {ρ1 ρ2 : Nat → Loc} {X1 X2 : Nat → Prop} {g : Nat → Option Nat} (hS : ∀ b, Sta ρ1 X1 w b → Sta ρ2 X2 w b) (hg : ∀ k j, g k = some j → (ρ1 k).real = true → ρ2 j = ρ1 k) :
    ∀ (xs : List V) (vs : List Value), RepL ρ1 X1 w xs vs → RepL ρ2 X2 w (rens g xs) vs
  | [], [], _ => trivial
  | x :: r, u :: us, hx => ⟨ren_rep hS hg x u hx.1, rens_rep hS hg r us hx.2⟩
  | [], _ :: _, hx => hx.elim
  | _ :: _, [], hx => hx.elim
end
theorem rens_map (g : Nat → Option Nat) : ∀ xs : List V, rens g xs = xs.map (ren g)
  | [] => rfl
  | x :: r => by simp [rens, rens_map g r]
theorem rens_len (g : Nat → Option Nat) (xs : List V) : (rens g xs).length = xs.length := by simp [rens_map]
theorem get_renE (g : Nat → Option Nat) : ∀ (e : Env) (i : Nat), get (renE g e) i = ren g (get e i)
  | [], _ => by simp [renE, get, ren]
  | (j, x) :: r, i => by
    simp only [renE, get]
    split
    · rfl
    · exact get_renE g r i
theorem renB_rep {ρ1 ρ2 : Nat → Loc} {X1 X2 : Nat → Prop} {g : Nat → Option Nat} (hS : ∀ b, Sta ρ1 X1 w b → Sta ρ2 X2 w b) (hg : ∀ k j, g k = some j → (ρ1 k).real = true → ρ2 j = ρ1 k)
    {k j : Nat} (hkj : ρ2 j = ρ1 k) {B : Blk} (hB : RepB ρ1 X1 w k B) : RepB ρ2 X2 w j (renB g B) := by
  cases B with
  | dead => simp only [renB, RepB] at hB ⊢; rw [hkj]; exact hB
  | arr sz els =>
    simp only [renB, RepB] at hB ⊢
    rw [hkj]
    refine ⟨hB.1, hB.2.imp id ?_⟩
    rintro ⟨h1, c, T, h2, h3, h4, h5⟩
    exact ⟨h1, c, T, h2, h3, h4, RepEls_mono (fun b hb => ⟨hS b hb, rfl⟩) sz _ rfl _ _ h5⟩
  | var cs =>
    simp only [renB, RepB] at hB ⊢
    rw [hkj]
    obtain ⟨h1, c, T, h2, h3⟩ := hB
    exact ⟨h1, c, T, h2, rens_rep hS hg _ _ h3⟩
  | arv sz els =>
    simp only [renB, RepB] at hB ⊢
    rw [hkj]
    obtain ⟨h0, h1, c, T, h2, h3, h4, h5⟩ := hB
    refine ⟨h0, h1, c, T, h2, h3, by simpa using h4, fun i e he => ?_⟩
    simp only [List.getElem?_map, Option.map_eq_some_iff] at he
    obtain ⟨e0, he0, rfl⟩ := he
    refine ⟨by rw [rens_len]; exact (h5 i e0 he0).1, fun f x hx => ?_⟩
    simp only [rens_map, List.getElem?_map, Option.map_eq_some_iff] at hx
    obtain ⟨x0, hx0, rfl⟩ := hx
    obtain ⟨u, h6, h7⟩ := (h5 i e0 he0).2 f x0 hx0
    exact ⟨u, h6, ren_rep hS hg _ _ h7⟩
  | map es cl =>
    simp only [renB, RepB] at hB ⊢
    rw [hkj]
    obtain ⟨h1, arr, h2, h3, h4⟩ := hB
    refine ⟨h1, arr, h2, by rw [h3]; simp, ?_⟩
    rw [show (List.map (fun e : Value × V × Nat => (e.1, ren g e.2.1, e.2.2)) es).map (·.2.1) = rens g (es.map (·.2.1)) by rw [rens_map]; simp]
    exact rens_rep hS hg _ _ h4
  | it m s sn l =>
    simp only [renB, RepB] at hB ⊢
    rw [hkj]
    obtain ⟨h1, x, h2, h3⟩ := hB
    exact ⟨h1, x, h2, ren_rep hS hg _ _ h3⟩
  | rcd t e =>
    simp only [renB, RepB] at hB ⊢
    rw [hkj]
    exact ⟨hB.1, fun i => by rw [get_renE]; exact ren_rep hS hg _ _ (hB.2 i)⟩
theorem pos_of_get {ι : List Nat} (hn : ι.Nodup) {j k : Nat} (h : ι[j]? = some k) : pos ι k = some j := by
  induction ι generalizing j with
  | nil => simp at h
  | cons x r ih =>
    cases j with
    | zero => simp at h; subst h; simp [pos]
    | succ j =>
      have h' : r[j]? = some k := by simpa using h
      have hne : k ≠ x := by
        rintro rfl
        exact (List.nodup_cons.1 hn).1 (List.mem_of_getElem? h')
      simp [pos, hne, ih (List.nodup_cons.1 hn).2 h']
theorem callee_real {ι : List Nat} {j : Nat} (h : (calleeLoc ρ ι j).real = true) : ∃ k, ι[j]? = some k ∧ calleeLoc ρ ι j = ρ k := by
  cases hk : ι[j]? with
  | none => simp [calleeLoc, hk] at h
  | some k => exact ⟨k, rfl, callee_at hk⟩
theorem callee_rep {h : List Blk} (hr : Rep ρ X w h) {ι : List Nat} (hn : ι.Nodup) (hlt : ∀ k ∈ ι, k < h.length) :
    Rep (calleeLoc ρ ι) (calleeX ρ X ι) w (ι.map fun k => renB (pos ι) (blk h k)) := by
  refine ⟨?_, ?_, ?_, ?_, ?_, ?_⟩
  · intro i j hij hi hj
    obtain ⟨a, ha, ea⟩ := callee_real hi
    obtain ⟨c, hc, ec⟩ := callee_real hj
    rw [ea] at hi ⊢
    rw [ec] at hj ⊢
    refine hr.inj a c (fun e => hij ?_) hi hj
    subst e
    have h1 := pos_of_get hn ha
    have h2 := pos_of_get hn hc
    rw [h1] at h2
    simpa using h2
  · intro k hk
    have : ι[k]? = none := by simpa using hk
    simp [calleeLoc, this]
  · intro j B hB
    simp only [List.getElem?_map, Option.map_eq_some_iff] at hB
    obtain ⟨k, hk, rfl⟩ := hB
    have hkl := hlt k (List.mem_of_getElem? hk)
    have hb : h[k]? = some (blk h k) := by simp [blk, List.getD_eq_getElem?_getD, List.getElem?_eq_getElem hkl]
    exact renB_rep (fun b hb => callee_sta hb) (fun k' j' hp _ => callee_at (pos_some hp)) (callee_at hk) (hr.blk k _ hb)
  · rintro b ho (hx | ⟨_, hx⟩)
    · exact hr.disj b (callee_own ho) hx
    · exact hx ho
  · intro j hj
    unfold calleeLoc at hj ⊢
    split at hj
    · exact hr.lt _ hj
    · cases hj
  · rintro b (hx | ⟨⟨k, h1, h2⟩, _⟩)
    · exact hr.xlt b hx
    · have := hr.lt k h1
      omega
theorem setAll_len : ∀ (ι : List Nat) (bs h : List Blk), ι.length ≤ bs.length → (setAll ι bs h).length = h.length + (bs.length - ι.length)
  | [], bs, h, _ => by simp [setAll]
  | k :: ι, b :: bs, h, hl => by
    rw [setAll, setAll_len ι bs _ (by simpa using hl)]
    simp
  | _ :: _, [], _, hl => by simp at hl
theorem setAll_get : ∀ (ι : List Nat) (bs h : List Blk), ι.Nodup → (∀ k ∈ ι, k < h.length) → ι.length ≤ bs.length → ∀ k, (setAll ι bs h)[k]? = match pos ι k with
    | some j => bs[j]?
    | none => if k < h.length then h[k]? else bs[ι.length + (k - h.length)]?
  | [], bs, h, _, _, _, k => by
    simp only [setAll, pos]
    split
    · rw [List.getElem?_append_left (by assumption)]
    · rw [List.getElem?_append_right (by omega)]
      simp
  | x :: ι, b :: bs, h, hn, hlt, hl, k => by
    rw [setAll, setAll_get ι bs _ (List.nodup_cons.1 hn).2 (fun k hk => by simpa using hlt k (by simp [hk])) (by simpa using hl)]
    simp only [pos]
    by_cases hk : k = x
    · subst hk
      have hp : pos ι k = none := by
        cases hp : pos ι k with
        | none => rfl
        | some j => exact absurd (List.mem_of_getElem? (pos_some hp)) (List.nodup_cons.1 hn).1
      have hkl := hlt k (by simp)
      simp [hp, hkl]
    · simp only [hk, if_false]
      cases hp : pos ι k with
      | some j => simp
      | none =>
        simp only [List.length_set, Option.map_none]
        split
        · rw [List.getElem?_set_ne (Ne.symm hk)]
        · simp only [List.length_cons]
          rw [show ι.length + 1 + (k - h.length) = (ι.length + (k - h.length)) + 1 by omega]
          simp
  | _ :: _, [], _, _, _, hl, _ => by simp at hl
def afterLoc (ρ ρc : Nat → Loc) (ι : List Nat) (n : Nat) (k : Nat) : Loc :=
  match pos ι k with
  | some j => ρc j
  | none => if k < n then ρ k else ρc (ι.length + (k - n))
theorem back_loc {ρc : Nat → Loc} {ι : List Nat} {n : Nat} (hn : ι.Nodup) (hlt : ∀ k ∈ ι, k < n) {j k : Nat} (h : back ι n j = some k) : afterLoc ρ ρc ι n k = ρc j := by
  unfold back at h
  split at h
  · rename_i m hm
    simp only [Option.some.injEq] at h
    subst h
    simp [afterLoc, pos_of_get hn hm]
  · rename_i hj
    simp only [Option.some.injEq] at h
    subst h
    have hp : pos ι (n + (j - ι.length)) = none := by
      cases hp : pos ι (n + (j - ι.length)) with
      | none => rfl
      | some i =>
        have := hlt _ (List.mem_of_getElem? (pos_some hp))
        omega
    have hjl : ι.length ≤ j := by simpa using hj
    simp only [afterLoc, hp]
    rw [if_neg (by omega)]
    congr 1
    omega
theorem after_own {ρc : Nat → Loc} {h : List Blk} (hr : Rep ρ X w h) {ι : List Nat} {b : Nat} (ho : Own (afterLoc ρ ρc ι h.length) b) :
    Own ρc b ∨ (Own ρ b ∧ ¬ Own (calleeLoc ρ ι) b) := by
  obtain ⟨k, h1, h2⟩ := ho
  unfold afterLoc at h1 h2
  split at h1
  · rename_i j hj
    simp only [hj] at h2
    exact .inl ⟨j, h1, h2⟩
  · rename_i hp
    simp only [hp] at h2
    split at h1
    · rename_i hk
      rw [if_pos hk] at h2
      exact .inr ⟨⟨k, h1, h2⟩, h2 ▸ callee_not_own hr (pos_none hp) h1⟩
    · rename_i hk
      rw [if_neg hk] at h2
      exact .inl ⟨_, h1, h2⟩
theorem after_sta {ρc : Nat → Loc} {w' : World} {h : List Blk} (hr : Rep ρ X w h) {ι : List Nat} (b : Nat) (hb : Sta ρc (calleeX ρ X ι) w' b) : Sta (afterLoc ρ ρc ι h.length) X w' b :=
  ⟨hb.1, fun ho => (after_own hr ho).elim hb.2.1 (fun h' => hb.2.2 (.inr h')), fun hx => hb.2.2 (.inl hx)⟩
theorem after_fr {ρc : Nat → Loc} {w' : World} {h : List Blk} (hr : Rep ρ X w h) {ι : List Nat} (hf : Fr (calleeLoc ρ ι) w ρc w') : Fr ρ w (afterLoc ρ ρc ι h.length) w' :=
  ⟨hf.os, hf.tape, hf.output, hf.size, fun b hb ho => by
    have h1 := hf.keep b hb (fun h => ho (callee_own h))
    exact ⟨h1.1, fun h2 => (after_own hr h2).elim h1.2 (fun h3 => ho h3.1)⟩⟩
theorem after_rep {ρc : Nat → Loc} {w' : World} {h h' : List Blk} (hr : Rep ρ X w h) {ι : List Nat} (hn : ι.Nodup) (hlt : ∀ k ∈ ι, k < h.length) (hl : ι.length ≤ h'.length) {M : List Nat}
    (hf : Fr (calleeLoc ρ ι) w ρc w') (hc : Rep ρc (calleeX ρ X ι) w' h') (hag : ∀ k, k ∉ M → (ρ k).real = true → afterLoc ρ ρc ι h.length k = ρ k) :
    Rep (afterLoc ρ ρc ι h.length) X w' (setAll ι (h'.map (renB (back ι h.length))) (h.map (killB M))) := by
  have hfr := after_fr hr hf
  have hlt' : ∀ k ∈ ι, k < (h.map (killB M)).length := fun k hk => by simpa using hlt k hk
  refine ⟨?_, ?_, ?_, ?_, ?_, ?_⟩
  · intro i j hij hi hj he
    -- each is the callee's or one of the caller's other blocks
    have key : ∀ k, (afterLoc ρ ρc ι h.length k).real = true → (∃ m, afterLoc ρ ρc ι h.length k = ρc m ∧ (ρc m).real = true ∧ (pos ι k = some m ∨ (pos ι k = none ∧ h.length ≤ k ∧ m = ι.length + (k - h.length)))) ∨
        (afterLoc ρ ρc ι h.length k = ρ k ∧ (ρ k).real = true ∧ k ∉ ι) := by
      intro k hk
      cases hp : pos ι k with
      | some m => exact .inl ⟨m, by simp [afterLoc, hp], by simpa [afterLoc, hp] using hk, .inl rfl⟩
      | none =>
        have hni := pos_none hp
        by_cases h1 : k < h.length
        · exact .inr ⟨by simp [afterLoc, hp, h1], by simpa [afterLoc, hp, h1] using hk, hni⟩
        · exact .inl ⟨ι.length + (k - h.length), by simp [afterLoc, hp, h1], by simpa [afterLoc, hp, h1] using hk, .inr ⟨rfl, by omega, rfl⟩⟩
    rcases key i hi with ⟨m, e1, r1, c1⟩ | ⟨e1, r1, n1⟩ <;> rcases key j hj with ⟨m', e2, r2, c2⟩ | ⟨e2, r2, n2⟩
    · rw [e1, e2] at he
      have hmm : m = m' := by
        rcases Nat.lt_or_ge m m' with h | h
        · exact absurd he (hc.inj m m' (by omega) r1 r2)
        · rcases Nat.lt_or_ge m' m with h' | h'
          · exact absurd he (hc.inj m m' (by omega) r1 r2)
          · omega
      subst hmm
      rcases c1 with c1 | ⟨c1, h1, c3⟩ <;> rcases c2 with c2 | ⟨c2, h2, c4⟩
      · have := pos_some c1
        rw [pos_some c2] at this
        simp only [Option.some.injEq] at this
        exact hij this.symm
      · have := (List.getElem?_eq_some_iff.1 (pos_some c1)).1
        omega
      · have := (List.getElem?_eq_some_iff.1 (pos_some c2)).1
        omega
      · omega
    · rw [e1, e2] at he
      exact hc.disj _ ⟨m, r1, he⟩ (.inr ⟨⟨j, r2, rfl⟩, callee_not_own hr n2 r2⟩)
    · rw [e1, e2] at he
      exact hc.disj _ ⟨m', r2, he.symm⟩ (.inr ⟨⟨i, r1, rfl⟩, callee_not_own hr n1 r1⟩)
    · rw [e1, e2] at he
      exact hr.inj i j hij r1 r2 he
  · intro k hk
    rw [setAll_len _ _ _ (by simpa using hl)] at hk
    simp at hk
    have hp : pos ι k = none := by
      cases hp : pos ι k with
      | none => rfl
      | some i =>
        have := hlt _ (List.mem_of_getElem? (pos_some hp))
        omega
    simp only [afterLoc, hp]
    rw [if_neg (by omega)]
    exact hc.out _ (by omega)
  · intro k B hB
    rw [setAll_get _ _ _ hn hlt' (by simpa using hl)] at hB
    cases hp : pos ι k with
    | some j =>
      rw [hp] at hB
      simp only [List.getElem?_map, Option.map_eq_some_iff] at hB
      obtain ⟨B', hB', rfl⟩ := hB
      have hk : back ι h.length j = some k := by simp [back, pos_some hp]
      exact renB_rep (after_sta hr) (fun a c hb _ => back_loc hn hlt hb) (back_loc hn hlt hk) (hc.blk j B' hB')
    | none =>
      rw [hp] at hB
      simp only [List.length_map] at hB
      split at hB
      · rename_i hkl
        simp only [List.getElem?_map, Option.map_eq_some_iff] at hB
        obtain ⟨B', hB', rfl⟩ := hB
        refine RepB_kill hfr M hag (by simp [afterLoc, hp, hkl]) (fun hreal => ?_) (hr.blk k B' hB')
        exact (hf.keep _ (hr.lt k hreal) (callee_not_own hr (pos_none hp) hreal)).1
      · rename_i hkl
        simp only [List.getElem?_map, Option.map_eq_some_iff] at hB
        obtain ⟨B', hB', rfl⟩ := hB
        have hk : back ι h.length (ι.length + (k - h.length)) = some k := by
          have : ι[ι.length + (k - h.length)]? = none := by simp
          simp only [back, this]
          congr 1
          omega
        exact renB_rep (after_sta hr) (fun a c hb _ => back_loc hn hlt hb) (back_loc hn hlt hk) (hc.blk _ B' hB')
  · intro b ho hx
    rcases after_own hr ho with h1 | h1
    · exact hc.disj b h1 (.inl hx)
    · exact hr.disj b h1.1 hx
  · intro k hk
    unfold afterLoc at hk ⊢
    split at hk
    · rename_i j hj
      exact hc.lt _ hk
    · rename_i hp
      split at hk
      · rename_i h1
        rw [if_pos h1]
        exact Nat.lt_of_lt_of_le (hr.lt k hk) hf.size
      · rename_i h1
        rw [if_neg h1]
        exact hc.lt _ hk
  · intro b hb
    exact Nat.lt_of_lt_of_le (hr.xlt b hb) hf.size
end
end Go.Fx
namespace Go.Fx
open Go.RowKit
def Callable (P : Program) (f : FuncId) : Prop := ∃ fn, P.funcs[f]? = some fn ∧ (fn.name == "runtime.NumGoroutine") = false ∧ fn.body.isNone = false
def YOk (P : Program) (ρ0 : Nat → Loc) (X : Nat → Prop) (w0 : World) (fx : List Nat) (k : Nat) (Y : Yt) : Prop :=
  ∀ (ρ : Nat → Loc) (w : World) (s : St) (tmps : Array Value) (xs : List V) (vals : List Value) (K : V → St → Prop),
    (Fr ρ0 w0 ρ w ∧ ∀ j ∈ fx, ρ j = ρ0 j) → keepP fx s.h → Rep ρ X w s.h → RepE ρ X w s.e tmps → RepL ρ X w xs vals → Y xs s K →
    ∃ fn tm asg body, (Instr.yield (ρ k).blk vals.toArray).run P w = .ok (.round (ρ k).blk fn tm asg body) w ∧
      RoundIn Fence.wide 0 P (ρ k).blk fn tm asg body w fun e w' => ∃ val, e = .returned val ∧ Sound fx [] ρ X w tmps K val w'
def Iter (P : Program) (f : FuncId) (args : List V) (fx : List Nat) (k : Nat) (Y : Yt) (h : List Blk) (K : List Blk → Prop) : Prop :=
  ∀ (ρ : Nat → Loc) (X : Nat → Prop) (w : World) (vals : List Value), Rep ρ X w h → RepL ρ X w args vals → keepP fx h → YOk P ρ X w fx k Y →
    Calls P f vals.toArray w fun e w' => ∃ val h' ρ', e = .returned val ∧ K h' ∧ (Fr ρ w ρ' w' ∧ Rep ρ' X w' h') ∧ (∀ j ∈ fx, ρ' j = ρ j) ∧ keepP fx h'
def Cx.ok (cx : Cx) (P : Program) : Prop :=
  (∀ f zas h0 mv R, cx.C f zas h0 mv R → Callable P f ∧ Fn P f zas h0 mv R) ∧
  (∀ f zas fx k Y h K, cx.it f zas fx k Y h K → Callable P f ∧ Iter P f zas fx k Y h K)
section
variable {ρ : Nat → Loc} {X : Nat → Prop} {w : World} {P : Program}
theorem callFunc_run {f : FuncId} (h : Callable P f) (vs : Array Value) (w : World) : (callFunc f vs).run P w = .ok (.enter f vs) w := by
  obtain ⟨fn, h1, h2, h3⟩ := h
  have h2' : ¬ fn.name = "runtime.NumGoroutine" := by simpa using h2
  have h3' : ¬ fn.body = none := by intro h; simp [h] at h3
  simp [callFunc, program, Sem.run, h1, h2', h3']
theorem call_sound {cx : Cx} (hcx : cx.ok P) {f : FuncId} {args : List V} {vals : List Value} {s : St} {t : Array Value} {K : V → St → Prop} (hr : Rep ρ X w s.h) (he : RepE ρ X w s.e t) (hfx : keepP cx.fx s.h)
    (ha : RepL ρ X w args vals) (h : callP cx f args s K) : Callable P f ∧ Calls P f vals.toArray w fun e w' => ∃ val, e = .returned val ∧ Sound cx.fx cx.bn ρ X w t K val w' := by
  obtain ⟨ι, zas, mv, R, ⟨⟨hn, hlt0⟩, hmv⟩, hok, hwk, hC, hK⟩ := h
  have hlt : ∀ k ∈ ι, k < s.h.length := fun k hk => (hlt0 k hk).1
  obtain ⟨hcall, hFn⟩ := hcx.1 _ _ _ _ _ hC
  refine ⟨hcall, ?_⟩
  have hargs := wkL_rep _ _ _ hwk (lends_rep hr (ι := ι) _ _ hok ha)
  refine (hFn _ _ w vals (callee_rep hr hn hlt) hargs).mono ?_
  rintro e w' ⟨val, r, h', ρc, rfl, ⟨hR, hl⟩, hf, hrep, hval, hstay⟩
  have hl' : ι.length ≤ h'.length := by simpa using hl
  obtain ⟨hkeep, hK'⟩ := hK r h' hR hl'
  have hat : ∀ j k, ι[j]? = some k → j ∉ mv → ρc j = ρ k := fun j k hj hm => by
    rw [hstay j (by simpa using (List.getElem?_eq_some_iff.1 hj).1) hm, callee_at hj]
  have hag : ∀ k, k ∉ mv.filterMap (ι[·]?) → (ρ k).real = true → afterLoc ρ ρc ι s.h.length k = ρ k := by
    intro k hk hreal
    cases hp : pos ι k with
    | some j =>
      simp only [afterLoc, hp]
      exact hat j k (pos_some hp) (fun hm => hk (List.mem_filterMap.2 ⟨j, hm, pos_some hp⟩))
    | none =>
      simp only [afterLoc, hp]
      by_cases hk' : k < s.h.length
      · rw [if_pos hk']
      · rw [hr.out k (by omega)] at hreal
        cases hreal
  have hfr := after_fr hr hf
  refine ⟨val, rfl, _, _, afterLoc ρ ρc ι s.h.length, hK', ⟨hkeep, fun k hk => ?_, fun k hk hreal => ?_⟩, hfr, after_rep hr hn hlt hl' hf hrep hag, RepE_kill hfr _ hag he, ren_rep (after_sta hr) (fun a c hb _ => back_loc hn hlt hb) _ _ hval⟩
  cases hp : pos ι k with
  | some j =>
    simp only [afterLoc, hp]
    exact hat j k (pos_some hp) (fun hm => hmv j hm k (pos_some hp) hk)
  | none =>
    simp only [afterLoc, hp]
    have := keepP_get hfx k hk
    have hkl : k < s.h.length := by
      unfold liveP at this
      split at this
      · exact this.elim
      · rename_i hb
        exact (List.getElem?_eq_some_iff.1 hb).1
      · exact this.elim
    rw [if_pos hkl]
  · have hnot : k ∉ ι := fun hi => (hlt0 k hi).2 hk
    refine ⟨hag k (fun hm => ?_) hreal, (hf.keep _ (hr.lt k hreal) (callee_not_own hr hnot hreal)).1⟩
    obtain ⟨j, _, hj⟩ := List.mem_filterMap.1 hm
    exact hnot (List.mem_of_getElem? hj)
theorem map_ev_rep {e : Env} {a : Act} (he : RepE ρ X w e a.tmps) : ∀ xs : List Operand, RepL ρ X w (xs.map (ev e)) (xs.map a.eval)
  | [] => trivial
  | x :: r => ⟨ev_rep he x, map_ev_rep he r⟩
theorem RepL_append : ∀ {xs ys : List V} {us vs : List Value}, RepL ρ X w xs us → RepL ρ X w ys vs → RepL ρ X w (xs ++ ys) (us ++ vs)
  | [], _, [], _, _, h => h
  | _ :: _, _, _ :: _, _, h, h' => ⟨h.1, RepL_append h.2 h'⟩
  | [], _, _ :: _, _, h, _ => h.elim
  | _ :: _, _, [], _, h, _ => h.elim
theorem rl_call_inv {op : Op} {l0 : LOp} {f : FuncId} {xs : List Operand} (hm : rl0 P op l0 = some (.call f xs)) : ∃ c, op = .call c ∧ c.callee = .value (.func f) ∧ c.args.toList = xs := by
  cases op with
  | call c =>
    refine ⟨c, rfl, ?_⟩
    simp only [rl0, rlCall] at hm
    split at hm
    · exfalso; revert hm; (repeat' split) <;> simp
    · rename_i hc
      simp only [Option.some.injEq, LOp.call.injEq] at hm
      exact ⟨by rw [hc, hm.1], hm.2⟩
    all_goals (exfalso; revert hm; (repeat' split) <;> simp)
  | _ => exfalso; simp only [rl0] at hm <;> (revert hm; (repeat' split) <;> simp [Option.map_eq_some_iff])
theorem rl_callv_inv {op : Op} {l0 : LOp} {f : Operand} {xs : List Operand} (hm : rl0 P op l0 = some (.callv f xs)) : ∃ c, op = .call c ∧ c.callee = .value f ∧ c.args.toList = xs := by
  cases op with
  | call c =>
    refine ⟨c, rfl, ?_⟩
    simp only [rl0, rlCall] at hm
    split at hm
    · exfalso; revert hm; (repeat' split) <;> simp
    · exfalso; simp at hm
    · rename_i hc
      simp only [Option.some.injEq, LOp.callv.injEq] at hm
      exact ⟨by rw [hc, hm.1], hm.2⟩
    all_goals (exfalso; revert hm; (repeat' split) <;> simp)
  | _ => exfalso; simp only [rl0] at hm <;> (revert hm; (repeat' split) <;> simp [Option.map_eq_some_iff])
theorem aOp_sound {cx : Cx} (hcx : cx.ok P) {o : Oper} {l0 l : LOp} {a : Act} {s : St} {K : V → St → Prop} {Q : Exit → Act → World → Prop} (hm : rl P o.op l0 = some l)
    (hr : Rep ρ X w s.h) (he : RepE ρ X w s.e a.tmps) (hfx : keepP cx.fx s.h) (h : aOp cx l s K) :
    o.wp P a w (fun a' w' => ∃ val, a' = a.put o.dst val ∧ Sound cx.fx cx.bn ρ X w a.tmps K val w') Q := by
  rcases rl_cases hm with rfl | hm0
  · exact h.elim
  by_cases hq : quietOp l = true
  · obtain ⟨x, val, h1, h2, h3⟩ := quiet_sound hq hm hr he h
    unfold Oper.wp
    rw [h3 w (Ext.refl w)]
    exact ⟨val, rfl, x, s, ρ, h1, ⟨hfx, fun _ _ => rfl, fun _ _ _ => ⟨rfl, rfl⟩⟩, Fr.refl _ _, hr, he, h2⟩
  · by_cases hc : ∃ f xs, l = .call f xs
    · obtain ⟨f, xs, rfl⟩ := hc
      have hop := rl_call_inv hm0
      obtain ⟨c, hop, hcal, hargs⟩ := hop
      obtain ⟨h1, h2⟩ := call_sound hcx hr he hfx (map_ev_rep he xs) h
      unfold Oper.wp execOp
      have ha : (c.args.map a.eval) = (xs.map a.eval).toArray := by apply Array.ext'; simp [hargs]
      simp only [hop, resolve, hcal, ha, Act.eval, Deferred.ofValue, Sem.run_bind, Sem.run_pure, Result.andThen_ok, invoke, Array.empty_append, Array.append_empty, callFunc_run h1]
      refine Calls.mono h2 ?_
      rintro e w' ⟨val, rfl, hs⟩
      exact ⟨val, rfl, hs⟩
    · by_cases hv : ∃ f xs, l = .callv f xs
      · obtain ⟨f, xs, rfl⟩ := hv
        have hop := rl_callv_inv hm0
        obtain ⟨c, hop, hcal, hargs⟩ := hop
        simp only [aOp] at h
        split at h
        · rename_i g cs hg
          have hf := ev_rep he f
          rw [hg] at hf
          obtain ⟨arr, hf1, hf2⟩ := hf
          obtain ⟨h1, h2⟩ := call_sound hcx hr he hfx (RepL_append (map_ev_rep he xs) hf2) h
          unfold Oper.wp execOp
          have ha : (c.args.map a.eval) = (xs.map a.eval).toArray := by apply Array.ext'; simp [hargs]
          have ha2 : (xs.map a.eval ++ arr.toList).toArray = (xs.map a.eval).toArray ++ arr := by simp
          rw [ha2] at h2
          simp only [hop, resolve, hcal, ha, hf1, Deferred.ofValue, Sem.run_bind, Sem.run_pure, Result.andThen_ok, invoke, Array.empty_append, callFunc_run h1]
          refine Calls.mono h2 ?_
          rintro e w' ⟨val, rfl, hs⟩
          exact ⟨val, rfl, hs⟩
        · exact h.elim
      · rcases aOp_eff hm0 hr he hfx h (by simpa using hq) (fun f xs e => hc ⟨f, xs, e⟩) (fun f xs e => hv ⟨f, xs, e⟩) with ⟨val, w', hrun, hs⟩ | ⟨w', hrun, hs⟩
        · unfold Oper.wp
          rw [hrun]
          exact ⟨val, rfl, hs⟩
        · unfold Oper.wp
          rw [hrun]
          exact ⟨undef, rfl, hs⟩
end
end Go.Fx
namespace Go.Fx
open Go.RowKit
def gOk (ops : Array Oper) (N : Nat) : Option (Nat × Bool) → Option (Option (Nat × Bool))
  | none => some none
  | some (j, want) => match ops[j]? with
    | some oj => match oj.dst with
      | some g => if g < N then some (some (g, want)) else none
      | none => none
    | none => none
def dOk (N : Nat) : Option Nat → Bool
  | none => true
  | some d => decide (d < N)
def rlOs (P : Program) (ops : Array Oper) (N : Nat) : List Oper → List LOper → Option (List LOper)
  | [], [] => some []
  | o :: os, l :: ls => match rl P o.op l.op, gOk ops N o.guard, dOk N o.dst, rlOs P ops N os ls with
    | some op, some g, true, some r => some (⟨o.dst, op, g⟩ :: r)
    | _, _, _, _ => none
  | _, _ => none
theorem rlOs_cons {P : Program} {ops : Array Oper} {N : Nat} {o : Oper} {os : List Oper} {ls0 : List LOper} {l : LOper} {ls : List LOper} (h : rlOs P ops N (o :: os) ls0 = some (l :: ls)) :
    ∃ l0 r0 op g, ls0 = l0 :: r0 ∧ rl P o.op l0.op = some op ∧ gOk ops N o.guard = some g ∧ (∀ d, o.dst = some d → d < N) ∧ l = ⟨o.dst, op, g⟩ ∧ rlOs P ops N os r0 = some ls := by
  cases ls0 with
  | nil => simp [rlOs] at h
  | cons l0 r0 =>
    simp only [rlOs] at h
    split at h
    · rename_i op g r h1 h2 h3 h4
      simp only [Option.some.injEq, List.cons.injEq] at h
      obtain ⟨rfl, rfl⟩ := h
      refine ⟨l0, r0, op, g, rfl, h1, h2, fun d hd => ?_, rfl, h4⟩
      simpa [dOk, hd] using h3
    · cases h
theorem rlOs_nil {P : Program} {ops : Array Oper} {N : Nat} {os : List Oper} {ls0 : List LOper} (h : rlOs P ops N os ls0 = some []) : os = [] := by
  cases os with
  | nil => rfl
  | cons o os =>
    cases ls0 with
    | nil => simp [rlOs] at h
    | cons l0 r0 =>
      simp only [rlOs] at h
      split at h <;> simp at h
section
variable {P : Program} (ρ0 : Nat → Loc) (X : Nat → Prop) (w0 : World) (fx : List Nat) (N : Nat)
def markOf (D : Nat) : Deferred := { target := .collected D, args := #[] }
def Marks (ρ : Nat → Loc) (w0 w : World) (ds : List Deferred) : Prop :=
  ∃ Ds : List Nat, (ds = Ds.map markOf ∧ Ds.Nodup) ∧ ∀ D ∈ Ds, (w0.heap.size ≤ D ∧ D < w.heap.size) ∧ ¬ Own ρ D ∧ w.heap[D]? = some (.deferred (some []))
theorem Marks.nil {ρ : Nat → Loc} {w0 w : World} : Marks ρ w0 w [] := ⟨[], ⟨rfl, List.nodup_nil⟩, fun _ h => by simp at h⟩
theorem Marks.fr {ρ ρ' : Nat → Loc} {w0 w w' : World} {ds : List Deferred} (hf : Fr ρ w ρ' w') (h : Marks ρ w0 w ds) : Marks ρ' w0 w' ds := by
  obtain ⟨Ds, h1, h2⟩ := h
  refine ⟨Ds, h1, fun D hD => ?_⟩
  obtain ⟨⟨h3, h4⟩, h5, h6⟩ := h2 D hD
  have h7 := hf.keep D h4 h5
  exact ⟨⟨h3, Nat.lt_of_lt_of_le h4 hf.size⟩, h7.2, h7.1.trans h6⟩
theorem defers_put (a : Act) (d : Option Nat) (v : Value) : (a.put d v).defers = a.defers := by cases d <;> rfl
def Good (s : St) (a : Act) (w : World) : Prop :=
  ∃ ρ, ((Fr ρ0 w0 ρ w ∧ ∀ k ∈ fx, ρ k = ρ0 k) ∧ keepP fx s.h) ∧ (Rep ρ X w s.h ∧ RepE ρ X w s.e a.tmps) ∧ a.tmps.size = N ∧ Marks ρ w0 w a.defers
variable {ρ0 X w0 fx N}
theorem Good.sound {s : St} {a : Act} {w : World} {ρ : Nat → Loc} (h1 : (Fr ρ0 w0 ρ w ∧ ∀ k ∈ fx, ρ k = ρ0 k) ∧ keepP fx s.h) (h3 : a.tmps.size = N ∧ Marks ρ w0 w a.defers) {K : V → St → Prop} {d : Option Nat} (hd : ∀ n, d = some n → n < N) {val : Value} {w' : World}
    {bn : List Nat} (h : Sound fx bn ρ X w a.tmps K val w') : ∃ x s', K x s' ∧ Good ρ0 X w0 fx N (s'.put d x) (a.put d val) w' := by
  obtain ⟨x, s', ρ', hK, ⟨hk, hfx, _⟩, hf, hr, he, hv⟩ := h
  have hh : (s'.put d x).h = s'.h := by cases d <;> rfl
  refine ⟨x, s', hK, ρ', ⟨⟨h1.1.1.trans hf, fun k hk' => (hfx k hk').trans (h1.1.2 k hk')⟩, by rw [hh]; exact hk⟩, ⟨by rw [hh]; exact hr, ?_⟩, by rw [size_put]; exact h3.1, by rw [defers_put]; exact h3.2.fr hf⟩
  exact RepE_put (e := s'.e) he hv (fun n hn => by rw [h3.1]; exact hd n hn) s' rfl
theorem yielded_of {ops : Array Oper} {a : Act} {j g : Nat} {oj : Oper} (hj : ops[j]? = some oj) (hg : oj.dst = some g) (hN : g < a.tmps.size) : yielded ops a.tmps j = match a.tmps.getD g undef with | .bool b => some b | _ => none := by
  unfold yielded
  simp only [hj, Option.bind_some, hg]
  rw [Array.getElem?_eq_getElem hN, Array.getD_eq_getD_getElem?, Array.getElem?_eq_getElem hN]
  simp only [Option.getD_some]
  cases a.tmps[g] <;> rfl
theorem Good.put_same {s : St} {a : Act} {w : World} {ρ : Nat → Loc} {g : Nat} {b : Bool} (he : RepE ρ X w s.e a.tmps) (hg : a.tmps.getD g undef = .bool b) : RepE ρ X w ((g, V.b b) :: s.e) a.tmps := by
  intro i
  rw [get_put]
  split
  · rename_i hi
    subst hi
    rw [hg]
    exact rfl
  · exact he i
def EnvB (e e' : Env) : Prop := ∀ j, get e' j = get e j ∨ ∃ b, get e' j = V.b b
theorem EnvB.refl (e : Env) : EnvB e e := fun _ => .inl rfl
theorem EnvB.put (e : Env) (g : Nat) (b : Bool) : EnvB e ((g, V.b b) :: e) := fun j => by
  rw [get_put]
  split
  · exact .inr ⟨b, rfl⟩
  · exact .inl rfl
theorem guard_casesG {A : St → (V → St → Prop) → Prop} {ops : Array Oper} {o : Oper} {g : Option (Nat × Bool)} {s : St} {a : Act} {w : World} {ρ : Nat → Loc} {K : St → Prop} (hN : a.tmps.size = N) (hg : gOk ops N o.guard = some g)
    (he : RepE ρ X w s.e a.tmps) (h : gP g o.dst A s K) :
    (Region.wanted o (yielded ops a.tmps) = true ∧ ∃ e', EnvB s.e e' ∧ RepE ρ X w e' a.tmps ∧ A { s with e := e' } fun x s' => K (s'.put o.dst x)) ∨
    (Region.wanted o (yielded ops a.tmps) = false ∧ ∃ e', EnvB s.e e' ∧ RepE ρ X w e' a.tmps ∧ K (St.put { s with e := e' } o.dst (.v (.tuple #[])))) := by
  cases ho : o.guard with
  | none =>
    rw [ho] at hg
    simp only [gOk, Option.some.injEq] at hg
    subst hg
    exact .inl ⟨by simp [Region.wanted, ho], s.e, EnvB.refl _, he, h⟩
  | some jw =>
    obtain ⟨j, want⟩ := jw
    rw [ho] at hg
    simp only [gOk] at hg
    split at hg
    · rename_i oj hj
      split at hg
      · rename_i gs hgs
        split at hg
        · rename_i hlt
          simp only [Option.some.injEq] at hg
          subst hg
          have hy := yielded_of hj hgs (a := a) (hN.symm ▸ hlt)
          have hrep := he gs
          simp only [gP, guardP] at h
          split at h
          · rename_i b hb
            rw [hb] at hrep
            have hrep' : a.tmps.getD gs undef = .bool b := hrep
            rw [hrep'] at hy
            have hw : Region.wanted o (yielded ops a.tmps) = (b == want) := by
              simp [Region.wanted, ho, hy]
            cases b <;> cases want
            · refine .inl ⟨by rw [hw]; rfl, _, EnvB.put _ _ _, Good.put_same he hrep', ?_⟩
              simp only [Bool.false_eq_true, if_false] at h
              exact h.2 rfl
            · refine .inr ⟨by rw [hw]; rfl, _, EnvB.put _ _ _, Good.put_same he hrep', ?_⟩
              simp only [if_true] at h
              exact h.2 rfl
            · refine .inr ⟨by rw [hw]; rfl, _, EnvB.put _ _ _, Good.put_same he hrep', ?_⟩
              simp only [Bool.false_eq_true, if_false] at h
              exact h.1 rfl
            · refine .inl ⟨by rw [hw]; rfl, _, EnvB.put _ _ _, Good.put_same he hrep', ?_⟩
              simp only [if_true] at h
              exact h.1 rfl
          · rename_i u hu
            rw [hu] at hrep
            have hrep' : a.tmps.getD gs undef = .tuple u := hrep
            rw [hrep'] at hy
            exact .inr ⟨by simp [Region.wanted, ho, hy], s.e, EnvB.refl _, he, h⟩
          · exact h.elim
        · cases hg
      · cases hg
    · cases hg
theorem guard_cases {cx : Cx} {ops : Array Oper} {o : Oper} {op : LOp} {g : Option (Nat × Bool)} {s : St} {a : Act} {w : World} {ρ : Nat → Loc} {K : St → Prop} (hN : a.tmps.size = N) (hg : gOk ops N o.guard = some g)
    (he : RepE ρ X w s.e a.tmps) (h : aOper cx ⟨o.dst, op, g⟩ s K) :
    (Region.wanted o (yielded ops a.tmps) = true ∧ ∃ e', EnvB s.e e' ∧ RepE ρ X w e' a.tmps ∧ aOp cx op { s with e := e' } fun x s' => K (s'.put o.dst x)) ∨
    (Region.wanted o (yielded ops a.tmps) = false ∧ ∃ e', EnvB s.e e' ∧ RepE ρ X w e' a.tmps ∧ K (St.put { s with e := e' } o.dst (.v (.tuple #[])))) :=
  guard_casesG hN hg he (A := aOp cx op) (by cases g <;> exact h)
theorem aOps_sound {cx : Cx} (hcx : cx.ok P) (hfxe : cx.fx = fx) {ops : Array Oper} {Q : Exit → Act → World → Prop} {K : St → Prop} (hQ : ∀ s a w, K s → Good ρ0 X w0 fx N s a w → Q .normal a w) :
    ∀ (os : List Oper) (ls0 ls : List LOper) (s : St) (a : Act) (w : World), rlOs P ops N os ls0 = some ls → Good ρ0 X w0 fx N s a w → aOps cx ls s K → wpList P ops Q os a w
  | os, ls0, [], s, a, w, hm, hg, h => by
    have := rlOs_nil hm
    subst this
    exact hQ s a w h hg
  | [], ls0, l :: ls, s, a, w, hm, hg, h => by
    cases ls0 <;> simp [rlOs] at hm
  | o :: os, ls0, l :: ls, s, a, w, hm, hg, h => by
    obtain ⟨l0, r0, op, g, rfl, h1, h2, hd, rfl, h4⟩ := rlOs_cons hm
    obtain ⟨ρ, hpre, ⟨hr, he⟩, hN, hdf⟩ := hg
    simp only [aOps] at h
    unfold wpList
    rcases guard_cases hN h2 he h with ⟨hw, e', _, he', h'⟩ | ⟨hw, e', _, he', h'⟩
    · rw [if_pos hw]
      left
      refine Oper.wp_mono ?_ (aOp_sound hcx h1 (s := { s with e := e' }) hr he' (by rw [hfxe]; exact hpre.2) h')
      rintro a' w' ⟨val, rfl, hs⟩
      rw [hfxe] at hs
      obtain ⟨x, s', hK, hgood⟩ := Good.sound (s := s) hpre ⟨hN, hdf⟩ hd hs
      exact aOps_sound hcx hfxe hQ os r0 ls _ _ _ h4 hgood hK
    · rw [if_neg (by rw [hw]; exact Bool.false_ne_true)]
      have hh : (St.put { s with e := e' } o.dst (.v (.tuple #[]))).h = s.h := by cases o.dst <;> rfl
      refine aOps_sound hcx hfxe hQ os r0 ls _ _ _ h4 ⟨ρ, ⟨hpre.1, by rw [hh]; exact hpre.2⟩, ⟨by rw [hh]; exact hr, ?_⟩, by rw [size_put]; exact hN, by cases o.dst <;> exact hdf⟩ h'
      exact RepE_put (e := e') (x := .v (.tuple #[])) (val := undef) he' rfl (fun n hn => by rw [hN]; exact hd n hn) _ rfl
theorem Good.reserve {s : St} {a : Act} {w : World} (n m : Nat) (h : Good ρ0 X w0 fx N s a w) : Good ρ0 X w0 fx N { s with b := m, h := s.h ++ List.replicate n .dead } a w := by
  obtain ⟨ρ, ⟨h1, hk⟩, ⟨hr, he⟩, h3⟩ := h
  refine ⟨ρ, ⟨h1, keepP_mono hk fun k hl => ?_⟩, ⟨⟨hr.inj, fun k hk' => hr.out k (by simp at hk'; omega), fun k B hB => ?_, hr.disj, hr.lt, hr.xlt⟩, he⟩, h3⟩
  · unfold liveP at hl ⊢
    cases hb : s.h[k]? with
    | none => rw [hb] at hl; exact hl.elim
    | some B =>
      have hlt : k < s.h.length := (List.getElem?_eq_some_iff.1 hb).1
      rw [List.getElem?_append_left hlt]
      exact hl
  · rcases Nat.lt_or_ge k s.h.length with hlt | hge
    · rw [List.getElem?_append_left hlt] at hB
      exact hr.blk k B hB
    · rw [List.getElem?_append_right hge, List.getElem?_replicate] at hB
      split at hB
      · simp only [Option.some.injEq] at hB
        subst hB
        exact hr.out k hge
      · cases hB
theorem Good.drew {s : St} {a : Act} {w : World} (h : Good ρ0 X w0 fx N s a w) : Good ρ0 X w0 fx N s a { w with drawn := w.drawn + 1 } := by
  obtain ⟨ρ, ⟨⟨hf, h1⟩, hk⟩, ⟨hr, he⟩, h3⟩ := h
  have hf1 : Fr ρ w ρ { w with drawn := w.drawn + 1 } := ⟨rfl, rfl, rfl, Nat.le_refl _, fun _ _ ho => ⟨rfl, ho⟩⟩
  refine ⟨ρ, ⟨⟨hf.trans hf1, h1⟩, hk⟩, ⟨⟨hr.inj, hr.out, fun k B hB => ?_, hr.disj, hr.lt, hr.xlt⟩, RepE_mono hf1 (fun _ _ => rfl) he⟩, h3.1, h3.2.fr hf1⟩
  exact RepB_mono hf1 (fun _ _ => rfl) rfl (fun _ => rfl) (hr.blk k B hB)
theorem quiet_step {cx : Cx} {ops : Array Oper} {o : Oper} {l0 : LOp} {op : LOp} {g : Option (Nat × Bool)} {s : St} {a : Act} {w : World} {ρ : Nat → Loc} {K : St → Prop} (hq : quietOp op = true) (hm : rl P o.op l0 = some op) (hg : gOk ops N o.guard = some g)
    (hr : Rep ρ X w s.h) (he : RepE ρ X w s.e a.tmps) (hN : a.tmps.size = N) (hd : ∀ n, o.dst = some n → n < N) (h : aOper cx ⟨o.dst, op, g⟩ s K) :
    ∃ val s', K s' ∧ s'.h = s.h ∧ RepE ρ X w s'.e (a.put o.dst val).tmps ∧
      ((Region.wanted o (yielded ops a.tmps) = true ∧ QRun P o a w val) ∨ (Region.wanted o (yielded ops a.tmps) = false ∧ val = undef)) := by
  rcases guard_cases hN hg he h with ⟨hw, e', _, he', h'⟩ | ⟨hw, e', _, he', h'⟩
  · obtain ⟨x, val, h1, h2, h3⟩ := quiet_sound (s := { s with e := e' }) hq hm hr he' h'
    exact ⟨val, _, h1, by cases o.dst <;> rfl, RepE_put (e := e') he' h2 (fun n hn => by rw [hN]; exact hd n hn) _ rfl, .inl ⟨hw, h3⟩⟩
  · exact ⟨undef, _, h', by cases o.dst <;> rfl, RepE_put (e := e') (x := .v (.tuple #[])) (val := undef) he' rfl (fun n hn => by rw [hN]; exact hd n hn) _ rfl, .inr ⟨hw, rfl⟩⟩
theorem wpStill_of {cx : Cx} {ds : List Deferred} {ops : Array Oper} {w : World} {ρ : Nat → Loc} {K : St → Prop} {L : Act → Prop} (hL : ∀ s a, K s → RepE ρ X w s.e a.tmps → a.tmps.size = N → a.defers = ds → Rep ρ X w s.h → keepP fx s.h → L a) :
    ∀ (os : List Oper) (ls0 ls : List LOper) (s : St) (a : Act), rlOs P ops N os ls0 = some ls → (∀ l ∈ ls, quietOp l.op = true) → Rep ρ X w s.h → keepP fx s.h → RepE ρ X w s.e a.tmps → a.tmps.size = N → a.defers = ds → aOps cx ls s K →
      wpStill P ops w L os a
  | os, ls0, [], s, a, hm, _, hr, hk, he, hN, hdf, h => by
    have := rlOs_nil hm
    subst this
    exact hL s a h he hN hdf hr hk
  | [], ls0, l :: ls, s, a, hm, _, _, _, _, _, _, _ => by
    cases ls0 <;> simp [rlOs] at hm
  | o :: os, ls0, l :: ls, s, a, hm, hq, hr, hk, he, hN, hdf, h => by
    obtain ⟨l0, r0, op, g, rfl, h1, h2, hd, rfl, h4⟩ := rlOs_cons hm
    simp only [aOps] at h
    obtain ⟨val, s', hK, hh, he', hor⟩ := quiet_step (hq _ List.mem_cons_self) h1 h2 hr he hN hd h
    have ih := wpStill_of hL os r0 ls s' (a.put o.dst val) h4 (fun l hl => hq l (by simp [hl])) (by rw [hh]; exact hr) (by rw [hh]; exact hk) he' (by rw [size_put]; exact hN) (by cases o.dst <;> exact hdf) hK
    unfold wpStill
    rcases hor with ⟨hw, hrun⟩ | ⟨hw, rfl⟩
    · rw [if_pos hw]
      unfold Oper.still
      rw [hrun w (Ext.refl w)]
      exact ⟨rfl, ih⟩
    · rw [if_neg (by rw [hw]; exact Bool.false_ne_true)]
      exact ih
theorem wpQuiet_of {cx : Cx} {ds : List Deferred} {ops : Array Oper} {w : World} {C : World → Prop} (hC : ∀ w', C w' → Ext w w') {ρ : Nat → Loc} {K : St → Prop} {L : Act → Prop} (hL : ∀ s a, K s → RepE ρ X w s.e a.tmps → a.tmps.size = N → a.defers = ds → Rep ρ X w s.h → keepP fx s.h → L a) :
    ∀ (os : List Oper) (ls0 ls : List LOper) (s : St) (a : Act), rlOs P ops N os ls0 = some ls → (∀ l ∈ ls, quietOp l.op = true) → Rep ρ X w s.h → keepP fx s.h → RepE ρ X w s.e a.tmps → a.tmps.size = N → a.defers = ds → aOps cx ls s K →
      wpQuiet P ops C L os a
  | os, ls0, [], s, a, hm, _, hr, hk, he, hN, hdf, h => by
    have := rlOs_nil hm
    subst this
    exact hL s a h he hN hdf hr hk
  | [], ls0, l :: ls, s, a, hm, _, _, _, _, _, _, _ => by
    cases ls0 <;> simp [rlOs] at hm
  | o :: os, ls0, l :: ls, s, a, hm, hq, hr, hk, he, hN, hdf, h => by
    obtain ⟨l0, r0, op, g, rfl, h1, h2, hd, rfl, h4⟩ := rlOs_cons hm
    simp only [aOps] at h
    obtain ⟨val, s', hK, hh, he', hor⟩ := quiet_step (hq _ List.mem_cons_self) h1 h2 hr he hN hd h
    have ih := wpQuiet_of hC hL os r0 ls s' (a.put o.dst val) h4 (fun l hl => hq l (by simp [hl])) (by rw [hh]; exact hr) (by rw [hh]; exact hk) he' (by rw [size_put]; exact hN) (by cases o.dst <;> exact hdf) hK
    unfold wpQuiet
    rcases hor with ⟨hw, hrun⟩ | ⟨hw, rfl⟩
    · rw [if_pos hw]
      refine ⟨val, fun w' hw' => ?_, ih⟩
      unfold Oper.quietAt
      rw [hrun w' (hC w' hw')]
      exact ⟨rfl, rfl⟩
    · rw [if_neg (by rw [hw]; exact Bool.false_ne_true)]
      exact ih
theorem aOps_append {cx : Cx} : ∀ (l1 l2 : List LOper) (s : St) (K : St → Prop), aOps cx (l1 ++ l2) s K = aOps cx l1 s fun s' => aOps cx l2 s' K
  | [], _, _, _ => rfl
  | o :: r, l2, s, K => by
    simp only [List.cons_append, aOps]
    congr 1
    funext s'
    exact aOps_append r l2 s' K
theorem rlOs_split {ops : Array Oper} : ∀ (m : Nat) (os : List Oper) (ls0 ls : List LOper), rlOs P ops N os ls0 = some ls →
    rlOs P ops N (os.take m) (ls0.take m) = some (ls.take m) ∧ rlOs P ops N (os.drop m) (ls0.drop m) = some (ls.drop m)
  | 0, os, ls0, ls, h => by simp [rlOs, h]
  | m + 1, [], ls0, ls, h => by
    cases ls0 with
    | nil => simp [rlOs] at h; subst h; simp [rlOs]
    | cons _ _ => simp [rlOs] at h
  | m + 1, o :: os, ls0, ls, h => by
    cases ls with
    | nil => have := rlOs_nil h; cases this
    | cons l ls =>
      obtain ⟨l0, r0, op, g, rfl, h1, h2, hd, rfl, h4⟩ := rlOs_cons h
      obtain ⟨h5, h6⟩ := rlOs_split m os r0 ls h4
      refine ⟨?_, by simpa using h6⟩
      have hd' : dOk N o.dst = true := by
        cases hdst : o.dst with
        | none => rfl
        | some d => simpa [dOk] using hd d hdst
      simp [rlOs, h1, h2, hd', h5]
theorem Good.heap {s : St} {a : Act} {w w' : World} (h : Good ρ0 X w0 fx N s a w) (hh : w'.heap = w.heap) (h1 : w'.os = w.os) (h2 : w'.tape = w.tape) (h3 : w'.output = w.output) : Good ρ0 X w0 fx N s a w' := by
  obtain ⟨ρ, ⟨⟨hf, h4⟩, hk⟩, ⟨hr, he⟩, h5⟩ := h
  have hf1 : Fr ρ w ρ w' := ⟨h1, h2, h3, by rw [hh]; exact Nat.le_refl _, fun _ _ ho => ⟨by rw [hh], ho⟩⟩
  refine ⟨ρ, ⟨⟨hf.trans hf1, h4⟩, hk⟩, ⟨⟨hr.inj, hr.out, fun k B hB => ?_, hr.disj, fun k hk => by rw [hh]; exact hr.lt k hk, fun b hb => by rw [hh]; exact hr.xlt b hb⟩, RepE_mono hf1 (fun _ _ => rfl) he⟩, h5.1, h5.2.fr hf1⟩
  exact RepB_mono hf1 (fun _ _ => rfl) rfl (fun _ => by rw [hh]) (hr.blk k B hB)
theorem qui_sound (hP : P.follows .mixedOrders = true) {cx : Cx} {ops : Array Oper} {id : Nat} {Q : Exit → Act → World → Prop} {K : St → Prop} (hQ : ∀ s a w, K s → Good ρ0 X w0 fx N s a w → Q .normal a w)
    {ls0 ls : List LOper} {s : St} {a : Act} {w : World} (hm : rlOs P ops N ops.toList ls0 = some ls) (hq : ls.all (fun l => quietOp l.op) = true) (hB : Region.lexB .any ops = true)
    (hg : Good ρ0 X w0 fx N s a w) (h : aOps cx ls s K) : (Code.region id ops true).wp P Q a w := by
  obtain ⟨ρ, hpre, ⟨hr, he⟩, hN, hdf⟩ := hg
  refine wp_region_quiet (C := fun w' => w'.heap = w.heap ∧ w'.os = w.os ∧ w'.tape = w.tape ∧ w'.output = w.output) hP hB ⟨rfl, rfl, rfl, rfl⟩ ?_
  refine wpQuiet_of (fx := fx) (cx := cx) (ρ := ρ) (K := K) (fun w' hw' b _ => by rw [hw'.1]) ?_ _ _ _ s a hm (fun l hl => List.all_eq_true.1 hq l hl) hr hpre.2 he hN rfl h
  intro s' a' hK he' hN' hdf' hr' hk' w' hw'
  refine hQ s' a' w' hK ?_
  exact Good.heap (w := w) ⟨ρ, ⟨hpre.1, hk'⟩, ⟨hr', he'⟩, hN', by rw [hdf']; exact hdf⟩ hw'.1 hw'.2.1 hw'.2.2.1 hw'.2.2.2
theorem tail_sound (hP : P.follows .mixedOrders = true) {cx : Cx} (hcx : cx.ok P) (hfxe : cx.fx = fx) {ops : Array Oper} {id : Nat} {Q : Exit → Act → World → Prop} {K : St → Prop} (hQ : ∀ s a w, K s → Good ρ0 X w0 fx N s a w → Q .normal a w)
    {m : Nat} {ls0 ls : List LOper} {s : St} {a : Act} {w : World} (hm : rlOs P ops N ops.toList ls0 = some ls) (hq : (ls.take m).all (fun l => quietOp l.op) = true) (hB : Region.lexTailB .any ops m = true)
    (hg : Good ρ0 X w0 fx N s a w) (h : aOps cx ls s K) : (Code.region id ops true).wp P Q a w := by
  obtain ⟨ρ, hpre, ⟨hr, he⟩, hN, hdf⟩ := Good.drew hg
  obtain ⟨h1, h2⟩ := rlOs_split m _ _ _ hm
  have hops : ops = ops.toList.toArray := by simp
  rw [hops] at hB ⊢
  refine wp_region_still_tail m hP hB ?_
  rw [← List.take_append_drop m ls, aOps_append] at h
  refine wpStill_of (fx := fx) (cx := cx) (ρ := ρ) (K := fun s' => aOps cx (ls.drop m) s' K) ?_ _ _ _ s a (by rw [← hops]; exact h1) (fun l hl => List.all_eq_true.1 hq l hl) hr hpre.2 he hN rfl h
  intro s' a' hK he' hN' hdf' hr' hk'
  exact aOps_sound hcx hfxe hQ _ _ _ s' a' _ (by rw [← hops]; exact h2) ⟨ρ, ⟨hpre.1, hk'⟩, ⟨hr', he'⟩, hN', by rw [hdf']; exact hdf⟩ hK
end
end Go.Fx
namespace Go.Fx
open Go.RowKit
section
variable {P : Program} {md : Region.Mode} {ops : Array Oper} {Q : Exit → Act → World → Prop} {Γ : Type} {G : Nat → Γ → World → Γ → World → Prop}
def wpAnyG (P : Program) (md : Region.Mode) (ops : Array Oper) (Q : Exit → Act → World → Prop) (G : Nat → Γ → World → Γ → World → Prop) : Nat → Array Bool → Γ → Act → World → Prop
  | 0, listed, _, a, w => Region.ready md ops listed = [] ∧ Q .normal a w
  | fuel + 1, listed, g, a, w =>
    (Region.ready md ops listed = [] → Q .normal a w) ∧
    ∀ i ∈ Region.ready md ops listed, wpOp P ops Q i (fun a' w' => ∃ g', G i g w g' w' ∧ wpAnyG P md ops Q G fuel (listed.setIfInBounds i true) g' a' w') a w
theorem wpAny_of_G : ∀ (fuel : Nat) (listed : Array Bool) (g : Γ) (a : Act) (w : World), wpAnyG P md ops Q G fuel listed g a w → wpAny P md ops Q fuel listed a w
  | 0, _, _, _, _, h => h
  | fuel + 1, _, _, _, _, h => ⟨h.1, fun i hi => wpOp_mono (fun a' w' ⟨g', _, h'⟩ => wpAny_of_G fuel _ g' a' w' h') (h.2 i hi)⟩
theorem wpAnyG_weak {g g2 : Γ} {w : World} (h : ∀ i g' w', G i g2 w g' w' → G i g w g' w') : ∀ (fuel : Nat) (listed : Array Bool) (a : Act), wpAnyG P md ops Q G fuel listed g2 a w → wpAnyG P md ops Q G fuel listed g a w
  | 0, _, _, hh => hh
  | _ + 1, _, _, hh => ⟨hh.1, fun i hi => wpOp_mono (fun _ w' ⟨g', h1, h2⟩ => ⟨g', h i g' w' h1, h2⟩) (hh.2 i hi)⟩
theorem wpAnyG_first {i : Nat} {oi : Oper} {v : Value} (hi : ops[i]? = some oi) (hsel : ∀ (j : Nat) (o : Oper) cs b, ops[j]? = some o → o.op ≠ .select cs b)
    (hQ : ∀ c a w, Q (.panic c) (a.put oi.dst v) w → Q (.panic c) a w) {D : Nat → Prop} (hD : ∀ j oj, D j → ops[j]? = some oj → ∃ e ∈ oj.after, Region.binds md e = true ∧ (e.on = i ∨ D e.on))
    {Inv : Γ → World → Prop} (hGi : ∀ g w, Inv g w → G i g w g w) :
    ∀ (fuel : Nat) (listed : Array Bool) (g : Γ) (a : Act) (w : World),
      (∀ j oj, ops[j]? = some oj → j ≠ i → listed.getD j true = false → (∀ e ∈ oj.after, Region.binds md e = true → e.on ≠ i) → oi.apart ops oj = true) →
      (∀ j, D j → listed.getD j false = false) →
      (∀ j oj, ops[j]? = some oj → j ≠ i → ¬ D j → listed.getD j true = false → ∀ g w g' w', G j g w g' w' → Inv g w → Inv g' w') →
      i ∈ Region.ready md ops listed → YieldsIf P ops (fun w => ∃ g, Inv g w) oi v a → Inv g w →
      wpAnyG P md ops Q G fuel (listed.setIfInBounds i true) g (a.put oi.dst v) w → wpAnyG P md ops Q G (fuel + 1) listed g a w := by
  intro fuel
  induction fuel with
  | zero =>
    intro listed g a w _ _ _ hr hy hS H
    refine ⟨fun h => (by rw [h] at hr; cases hr), fun j hj => ?_⟩
    by_cases hji : j = i
    · subst hji; exact hy.wpOp hi ⟨g, hS⟩ ⟨g, hGi g w hS, H⟩
    · have := ready_mono hj hji
      rw [H.1] at this
      cases this
  | succ fuel ih =>
    intro listed g a w hfree hun hinv hr hy hS H
    refine ⟨fun h => (by rw [h] at hr; cases hr), fun j hj => ?_⟩
    by_cases hji : j = i
    · subst hji; exact hy.wpOp hi ⟨g, hS⟩ ⟨g, hGi g w hS, H⟩
    · have h1 := H.2 j (ready_mono hj hji)
      obtain ⟨hjun, oj, hoj, hall⟩ := mem_ready.1 hj
      have hiun : listed.getD i false = false := by
        have h0 := (mem_ready.1 hr).1
        rcases Nat.lt_or_ge i listed.size with h' | h'
        · simpa [h'] using h0
        · simp [Array.getElem?_eq_none h']
      have hnot : ∀ e ∈ oj.after, Region.binds md e = true → e.on ≠ i := fun e he hb heq => by
        have h1 := hall e he hb
        rw [heq, hiun] at h1
        cases h1
      have hnD : ¬ D j := fun hd => by
        obtain ⟨e, he, hb, h2⟩ := hD j oj hd hoj
        have h3 := hall e he hb
        rcases h2 with h2 | h2
        · rw [h2, hiun] at h3; cases h3
        · rw [hun _ h2] at h3; cases h3
      have h2 := wpOp_putIf hoj (hfree j oj hoj hji hjun hnot) (fun cs b => hsel i oi cs b hi) (fun cs b => hsel j oj cs b hoj) hQ hy h1
      have hset : ∀ k, (listed.setIfInBounds j true).getD k true = false → listed.getD k true = false := fun k hk => by
        by_cases hjk : j = k
        · subst hjk; exact hjun
        · rw [getD_set_ne true hjk] at hk; exact hk
      have hfree' : ∀ k ok, ops[k]? = some ok → k ≠ i → (listed.setIfInBounds j true).getD k true = false →
          (∀ e ∈ ok.after, Region.binds md e = true → e.on ≠ i) → oi.apart ops ok = true := fun k ok hk hki hu hno => hfree k ok hk hki (hset k hu) hno
      have hun' : ∀ k, D k → (listed.setIfInBounds j true).getD k false = false := fun k hk => by
        have hne : j ≠ k := fun e => hnD (e ▸ hk)
        rw [getD_set_ne false hne]
        exact hun k hk
      refine wpOp_mono (fun a' w' h3 => ?_) h2
      obtain ⟨hy', g', hG, h4⟩ := h3
      refine ⟨g', hG, ih (listed.setIfInBounds j true) g' a' w' hfree' hun' (fun k ok hok hki hkD hku => hinv k ok hok hki hkD (hset k hku)) (ready_mono hr (Ne.symm hji)) hy' (hinv j oj hoj hji hnD hjun _ _ _ _ hG hS) ?_⟩
      rw [Array.setIfInBounds_comm _ _ hji]
      exact h4
end
def isLoad : LOp → Bool
  | .load _ _ => true
  | _ => false
def rsOf : LPlan → List Nat
  | .alt i _ r p q => (if r then [] else [i]) ++ rsOf p ++ rsOf q
  | .take _ _ _ p => rsOf p
  | .done => []
  | .none => []
def takeOk (ops : Array Oper) (rs : Nat → Bool) (listed : Array Bool) (i : Nat) (D : List Nat) (op : LOp) : Bool :=
  ((Region.ready .any ops listed).contains i && Region.free .any ops listed i && quietOp op) &&
  ((D.all fun d => !(listed.getD d false) && match ops[d]? with
    | some od => od.after.any fun e => Region.binds .any e && (e.on == i || D.contains e.on)
    | none => true) &&
  (!isLoad op || (List.range ops.size).all fun j => j == i || D.contains j || listed.getD j true || rs j))
def rlP (P : Program) (N : Nat) (ops : Array Oper) (rs : Nat → Bool) : LPlan → Array Bool → Nat → Option (List Nat) → Option LPlan
  | .done, listed, _, none => if (Region.ready .any ops listed).isEmpty then some .done else none
  | .take i D l p, listed, fuel + 1, none => match ops[i]? with
    | some o => match rl P o.op l.op, gOk ops N o.guard, dOk N o.dst, rlP P N ops rs p (listed.setIfInBounds i true) fuel none with
      | some op, some g, true, some p' => if takeOk ops rs listed i D op then some (.take i D ⟨o.dst, op, g⟩ p') else none
      | _, _, _, _ => none
    | none => none
  | .alt i l r p q, listed, fuel + 1, rem => match rem.getD (Region.ready .any ops listed), ops[i]? with
    | j :: js, some o => match rl P o.op l.op, gOk ops N o.guard, dOk N o.dst, rlP P N ops rs p (listed.setIfInBounds i true) fuel none, rlP P N ops rs q listed (fuel + 1) (some js) with
      | some op, some g, true, some p', some q' => if j = i ∧ r = rs i then some (.alt i ⟨o.dst, op, g⟩ r p' q') else none
      | _, _, _, _, _ => none
    | _, _ => none
  | .none, _, _, some [] => some .none
  | _, _, _, _ => none
section
variable {P : Program} {ρ0 : Nat → Loc} {X : Nat → Prop} {w0 : World} {fx : List Nat} {N : Nat}
abbrev Gh := (Nat → Loc) × (Nat → Prop)
def GR (rs : Nat → Bool) (j : Nat) (g : Gh) (w : World) (g' : Gh) (w' : World) : Prop :=
  Fr g.1 w g'.1 w' ∧ (rs j = true → (∀ b, g.2 b → g'.2 b) ∧ ∀ b, g.2 b → b < w.heap.size → w'.heap[b]? = w.heap[b]?)
def GoodAt (ρ0 : Nat → Loc) (X : Nat → Prop) (w0 : World) (fx : List Nat) (N : Nat) (ρ : Nat → Loc) (s : St) (a : Act) (w : World) : Prop :=
  ((Fr ρ0 w0 ρ w ∧ ∀ k ∈ fx, ρ k = ρ0 k) ∧ keepP fx s.h) ∧ (Rep ρ X w s.h ∧ RepE ρ X w s.e a.tmps) ∧ a.tmps.size = N ∧ Marks ρ w0 w a.defers
def BI (ρ : Nat → Loc) (B : Nat → Prop) (bn : List Nat) (w : World) : Prop :=
  ∀ b, B b → b < w.heap.size ∧ ((∃ k ∈ bn, (ρ k).real = true ∧ (ρ k).blk = b) ∨ ¬ Own ρ b)
def Inv (b : Nat) (o : Option Obj) (g : Gh) (w : World) : Prop := (b < w.heap.size ∧ (g.2 b ∨ ¬ Own g.1 b)) ∧ w.heap[b]? = o
theorem Inv.step {rs : Nat → Bool} {j b : Nat} {o : Option Obj} {g g' : Gh} {w w' : World} (hj : rs j = true) (hG : GR rs j g w g' w') (h : Inv b o g w) : Inv b o g' w' := by
  obtain ⟨⟨h1, h2⟩, h3⟩ := h
  obtain ⟨hF, hB⟩ := hG
  obtain ⟨h4, h5⟩ := hB hj
  refine ⟨⟨Nat.lt_of_lt_of_le h1 hF.size, ?_⟩, ?_⟩
  · rcases h2 with h2 | h2
    · exact .inl (h4 b h2)
    · exact .inr (hF.keep b h1 h2).2
  · rcases h2 with h2 | h2
    · rw [h5 b h2 h1]; exact h3
    · rw [(hF.keep b h1 h2).1]; exact h3
theorem GR.refl (rs : Nat → Bool) (j : Nat) (g : Gh) (w : World) : GR rs j g w g w := ⟨Fr.refl _ _, fun _ => ⟨fun _ h => h, fun _ _ _ => rfl⟩⟩
theorem wpAnyG_done {P : Program} {ops : Array Oper} {Q : Exit → Act → World → Prop} {Γ : Type} {G : Nat → Γ → World → Γ → World → Prop} {listed : Array Bool} {g : Γ} {a : Act} {w : World}
    (hr : Region.ready .any ops listed = []) (h : Q .normal a w) : ∀ fuel, wpAnyG P .any ops Q G fuel listed g a w
  | 0 => ⟨hr, h⟩
  | _ + 1 => ⟨fun _ => h, by rw [hr]; simp⟩
theorem aOp_bn {cx : Cx} {bn : List Nat} {l : LOp} (hq : quietOp l = true) {s : St} {K : V → St → Prop} (h : aOp cx l s K) : aOp { cx with bn := bn } l s K := by
  cases l <;> first | exact h | simp [quietOp] at hq
theorem alt_step {cx : Cx} (hcx : cx.ok P) (hfxe : cx.fx = fx) {ops : Array Oper} {rs : Nat → Bool} {Q : Exit → Act → World → Prop} {i : Nat} {o : Oper} {l0 op : LOp} {g : Option (Nat × Bool)} (ho : ops[i]? = some o)
    (hm : rl P o.op l0 = some op) (hg : gOk ops N o.guard = some g) (hd : dOk N o.dst = true) {bn : List Nat} {B : Nat → Prop} {ρ : Nat → Loc} {s : St} {a : Act} {w : World} {r : Bool} (hr : r = rs i) (hB : BI ρ B bn w)
    (hG : GoodAt ρ0 X w0 fx N ρ s a w) {K : St → Prop} {Z : Gh → Act → World → Prop} (h : aOper { cx with bn := if r then bn else [] } ⟨o.dst, op, g⟩ s K)
    (hZ : ∀ ρ' B' s' a' w', K s' → BI ρ' B' (if r then bn else []) w' → GoodAt ρ0 X w0 fx N ρ' s' a' w' → Z (ρ', B') a' w') :
    wpOp P ops Q i (fun a' w' => ∃ g', GR rs i (ρ, B) w g' w' ∧ Z g' a' w') a w := by
  obtain ⟨hpre, ⟨hrep, he⟩, hN, hdf⟩ := hG
  have hd' : ∀ n, o.dst = some n → n < N := fun n hn => by simpa [dOk, hn] using hd
  unfold wpOp
  simp only [ho]
  rcases guard_cases hN hg he h with ⟨hw, e', _, he', h'⟩ | ⟨hw, e', _, he', h'⟩
  · rw [if_pos hw]
    left
    have hcx' : Cx.ok { cx with bn := if r then bn else [] } P := hcx
    refine Oper.wp_mono ?_ (aOp_sound hcx' hm (s := { s with e := e' }) hrep he' (by rw [hfxe]; exact hpre.2) h')
    rintro a' w' ⟨val, rfl, x, s', ρ', hK, ⟨hk, hfx, hbn⟩, hf, hr', he2, hv⟩
    rw [hfxe] at hk hfx
    have hh : (s'.put o.dst x).h = s'.h := by cases o.dst <;> rfl
    have hgood : GoodAt ρ0 X w0 fx N ρ' (s'.put o.dst x) (a.put o.dst val) w' :=
      ⟨⟨⟨hpre.1.1.trans hf, fun k hk' => (hfx k hk').trans (hpre.1.2 k hk')⟩, by rw [hh]; exact hk⟩, ⟨by rw [hh]; exact hr', RepE_put (e := s'.e) he2 hv (fun n hn => by rw [hN]; exact hd' n hn) s' rfl⟩, by rw [size_put]; exact hN, by rw [defers_put]; exact hdf.fr hf⟩
    cases r with
    | true =>
      simp only [if_true] at hbn hZ
      refine ⟨(ρ', B), ⟨hf, fun _ => ⟨fun _ h => h, fun b hb hlt => ?_⟩⟩, hZ ρ' B _ _ _ hK (fun b hb => ?_) hgood⟩
      · rcases (hB b hb).2 with ⟨k, hk1, hk2, hk3⟩ | h3
        · rw [← hk3]; exact (hbn k hk1 hk2).2
        · exact (hf.keep b hlt h3).1
      · refine ⟨Nat.lt_of_lt_of_le (hB b hb).1 hf.size, ?_⟩
        rcases (hB b hb).2 with ⟨k, hk1, hk2, hk3⟩ | h3
        · have h4 := (hbn k hk1 hk2).1
          exact .inl ⟨k, hk1, by rw [h4]; exact hk2, by rw [h4]; exact hk3⟩
        · exact .inr (hf.keep b (hB b hb).1 h3).2
    | false =>
      refine ⟨(ρ', fun _ => False), ⟨hf, fun h => by rw [← hr] at h; cases h⟩, hZ ρ' _ _ _ _ hK (fun b hb => hb.elim) hgood⟩
  · rw [if_neg (by rw [hw]; exact Bool.false_ne_true)]
    have hh : (St.put { s with e := e' } o.dst (.v (.tuple #[]))).h = s.h := by cases o.dst <;> rfl
    have hgood : GoodAt ρ0 X w0 fx N ρ (St.put { s with e := e' } o.dst (.v (.tuple #[]))) (a.put o.dst undef) w :=
      ⟨⟨hpre.1, by rw [hh]; exact hpre.2⟩, ⟨by rw [hh]; exact hrep, RepE_put (e := e') (x := .v (.tuple #[])) (val := undef) he' rfl (fun n hn => by rw [hN]; exact hd' n hn) _ rfl⟩, by rw [size_put]; exact hN, by cases o.dst <;> exact hdf⟩
    cases r with
    | true => exact ⟨(ρ, B), GR.refl _ _ _ _, hZ ρ B _ _ _ h' hB hgood⟩
    | false => exact ⟨(ρ, fun _ => False), ⟨Fr.refl _ _, fun h => by rw [← hr] at h; cases h⟩, hZ ρ _ _ _ _ h' (fun b hb => hb.elim) hgood⟩
theorem ev_envB {e e' : Env} (h : EnvB e e') (p : Operand) : ev e' p = ev e p ∨ ∃ b, ev e' p = V.b b := by
  cases p with
  | tmp t => exact h t
  | _ => exact .inl rfl
theorem rdB_of {op : LOp} {e : Env} {bn : List Nat} (h : isLoad op = false) : rdB op e bn = bn := by
  cases op <;> first | rfl | simp [isLoad] at h
theorem take_step {cx : Cx} {ops : Array Oper} {rs : Nat → Bool} (hs : Region.noSelect ops = true) {Q : Exit → Act → World → Prop} (hQp : ∀ c a w, ¬ Q (.panic c) a w) {i : Nat} {o : Oper} {l0 op : LOp} {g : Option (Nat × Bool)} (ho : ops[i]? = some o)
    (hm : rl P o.op l0 = some op) (hg : gOk ops N o.guard = some g) (hd : dOk N o.dst = true) {listed : Array Bool} {D : List Nat} (hok : takeOk ops rs listed i D op = true)
    {bn : List Nat} {B : Nat → Prop} {ρ : Nat → Loc} {s : St} {a : Act} {w : World} (hB : BI ρ B bn w)
    (hG : GoodAt ρ0 X w0 fx N ρ s a w) {K : St → Prop} {fuel : Nat} (h : aOper cx ⟨o.dst, op, g⟩ s K)
    (hZ : ∀ B' s' a', K s' → BI ρ B' (rdB op s.e bn) w → GoodAt ρ0 X w0 fx N ρ s' a' w → wpAnyG P .any ops Q (GR rs) fuel (listed.setIfInBounds i true) (ρ, B') a' w) :
    wpAnyG P .any ops Q (GR rs) (fuel + 1) listed (ρ, B) a w := by
  obtain ⟨hpre, ⟨hrep, he⟩, hN, hdf⟩ := hG
  have hd' : ∀ n, o.dst = some n → n < N := fun n hn => by simpa [dOk, hn] using hd
  simp only [takeOk, Bool.and_eq_true] at hok
  obtain ⟨⟨⟨hready, hfree⟩, hq⟩, hDl, hres⟩ := hok
  have hready' : i ∈ Region.ready .any ops listed := by simpa using hready
  have hfr := Region.free_spec (md := .any) ho hfree
  have hDc : ∀ j oj, j ∈ D → ops[j]? = some oj → ∃ e ∈ oj.after, Region.binds .any e = true ∧ (e.on = i ∨ e.on ∈ D) := by
    intro j oj hj hoj
    have := List.all_eq_true.1 hDl j hj
    simp only [hoj, Bool.and_eq_true] at this
    obtain ⟨e, he, hb⟩ := Array.any_eq_true'.1 this.2
    simp only [Bool.and_eq_true, Bool.or_eq_true, beq_iff_eq, List.contains_iff_mem] at hb
    exact ⟨e, he, hb.1, hb.2⟩
  have hDu : ∀ j, j ∈ D → listed.getD j false = false := by
    intro j hj
    have := List.all_eq_true.1 hDl j hj
    simp only [Bool.and_eq_true, Bool.not_eq_true'] at this
    exact this.1
  have hsel := Region.noSelect_spec hs
  have free : ∀ (v : Value) (B' : Nat → Prop), (YieldsIf P ops (fun _ => True) o v a) → wpAnyG P .any ops Q (GR rs) fuel (listed.setIfInBounds i true) (ρ, B') (a.put o.dst v) w → wpAnyG P .any ops Q (GR rs) (fuel + 1) listed (ρ, B') a w := by
    intro v B' hy hh
    exact wpAnyG_first (D := (· ∈ D)) ho hsel (fun c a w h => (hQp _ _ _ h).elim) hDc (Inv := fun _ _ => True) (fun g w _ => GR.refl _ _ _ _) fuel listed _ a w hfr hDu (fun _ _ _ _ _ _ _ _ _ _ _ _ => trivial) hready' (hy.imp (fun ⟨h1, h2⟩ => ⟨h1, fun w _ => h2 w trivial⟩) id) trivial hh
  rcases guard_cases hN hg he h with ⟨hw, e', hEB, he', h'⟩ | ⟨hw, e', _, he', h'⟩
  · obtain ⟨x, val, h1, h2, h3⟩ := quiet_at (s := { s with e := e' }) hq hm hrep he' h'
    have hh : (St.put { s with e := e' } o.dst x).h = s.h := by cases o.dst <;> rfl
    have hgood : GoodAt ρ0 X w0 fx N ρ (St.put { s with e := e' } o.dst x) (a.put o.dst val) w :=
      ⟨⟨hpre.1, by rw [hh]; exact hpre.2⟩, ⟨by rw [hh]; exact hrep, RepE_put (e := e') he' h2 (fun n hn => by rw [hN]; exact hd' n hn) _ rfl⟩, by rw [size_put]; exact hN, by cases o.dst <;> exact hdf⟩
    by_cases hL : isLoad op = true
    · have hres' : ∀ j, j ≠ i → j ∉ D → listed.getD j true = false → j < ops.size → rs j = true := by
        intro j hji hjD hjl hlt
        simp only [hL, Bool.not_true, Bool.false_or] at hres
        have := List.all_eq_true.1 hres j (by simpa using hlt)
        simp only [Bool.or_eq_true, beq_iff_eq, hji, false_or, List.contains_iff_mem, hjD, hjl, Bool.false_eq_true] at this
        exact this
      cases op with
      | load n p =>
        have hpv := ev_rep he' p
        cases hp : ev e' p with
        | ptr k ix f =>
          rw [hp] at hpv
          have hreal := hpv.1
          have hlt := hrep.lt k hreal
          have hrd : rdB (.load n p) s.e bn = k :: bn := by
            have : ev s.e p = .ptr k ix f := by
              rcases ev_envB hEB p with h4 | ⟨b, h4⟩
              · rw [← h4]; exact hp
              · rw [h4] at hp; cases hp
            simp only [rdB, this]
          have hB' : BI ρ (fun b => B b ∨ b = (ρ k).blk) (rdB (.load n p) s.e bn) w := by
            rw [hrd]
            rintro b (hb | rfl)
            · exact ⟨(hB b hb).1, (hB b hb).2.imp (fun ⟨k', hk, hk'⟩ => ⟨k', List.mem_cons_of_mem _ hk, hk'⟩) id⟩
            · exact ⟨hlt, .inl ⟨k, List.mem_cons_self, hreal, rfl⟩⟩
          refine wpAnyG_weak (g2 := (ρ, fun b => B b ∨ b = (ρ k).blk)) (fun j g' w' hj => ⟨hj.1, fun hr => ⟨fun b hb => (hj.2 hr).1 b (.inl hb), fun b hb => (hj.2 hr).2 b (.inl hb)⟩⟩) _ _ _ ?_
          refine wpAnyG_first (D := (· ∈ D)) ho hsel (fun c a w h => (hQp _ _ _ h).elim) hDc (Inv := Inv (ρ k).blk w.heap[(ρ k).blk]?) (fun g w _ => GR.refl _ _ _ _) fuel listed _ a w hfr hDu
            (fun j oj hoj hji hjD hjl g w g' w' hG hI => Inv.step (hres' j hji hjD hjl (Array.getElem?_eq_some_iff.1 hoj).1) hG hI) hready' ?_ ⟨⟨hlt, .inl (.inr rfl)⟩, rfl⟩ (hZ _ _ _ h1 hB' hgood)
          refine .inl ⟨hw, fun w' ⟨g, hI⟩ => h3 w' ?_⟩
          intro b hb
          rw [hp] at hb
          obtain ⟨_, rfl⟩ := hb
          exact fun _ => hI.2
        | rp sz els ix f =>
          have hrd : rdB (.load n p) s.e bn = bn := by
            have : ev s.e p = .rp sz els ix f := by
              rcases ev_envB hEB p with h4 | ⟨b, h4⟩
              · rw [← h4]; exact hp
              · rw [h4] at hp; cases hp
            simp only [rdB, this]
          refine wpAnyG_first (D := (· ∈ D)) ho hsel (fun c a w h => (hQp _ _ _ h).elim) hDc (Inv := fun g w' => ∀ b, b < w.heap.size → ¬ Own ρ b → (b < w'.heap.size ∧ ¬ Own g.1 b) ∧ w'.heap[b]? = w.heap[b]?) (fun g w _ => GR.refl _ _ _ _) fuel listed _ a w hfr hDu
            (fun j oj hoj hji hjD hjl g w1 g' w2 hG hI b hb1 hb2 => ?_) hready' ?_ (fun b hb1 hb2 => ⟨⟨hb1, hb2⟩, rfl⟩) (hZ _ _ _ h1 (by rw [hrd]; exact hB) hgood)
          · obtain ⟨⟨h4, h5⟩, h6⟩ := hI b hb1 hb2
            have h7 := hG.1.keep b h4 h5
            exact ⟨⟨Nat.lt_of_lt_of_le h4 hG.1.size, h7.2⟩, h7.1.trans h6⟩
          · refine .inl ⟨hw, fun w' ⟨g, hI⟩ => h3 w' ?_⟩
            intro b hb
            rw [hp] at hb
            exact fun _ => (hI b hb.1 hb.2).2
        | _ => exact absurd h' (by simp [aOp, hp, loadP])
      | _ => simp [isLoad] at hL
    · have hL' : isLoad op = false := by simpa using hL
      have hrun : ∀ w', (execOp a.eval o).run P w' = .ok (.value val) w' := fun w' => h3 w' (by cases op <;> first | trivial | simp [isLoad] at hL')
      refine free val B (.inl ⟨hw, fun w' _ => hrun w'⟩) (hZ B _ _ h1 (by rw [rdB_of hL']; exact hB) hgood)
  · have hh : (St.put { s with e := e' } o.dst (.v (.tuple #[]))).h = s.h := by cases o.dst <;> rfl
    have hgood : GoodAt ρ0 X w0 fx N ρ (St.put { s with e := e' } o.dst (.v (.tuple #[]))) (a.put o.dst undef) w :=
      ⟨⟨hpre.1, by rw [hh]; exact hpre.2⟩, ⟨by rw [hh]; exact hrep, RepE_put (e := e') (x := .v (.tuple #[])) (val := undef) he' rfl (fun n hn => by rw [hN]; exact hd' n hn) _ rfl⟩, by rw [size_put]; exact hN, by cases o.dst <;> exact hdf⟩
    have hB' : BI ρ B (rdB op s.e bn) w := fun b hb => ⟨(hB b hb).1, (hB b hb).2.imp (fun ⟨k, hk, hk'⟩ => ⟨k, by
      unfold rdB
      split
      · split
        · exact List.mem_cons_of_mem _ hk
        · exact hk
      · exact hk, hk'⟩) id⟩
    exact free undef B (.inr ⟨hw, rfl⟩) (hZ B _ _ h' hB' hgood)
theorem awP_sound {cx : Cx} (hcx : cx.ok P) (hfxe : cx.fx = fx) {ops : Array Oper} {rs : Nat → Bool} (hs : Region.noSelect ops = true) {Q : Exit → Act → World → Prop} (hQp : ∀ c a w, ¬ Q (.panic c) a w) {K : St → Prop}
    (hQ : ∀ s a w, K s → Good ρ0 X w0 fx N s a w → Q .normal a w) :
    ∀ (p0 p : LPlan) (listed : Array Bool) (fuel : Nat) (rem : Option (List Nat)), rlP P N ops rs p0 listed fuel rem = some p → ∀ (bn : List Nat) (B : Nat → Prop) (ρ : Nat → Loc) (s : St) (a : Act) (w : World),
      BI ρ B bn w → GoodAt ρ0 X w0 fx N ρ s a w → awP cx p bn K s →
      (rem = none → wpAnyG P .any ops Q (GR rs) fuel listed (ρ, B) a w) ∧
      (∀ l, rem = some l → ∀ i ∈ l, wpOp P ops Q i (fun a' w' => ∃ g', GR rs i (ρ, B) w g' w' ∧ wpAnyG P .any ops Q (GR rs) (fuel - 1) (listed.setIfInBounds i true) g' a' w') a w) := by
  intro p0
  induction p0 with
  | done =>
    intro p listed fuel rem hm bn B ρ s a w hB hG h
    cases rem with
    | some l => simp [rlP] at hm
    | none =>
      simp only [rlP] at hm
      split at hm
      · rename_i hr
        simp only [Option.some.injEq] at hm
        subst hm
        refine ⟨fun _ => wpAnyG_done (List.isEmpty_iff.1 hr) (hQ s a w h ⟨ρ, hG⟩) fuel, fun l hl => by cases hl⟩
      · cases hm
  | none =>
    intro p listed fuel rem hm bn B ρ s a w hB hG h
    cases rem with
    | none => simp [rlP] at hm
    | some l =>
      cases l with
      | nil => exact ⟨fun h => (by cases h), fun l hl i hi => (by cases hl; simp at hi)⟩
      | cons _ _ => simp [rlP] at hm
  | take i D l p ih =>
    intro p1 listed fuel rem hm bn B ρ s a w hB hG h
    cases rem with
    | some l => cases fuel <;> simp [rlP] at hm
    | none =>
      cases fuel with
      | zero => simp [rlP] at hm
      | succ fuel =>
        simp only [rlP] at hm
        split at hm
        · rename_i o ho
          split at hm
          · rename_i op g p' h1 h2 h3 h4
            split at hm
            · rename_i hok
              simp only [Option.some.injEq] at hm
              subst hm
              refine ⟨fun _ => ?_, fun l hl => by cases hl⟩
              refine take_step (cx := cx) (K := fun s' => awP cx p' (rdB op s.e bn) K s') hs hQp ho h1 h2 h3 hok hB hG h ?_
              intro B' s' a' hK hB' hG'
              exact (ih p' _ _ _ h4 _ _ _ _ _ _ hB' hG' hK).1 rfl
            · cases hm
          · cases hm
        · cases hm
  | alt i l r p q ihp ihq =>
    intro p1 listed fuel rem hm bn B ρ s a w hB hG h
    cases fuel with
    | zero => cases rem <;> simp [rlP] at hm
    | succ fuel =>
      simp only [rlP] at hm
      split at hm
      · rename_i j js o hrem ho
        split at hm
        · rename_i op g p' q' h1 h2 h3 h4 h5
          split at hm
          · rename_i hc
            obtain ⟨rfl, hr⟩ := hc
            simp only [Option.some.injEq] at hm
            subst hm
            have hall : ∀ i ∈ j :: js, wpOp P ops Q i (fun a' w' => ∃ g', GR rs i (ρ, B) w g' w' ∧ wpAnyG P .any ops Q (GR rs) fuel (listed.setIfInBounds i true) g' a' w') a w := by
              intro i hi
              rcases List.mem_cons.1 hi with rfl | hi
              · refine alt_step (K := fun s' => awP cx p' (if r then bn else []) K s') (Z := fun g' a' w' => wpAnyG P .any ops Q (GR rs) fuel (listed.setIfInBounds i true) g' a' w') hcx hfxe ho h1 h2 h3 hr hB hG h.1 ?_
                intro ρ' B' s' a' w' hK hB' hG'
                exact (ihp p' _ _ _ h4 _ _ _ _ _ _ hB' hG' hK).1 rfl
              · exact (ihq q' _ _ _ h5 _ _ _ _ _ _ hB hG h.2).2 js rfl i hi
            refine ⟨fun hn => ?_, fun l hl => ?_⟩
            · subst hn
              simp only [Option.getD_none] at hrem
              exact ⟨fun h0 => (by rw [hrem] at h0; cases h0), by rw [hrem]; exact hall⟩
            · subst hl
              simp only [Option.getD_some] at hrem
              subst hrem
              exact hall
          · cases hm
        · cases hm
      · cases hm
def rlT (P : Program) (N : Nat) (ops : Array Oper) (p : LPlan) : Option LPlan :=
  if Region.noSelect ops then rlP P N ops (fun j => !(rsOf p).contains j) p (Array.replicate ops.size false) ops.size none else none
def NoPan (Q : Exit → Act → World → Prop) : Exit → Act → World → Prop
  | .panic _, _, _ => False
  | e, a, w => Q e a w
theorem tree_sound (hP : P.follows .mixedOrders = true) {cx : Cx} (hcx : cx.ok P) (hfxe : cx.fx = fx) {ops : Array Oper} {id : Nat} {Q : Exit → Act → World → Prop} {K : St → Prop} (hQ : ∀ s a w, K s → Good ρ0 X w0 fx N s a w → Q .normal a w)
    {p0 p : LPlan} {s : St} {a : Act} {w : World} (hm : rlT P N ops p0 = some p) (hg : Good ρ0 X w0 fx N s a w) (h : awP cx p [] K s) : (Code.region id ops true).wp P Q a w := by
  unfold rlT at hm
  split at hm
  · rename_i hs
    refine Code.wp_mono (Q := NoPan Q) (fun e a w he => ?_) ?_
    · cases e <;> first | exact he | exact he.elim
    · refine wp_region_any hP ?_
      obtain ⟨ρ, hG⟩ := Good.drew hg
      exact wpAny_of_G _ _ _ _ _ ((awP_sound (Q := NoPan Q) hcx hfxe hs (fun _ _ _ h => h) (fun s a w hK hg => hQ s a w hK hg) p0 p _ _ _ hm [] (fun _ => False) ρ s a _ (fun b hb => hb.elim) hG h).1 rfl)
  · cases hm
end
end Go.Fx
namespace Go.Fx
open Go.RowKit
def rlY (P : Program) (op : Op) (l0 : LOp) : Option LOp :=
  match l0 with
  | .yld _ _ => match op with
    | .call c => match c.callee with
      | .value f => some (.yld f c.args.toList)
      | _ => none
    | _ => none
  | l0 => match rl P op l0 with
    | some (.yld _ _) => none
    | r => r
def rlOsY (P : Program) (ops : Array Oper) (N : Nat) : List Oper → List LOper → Option (List LOper)
  | [], [] => some []
  | o :: os, l :: ls => match rlY P o.op l.op, gOk ops N o.guard, dOk N o.dst, rlOsY P ops N os ls with
    | some op, some g, true, some r => some (⟨o.dst, op, g⟩ :: r)
    | _, _, _, _ => none
  | _, _ => none
def notDefer (o : Oper) : Bool := match o.op with
  | .defer _ => false
  | _ => true
def codeRd : Code → Bool
  | .region _ ops _ => ops.toList.all notDefer
  | .seq a b => codeRd a && codeRd b
  | .cond _ a b => codeRd a && codeRd b
  | .block _ a => codeRd a
  | .loop a => codeRd a
  | .rangeFunc _ _ a b => codeRd a && codeRd b
  | .skip | .label _ | .ret | .exit _ => true
  | _ => false
def inRd : LCode → Bool
  | .skip | .reg _ _ | .tree _ _ | .exit _ | .ret | .bad => true
  | .tail _ _ _ | .qui _ _ | .yreg _ _ _ => false
  | .seq a b => inRd a && inRd b
  | .cond _ a b => inRd a && inRd b
  | .block _ a => inRd a
  | .loop a => inRd a
  | .frz _ a => inRd a
  | .rfn _ _ a b => inRd a && inRd b
def rlC (P : Program) (N : Nat) : Code → LCode → Option LCode
  | .skip, _ => some .skip
  | .label _, _ => some .skip
  | .scope c, l => rlC P N c l
  | .ret, _ => some .ret
  | .exit i, _ => some (.exit i)
  | .region _ ops draw, l => match l with
    | .reg n ls => match draw, rlOs P ops N ops.toList ls with
      | false, some r => some (.reg n r)
      | _, _ => none
    | .qui n ls => match draw, rlOs P ops N ops.toList ls with
      | true, some r => if (r.all fun l => quietOp l.op) && Region.lexB .any ops then some (.qui n r) else none
      | _, _ => none
    | .tail m n ls => match draw, rlOs P ops N ops.toList ls with
      | true, some r => if ((r.take m).all fun l => quietOp l.op) && Region.lexTailB .any ops m then some (.tail m n r) else none
      | _, _ => none
    | .tree n p => match draw, rlT P N ops p with
      | true, some r => some (.tree n r)
      | _, _ => none
    | .yreg m n ls => match rlOsY P ops N ops.toList ls with
      | some r => if !draw || ((r.take m).all fun l => quietOp l.op) && Region.lexTailB .any ops m then some (.yreg (if draw then m else 0) n r) else none
      | _ => none
    | .bad => some .bad
    | _ => none
  | .seq a b, l => match l with
    | .seq x y => match rlC P N a x, rlC P N b y with
      | some x', some y' => some (.seq x' y')
      | _, _ => none
    | .frz xs (.seq x y) => match rlC P N a x, rlC P N b y with
      | some x', some y' => some (.frz xs (.seq x' y'))
      | _, _ => none
    | .bad => some .bad
    | _ => none
  | .cond c a b, l => match l with
    | .cond _ x y => match rlC P N a x, rlC P N b y with
      | some x', some y' => some (.cond c x' y')
      | _, _ => none
    | _ => none
  | .block i a, l => match l with
    | .block _ x => match rlC P N a x with
      | some x' => some (.block i x')
      | none => none
    | _ => none
  | .loop a, l => match l with
    | .loop x => match rlC P N a x with
      | some x' => some (.loop x')
      | none => none
    | _ => none
  | .rangeFunc g ps asg body, l => match l with
    | .rfn _ _ x y => match rlC P N asg x, rlC P N body y with
      | some x', some y' => if (ps.toList.all fun p => decide (p < N)) && (codeRd asg && codeRd body) && (inRd x' && inRd y') then some (.rfn g ps.toList x' y') else none
      | _, _ => none
    | _ => none
  | _, _ => none
section
variable {P : Program} {ρ0 : Nat → Loc} {X : Nat → Prop} {w0 : World} {fx : List Nat} {N : Nat}
theorem le_get : ∀ {p : Env} {e : Env}, leE e p → ∀ i, get p i = .any ∨ get p i = get e i
  | [], _, _, _ => .inl rfl
  | (j, x) :: r, e, h, i => by
    simp only [get]
    split
    · rename_i hi
      subst hi
      exact .inr h.1.symm
    · exact le_get h.2 i
theorem leH_get : ∀ {h p : List Blk}, leH h p → ∀ (k : Nat) (B : Blk), p[k]? = some B → ∃ A, h[k]? = some A ∧ leB A B
  | _, [], _, k, B, hB => by simp at hB
  | a :: h, c :: p, hl, 0, B, hB => by
    simp only [List.getElem?_cons_zero, Option.some.injEq] at hB
    subst hB
    exact ⟨a, rfl, hl.1⟩
  | a :: h, c :: p, hl, k + 1, B, hB => by
    obtain ⟨A, h1, h2⟩ := leH_get (h := h) (p := p) hl.2 k B (by simpa using hB)
    exact ⟨A, by simpa using h1, h2⟩
  | [], _ :: _, hl, _, _, _ => hl.elim
theorem leVs_rep {ρ : Nat → Loc} {w : World} : ∀ {xs ys : List V} {vs : List Value}, leVs xs ys → RepL ρ X w xs vs → RepL ρ X w ys vs
  | [], [], _, _, h => h
  | x :: xs, y :: ys, u :: us, hl, h => by
    refine ⟨?_, leVs_rep hl.2 h.2⟩
    have h1 := hl.1
    unfold leV at h1
    split at h1
    · trivial
    · subst h1; exact h.1
  | _ :: _, _ :: _, [], _, h => h.elim
  | [], _ :: _, _, hl, _ => hl.elim
  | _ :: _, [], _, hl, _ => hl.elim
def dropLoc (ρ : Nat → Loc) (p : List Blk) (k : Nat) : Loc :=
  match p[k]? with
  | some .dead => { ρ k with real := false }
  | some _ => ρ k
  | none => { ρ k with real := false }
theorem dropLoc_own {ρ : Nat → Loc} {p : List Blk} {b : Nat} (h : Own (dropLoc ρ p) b) : Own ρ b := by
  obtain ⟨k, h1, h2⟩ := h
  unfold dropLoc at h1 h2
  split at h1
  · cases h1
  · exact ⟨k, h1, by simp_all⟩
  · cases h1
theorem live_loc {ρ : Nat → Loc} {p : List Blk} {k : Nat} (h : liveP p k) : dropLoc ρ p k = ρ k := by
  unfold liveP at h
  unfold dropLoc
  cases hb : p[k]? with
  | none => rw [hb] at h; exact h.elim
  | some B => rw [hb] at h; cases B <;> first | rfl | exact h.elim
theorem drop_sta {ρ : Nat → Loc} {w : World} {p : List Blk} : ∀ b, Sta ρ X w b → Sta (dropLoc ρ p) X w b ∧ w.heap[b]? = w.heap[b]? :=
  fun _ h => ⟨⟨h.1, fun ho => h.2.1 (dropLoc_own ho), h.2.2⟩, rfl⟩
theorem drop_len {ρ : Nat → Loc} {w : World} {p : List Blk} {b : Nat} (h : Len ρ w b) : Len (dropLoc ρ p) w b := ⟨h.1, fun ho => h.2 (dropLoc_own ho)⟩
mutual
theorem drop_rep {ρ : Nat → Loc} {w : World} {p : List Blk} : ∀ (x : V) (val : Value), wfV p x → RepV ρ X w x val → RepV (dropLoc ρ p) X w x val
  | .any, _, _, _ => trivial
  | .v _, _, _, hx => hx
  | .ro sz els, val, _, hx => RepD_mono drop_sta (.ro sz els) val hx
  | .bro sz els, val, _, hx => by
    obtain ⟨a, len, cap, h1, h2, h3, h4, h5⟩ := hx
    refine ⟨a, len, cap, h1, h2, h3, h4, h5.imp id ?_⟩
    rintro ⟨b, off, h6, h7, h8⟩
    exact ⟨b, off, h6, drop_len h7, RepEls_mono drop_sta sz b rfl off els h8⟩
  | .full sz els, val, _, hx => by
    obtain ⟨a, len, h1, h2, h4, h5⟩ := hx
    refine ⟨a, len, h1, h2, h4, h5.imp id ?_⟩
    rintro ⟨b, off, h6, h7, h8⟩
    exact ⟨b, off, h6, drop_len h7, RepEls_mono drop_sta sz b rfl off els h8⟩
  | .rp sz els i f, val, _, hx => by
    obtain ⟨b, off, h6, h7, h8⟩ := hx
    exact ⟨b, off, h6, drop_len h7, RepEls_mono drop_sta sz b rfl off els h8⟩
  | .sl k i n, val, hw, hx => by
    obtain ⟨cap, h1, h2, h3⟩ := hx
    refine ⟨cap, h1, h2, ?_⟩
    rw [live_loc hw]
    exact h3
  | .ptr k i f, val, hw, hx => by
    simp only [RepV]
    rw [live_loc hw]
    exact hx
  | .agg cs, val, hw, hx => by
    obtain ⟨arr, h1, h2⟩ := hx
    exact ⟨arr, h1, drops_rep cs _ hw h2⟩
  | .tup cs, val, hw, hx => by
    obtain ⟨arr, h1, h2⟩ := hx
    exact ⟨arr, h1, drops_rep cs _ hw h2⟩
  | .clo f cs, val, hw, hx => by
    obtain ⟨arr, h1, h2⟩ := hx
    exact ⟨arr, h1, drops_rep cs _ hw h2⟩
  | .mp k, val, hw, hx => by
    simp only [RepV]
    rw [live_loc hw]
    exact hx
  | .itr k, val, hw, hx => by
    simp only [RepV]
    rw [live_loc hw]
    exact hx
theorem drops_rep {ρ : Nat → Loc} {w : World} {p : List Blk} : ∀ (xs : List V) (vs : List Value), wfL p xs → RepL ρ X w xs vs → RepL (dropLoc ρ p) X w xs vs
  | [], [], _, _ => trivial
  | x :: r, u :: us, hw, hx => ⟨drop_rep x u hw.1 hx.1, drops_rep r us hw.2 hx.2⟩
  | [], _ :: _, _, hx => hx.elim
  | _ :: _, [], _, hx => hx.elim
end
theorem wfE_get {h : List Blk} : ∀ {e : Env}, wfE h e → ∀ i, wfV h (get e i)
  | [], _, _ => trivial
  | (j, x) :: r, hw, i => by
    simp only [get]
    split
    · exact hw.1
    · exact wfE_get hw.2 i
theorem wfB_get {h : List Blk} : ∀ {l : List Blk}, wfB h l → ∀ (k : Nat) (cs : List V), l[k]? = some (Blk.var cs) → wfL h cs
  | b :: r, hw, 0, cs, hk => by
    simp only [List.getElem?_cons_zero, Option.some.injEq] at hk
    subst hk
    exact hw.1
  | b :: r, hw, k + 1, cs, hk => by
    have : wfB h r := by cases b <;> first | exact hw | exact hw.2
    exact wfB_get this k cs (by simpa using hk)
  | [], _, _, _, hk => by simp at hk
theorem wfL_mem {h : List Blk} : ∀ {xs : List V}, wfL h xs → ∀ {x : V}, x ∈ xs → wfV h x
  | y :: r, hw, x, hx => by
    rcases List.mem_cons.1 hx with rfl | hx
    · exact hw.1
    · exact wfL_mem hw.2 hx
  | [], _, _, hx => by simp at hx
theorem wfB_tail {h : List Blk} {b : Blk} {r : List Blk} (hw : wfB h (b :: r)) : wfB h r := by cases b <;> first | exact hw | exact hw.2
theorem wfB_arv {h : List Blk} : ∀ {l : List Blk}, wfB h l → ∀ (k : Nat) (sz : Nat) (els : List (List V)), l[k]? = some (Blk.arv sz els) → wfL h els.flatten
  | b :: r, hw, 0, sz, els, hk => by
    simp only [List.getElem?_cons_zero, Option.some.injEq] at hk
    subst hk
    exact hw.1
  | b :: r, hw, k + 1, sz, els, hk => wfB_arv (wfB_tail hw) k sz els (by simpa using hk)
  | [], _, _, _, _, hk => by simp at hk
theorem wfB_map {h : List Blk} : ∀ {l : List Blk}, wfB h l → ∀ (k : Nat) (es : List (Value × V × Nat)) (c : Nat), l[k]? = some (Blk.map es c) → wfL h (es.map (·.2.1))
  | b :: r, hw, 0, sz, els, hk => by
    simp only [List.getElem?_cons_zero, Option.some.injEq] at hk
    subst hk
    exact hw.1
  | b :: r, hw, k + 1, sz, els, hk => wfB_map (wfB_tail hw) k sz els (by simpa using hk)
  | [], _, _, _, _, hk => by simp at hk
theorem wfB_it {h : List Blk} : ∀ {l : List Blk}, wfB h l → ∀ (k : Nat) (m : V) (s : Nat) (sn : List Nat) (c : Nat), l[k]? = some (Blk.it m s sn c) → wfV h m
  | b :: r, hw, 0, m, s, sn, c, hk => by
    simp only [List.getElem?_cons_zero, Option.some.injEq] at hk
    subst hk
    exact hw.1
  | b :: r, hw, k + 1, m, s, sn, c, hk => wfB_it (wfB_tail hw) k m s sn c (by simpa using hk)
  | [], _, _, _, _, _, _, hk => by simp at hk
theorem wfB_rcd {h : List Blk} : ∀ {l : List Blk}, wfB h l → ∀ (k : Nat) (t : RS) (e : Env), l[k]? = some (Blk.rcd t e) → wfE h e
  | b :: r, hw, 0, t, e, hk => by
    simp only [List.getElem?_cons_zero, Option.some.injEq] at hk
    subst hk
    exact hw.1
  | b :: r, hw, k + 1, t, e, hk => wfB_rcd (wfB_tail hw) k t e (by simpa using hk)
  | [], _, _, _, _, hk => by simp at hk
theorem drop_fr {ρ : Nat → Loc} {w : World} {p : List Blk} : Fr ρ w (dropLoc ρ p) w := ⟨rfl, rfl, rfl, Nat.le_refl _, fun _ _ ho => ⟨rfl, fun h => ho (dropLoc_own h)⟩⟩
theorem dropRep {ρ : Nat → Loc} {w : World} {h p : List Blk} (hr : Rep ρ X w h) (hl : leH h p) (hw : wfB p p) : Rep (dropLoc ρ p) X w p := by
  have hreal : ∀ k, (dropLoc ρ p k).real = true → liveP p k := by
    intro k hk
    unfold dropLoc at hk
    unfold liveP
    cases hb : p[k]? with
    | none => rw [hb] at hk; cases hk
    | some B => rw [hb] at hk; cases B <;> first | trivial | cases hk
  refine ⟨?_, ?_, ?_, ?_, ?_, hr.xlt⟩
  · intro i j hij hi hj
    have h1 := hreal i hi
    have h2 := hreal j hj
    rw [live_loc h1] at hi ⊢
    rw [live_loc h2] at hj ⊢
    exact hr.inj i j hij hi hj
  · intro k hk
    have : p[k]? = none := by simpa using hk
    simp [dropLoc, this]
  · intro k B hB
    obtain ⟨A, hA, hAB⟩ := leH_get hl k B hB
    have hrA := hr.blk k A hA
    cases B with
    | dead => simp [RepB, dropLoc, hB]
    | arr sz els =>
      have hAB' : A = .arr sz els := hAB
      subst hAB'
      have hlive : liveP p k := by simp [liveP, hB]
      simp only [RepB] at hrA ⊢
      rw [live_loc hlive]
      refine ⟨hrA.1, hrA.2.imp id ?_⟩
      rintro ⟨h1, c, T, h2, h3, h4, h5⟩
      exact ⟨h1, c, T, h2, h3, h4, RepEls_mono drop_sta sz _ rfl _ _ h5⟩
    | var ys =>
      cases A with
      | var xs =>
        have hlive : liveP p k := by simp [liveP, hB]
        simp only [RepB] at hrA ⊢
        rw [live_loc hlive]
        obtain ⟨h1, c, T, h2, h3⟩ := hrA
        exact ⟨h1, c, T, h2, drops_rep _ _ (wfB_get hw k ys hB) (leVs_rep hAB h3)⟩
      | _ => exact hAB.elim
    | arv sz els =>
      have hAB' : A = .arv sz els := hAB
      subst hAB'
      have hlive : liveP p k := by simp [liveP, hB]
      simp only [RepB] at hrA ⊢
      rw [live_loc hlive]
      obtain ⟨h0, h1, c, T, h2, h3, h4, h5⟩ := hrA
      refine ⟨h0, h1, c, T, h2, h3, h4, fun i e he => ⟨(h5 i e he).1, fun f x hx => ?_⟩⟩
      obtain ⟨u, h6, h7⟩ := (h5 i e he).2 f x hx
      exact ⟨u, h6, drop_rep _ _ (wfL_mem (wfB_arv hw k sz els hB) (List.mem_flatten.2 ⟨e, List.mem_of_getElem? he, List.mem_of_getElem? hx⟩)) h7⟩
    | map es cl =>
      have hAB' : A = .map es cl := hAB
      subst hAB'
      have hlive : liveP p k := by simp [liveP, hB]
      simp only [RepB] at hrA ⊢
      rw [live_loc hlive]
      obtain ⟨h1, arr, h2, h3, h4⟩ := hrA
      exact ⟨h1, arr, h2, h3, drops_rep _ _ (wfB_map hw k es cl hB) h4⟩
    | it m s sn l =>
      have hAB' : A = .it m s sn l := hAB
      subst hAB'
      have hlive : liveP p k := by simp [liveP, hB]
      simp only [RepB] at hrA ⊢
      rw [live_loc hlive]
      obtain ⟨h1, x, h2, h3⟩ := hrA
      exact ⟨h1, x, h2, drop_rep _ _ (wfB_it hw k m s sn l hB) h3⟩
    | rcd t p' =>
      cases A with
      | rcd t' e =>
        obtain ⟨rfl, hle⟩ : t' = t ∧ (e = p' ∨ leE e p') := hAB
        have hlive : liveP p k := by simp [liveP, hB]
        simp only [RepB] at hrA ⊢
        rw [live_loc hlive]
        refine ⟨hrA.1, fun i => ?_⟩
        have hwf := wfE_get (wfB_rcd hw k t' p' hB) i
        rcases hle with rfl | hle
        · exact drop_rep _ _ hwf (hrA.2 i)
        rcases le_get hle i with hg | hg
        · rw [hg]; trivial
        · exact drop_rep _ _ hwf (by rw [hg]; exact hrA.2 i)
      | _ => exact hAB.elim
  · rintro b ho hx
    exact hr.disj b (dropLoc_own ho) hx
  · intro k hk
    have hl' := hreal k hk
    rw [live_loc hl'] at hk ⊢
    exact hr.lt k hk
theorem Good.le {s p : St} {a : Act} {w : World} (h : Good ρ0 X w0 fx N s a w) (hl : leS fx s p) : Good ρ0 X w0 fx N p a w := by
  obtain ⟨ρ, ⟨⟨hf, h1⟩, hk⟩, ⟨hr, he⟩, h5, h5m⟩ := h
  obtain ⟨l1, l2, l3, l4, l5⟩ := hl
  refine ⟨dropLoc ρ p.h, ⟨⟨hf.trans drop_fr, fun k hk' => by rw [live_loc (keepP_get l3 k hk')]; exact h1 k hk'⟩, l3⟩, ⟨dropRep hr l2 l5, fun i => ?_⟩, h5, h5m.fr drop_fr⟩
  have hwf := wfE_get l4 i
  rcases le_get l1 i with hg | hg
  · rw [hg]; trivial
  · exact drop_rep _ _ hwf (by rw [hg]; exact he i)
theorem leVs_refl : ∀ xs : List V, leVs xs xs
  | [] => trivial
  | x :: xs => ⟨by unfold leV; split <;> trivial, leVs_refl xs⟩
theorem leB_refl (b : Blk) : leB b b := by
  cases b with
  | dead => trivial
  | var xs => exact leVs_refl xs
  | rcd t e => exact ⟨rfl, .inl rfl⟩
  | _ => rfl
theorem leH_refl : ∀ h : List Blk, leH h h
  | [] => trivial
  | b :: h => ⟨leB_refl b, leH_refl h⟩
theorem leH_dead : ∀ (h : List Blk) (n : Nat) (B : Blk), leH (h.set n B) (h.set n .dead)
  | [], _, _ => trivial
  | b :: h, 0, B => ⟨trivial, leH_refl h⟩
  | b :: h, n + 1, B => ⟨leB_refl b, leH_dead h n B⟩
theorem Good.leH {s : St} {p : List Blk} {a : Act} {w : World} (h : Good ρ0 X w0 fx N s a w) (l2 : leH s.h p) (l3 : keepP fx p) (l4 : wfE p s.e) (l5 : wfB p p) : Good ρ0 X w0 fx N { s with h := p } a w := by
  obtain ⟨ρ, ⟨⟨hf, h1⟩, hk⟩, ⟨hr, he⟩, h5, h5m⟩ := h
  exact ⟨dropLoc ρ p, ⟨⟨hf.trans drop_fr, fun k hk' => by rw [live_loc (keepP_get l3 k hk')]; exact h1 k hk'⟩, l3⟩, ⟨dropRep hr l2 l5, fun i => drop_rep _ _ (wfE_get l4 i) (he i)⟩, h5, h5m.fr drop_fr⟩
theorem Good.give {s : St} {M : Nat → Bool} {a : Act} {w : World} (h : Good ρ0 X w0 fx N s a w) (hM : ∀ k ∈ fx, M k = false) : Good ρ0 X w0 fx N (s.give M) a w := by
  obtain ⟨ρ, ⟨⟨g1, g2⟩, g3⟩, ⟨g4, g5⟩, g6⟩ := h
  exact ⟨gvLoc ρ M, ⟨⟨g1.trans gv_fr, fun j hj => by rw [gv_ne (by rw [hM j hj]; simp)]; exact g2 j hj⟩, keepP_mk fun j hj => live_give (keepP_get g3 j hj) (hM j hj)⟩,
    ⟨giveRep g4, fun i => by show RepV _ _ _ (get (gvE M s.h s.e) i) _; rw [get_gvE]; exact gv_rep g4 _ _ (g5 i)⟩, g6.1, g6.2.fr gv_fr⟩
theorem nil_cell {ρ : Nat → Loc} {w : World} {x y : V} {val : Value} (hc : nilCell x y) (h : RepV ρ X w x val) : RepV ρ X w y val := by
  rcases hc with rfl | ⟨rfl, k, rfl⟩
  · exact h
  · have : val = .slice none 0 0 := h
    subst this
    exact ⟨0, Nat.le_refl _, Nat.zero_le _, .inl ⟨rfl, none, rfl⟩⟩
theorem nil_row {ρ : Nat → Loc} {w : World} : ∀ {xs ys : List V} {vs : List Value}, nilRow xs ys → RepL ρ X w xs vs → RepL ρ X w ys vs
  | [], ys, [], hr, h => by
    have : ys = [] := List.eq_nil_of_length_eq_zero hr.1
    subst this; trivial
  | x :: xs, [], v :: vs, hr, h => by have := hr.1; simp at this
  | x :: xs, y :: ys, v :: vs, hr, h =>
    ⟨nil_cell (hr.2 0 x y rfl rfl) h.1, nil_row (xs := xs) (ys := ys) ⟨by simpa using hr.1, fun i a b h1 h2 => hr.2 (i + 1) a b (by simpa using h1) (by simpa using h2)⟩ h.2⟩
  | [], _, _ :: _, _, h => h.elim
  | _ :: _, _, [], _, h => h.elim
theorem RepB_ext {ρ ρ' : Nat → Loc} {w : World} (hf : Fr ρ w ρ' w) (hag : ∀ k, (ρ k).real = true → ρ' k = ρ k) {k : Nat} (hk : ρ' k = ρ k) {B : Blk} (h : RepB ρ X w k B) : RepB ρ' X w k B := by
  cases B with
  | dead => simp only [RepB] at h ⊢; rw [hk]; exact h
  | arr s es =>
    simp only [RepB] at h ⊢
    rw [hk]
    refine ⟨h.1, h.2.imp id ?_⟩
    rintro ⟨h1, c, T, h2, h3, h4, h5⟩
    exact ⟨h1, c, T, h2, h3, h4, RepEls_mono hf.sta s _ rfl _ _ h5⟩
  | var cs =>
    simp only [RepB] at h ⊢
    rw [hk]
    obtain ⟨h1, c, T, h2, h3⟩ := h
    exact ⟨h1, c, T, h2, RepL_mono hf hag _ _ h3⟩
  | arv s es =>
    simp only [RepB] at h ⊢
    rw [hk]
    obtain ⟨h0, h1, c, T, h2, h3, h4, h5⟩ := h
    exact ⟨h0, h1, c, T, h2, h3, h4, fun i e he => ⟨(h5 i e he).1, fun f x hx => by obtain ⟨u, h6, h7⟩ := (h5 i e he).2 f x hx; exact ⟨u, h6, RepV_mono hf hag _ _ h7⟩⟩⟩
  | map es cl =>
    simp only [RepB] at h ⊢
    rw [hk]
    obtain ⟨h1, arr, h2, h3, h4⟩ := h
    exact ⟨h1, arr, h2, h3, RepL_mono hf hag _ _ h4⟩
  | it m s sn l =>
    simp only [RepB] at h ⊢
    rw [hk]
    obtain ⟨h1, x, h2, h3⟩ := h
    exact ⟨h1, x, h2, RepV_mono hf hag _ _ h3⟩
  | rcd t e =>
    simp only [RepB] at h ⊢
    rw [hk]
    exact ⟨h.1, fun i => RepV_mono hf hag _ _ (h.2 i)⟩
theorem Good.setB {s : St} {a : Act} {w : World} {j : Nat} {B C : Blk} (h : Good ρ0 X w0 fx N s a w) (hb : s.h[j]? = some B) (hl : liveP [C] 0) (hC : ∀ ρ, RepB ρ X w j B → RepB ρ X w j C) : Good ρ0 X w0 fx N { s with h := s.h.set j C } a w := by
  obtain ⟨ρ, ⟨⟨g1, g2⟩, g3⟩, ⟨g4, g5⟩, g6⟩ := h
  have hjl := (List.getElem?_eq_some_iff.1 hb).1
  refine ⟨ρ, ⟨⟨g1, g2⟩, keepP_mk fun k hk => ?_⟩, ⟨⟨g4.inj, fun k hk => g4.out k (by simpa using hk), fun k D hD => ?_, g4.disj, g4.lt, g4.xlt⟩, g5⟩, g6⟩
  · have := keepP_get g3 k hk
    unfold liveP at this ⊢
    by_cases hkj : j = k
    · subst hkj
      rw [List.getElem?_set_self hjl]
      cases C <;> first | exact hl.elim | trivial
    · rw [List.getElem?_set_ne hkj]; exact this
  · by_cases hkj : j = k
    · subst hkj
      rw [List.getElem?_set_self hjl] at hD
      simp only [Option.some.injEq] at hD
      subst hD
      exact hC ρ (g4.blk j B hb)
    · rw [List.getElem?_set_ne hkj] at hD
      exact g4.blk k D hD
def virtLoc (ρ : Nat → Loc) (n m sz k : Nat) : Loc := if n ≤ k ∧ k < n + m then { ρ k with real := false, sz := sz } else ρ k
theorem Good.virt {s : St} {a : Act} {w : World} (m sz : Nat) (hz : 0 < sz) (h : Good ρ0 X w0 fx N s a w) : Good ρ0 X w0 fx N { s with h := s.h ++ List.replicate m (.arr sz []) } a w := by
  obtain ⟨ρ, ⟨⟨g1, g2⟩, g3⟩, ⟨g4, g5⟩, g6⟩ := h
  have hreal : ∀ k, (virtLoc ρ s.h.length m sz k).real = true → (ρ k).real = true ∧ virtLoc ρ s.h.length m sz k = ρ k := by
    intro k hk
    unfold virtLoc at hk ⊢
    split at hk
    · cases hk
    · rename_i hn; rw [if_neg hn]; exact ⟨hk, rfl⟩
  have hag : ∀ k, (ρ k).real = true → virtLoc ρ s.h.length m sz k = ρ k := by
    intro k hk
    unfold virtLoc
    rw [if_neg]
    rintro ⟨h1, _⟩
    rw [g4.out k h1] at hk
    cases hk
  have hown : ∀ b, Own (virtLoc ρ s.h.length m sz) b → Own ρ b := by
    rintro b ⟨k, h1, h2⟩
    have := hreal k h1
    rw [this.2] at h2
    exact ⟨k, this.1, h2⟩
  have hf : Fr ρ w (virtLoc ρ s.h.length m sz) w := ⟨rfl, rfl, rfl, Nat.le_refl _, fun _ _ ho => ⟨rfl, fun h => ho (hown _ h)⟩⟩
  have hlt : ∀ k, k < s.h.length → virtLoc ρ s.h.length m sz k = ρ k := fun k hk => by unfold virtLoc; rw [if_neg (by omega)]
  refine ⟨virtLoc ρ s.h.length m sz, ⟨⟨g1.trans hf, fun k hk => ?_⟩, keepP_mk fun k hk => ?_⟩, ⟨⟨?_, fun k hk => ?_, fun k D hD => ?_, fun b ho => g4.disj b (hown b ho), fun k hk => ?_, g4.xlt⟩, fun i => RepV_mono hf hag _ _ (g5 i)⟩, g6.1, g6.2.fr hf⟩
  · have hl := keepP_get g3 k hk
    have : k < s.h.length := by
      unfold liveP at hl
      cases hb : s.h[k]? with
      | none => rw [hb] at hl; exact hl.elim
      | some B => exact (List.getElem?_eq_some_iff.1 hb).1
    rw [hlt k this]; exact g2 k hk
  · have hl := keepP_get g3 k hk
    unfold liveP at hl ⊢
    cases hb : s.h[k]? with
    | none => rw [hb] at hl; exact hl.elim
    | some B =>
      show (match (s.h ++ List.replicate m (Blk.arr sz []))[k]? with | some Blk.dead => False | some _ => True | none => False)
      rw [List.getElem?_append_left (List.getElem?_eq_some_iff.1 hb).1]
      rw [hb] at hl ⊢
      exact hl
  · intro i j hij hi hj
    have h1 := hreal i hi
    have h2 := hreal j hj
    rw [h1.2, h2.2]
    exact g4.inj i j hij h1.1 h2.1
  · simp only [List.length_append, List.length_replicate] at hk
    have := g4.out k (by omega)
    unfold virtLoc
    split
    · rfl
    · exact this
  · by_cases hkl : k < s.h.length
    · rw [List.getElem?_append_left hkl] at hD
      exact RepB_ext hf hag (hlt k hkl) (g4.blk k D hD)
    · rw [List.getElem?_append_right (by omega), List.getElem?_replicate] at hD
      split at hD
      · rename_i hm
        simp only [Option.some.injEq] at hD
        subst hD
        simp only [RepB, virtLoc]
        rw [if_pos (by omega)]
        exact ⟨⟨rfl, hz⟩, .inl ⟨rfl, trivial⟩⟩
      · cases hD
  · have h1 := hreal k hk
    rw [h1.2]; exact g4.lt k h1.1
theorem Good.virtAt {s : St} {a : Act} {w : World} (k sz : Nat) (hz : 0 < sz) (hk : s.h[k]? = some .dead) (h : Good ρ0 X w0 fx N s a w) : Good ρ0 X w0 fx N { s with h := s.h.set k (.arr sz []) } a w := by
  obtain ⟨ρ, ⟨⟨g1, g2⟩, g3⟩, ⟨g4, g5⟩, g6⟩ := h
  have hkl := (List.getElem?_eq_some_iff.1 hk).1
  have hkd : (ρ k).real = false := by simpa [RepB] using g4.blk k _ hk
  have hne : ∀ j, j ≠ k → upd ρ k { ρ k with sz := sz } j = ρ j := fun j hj => upd_other _ _ hj
  have hreal : ∀ j, (upd ρ k { ρ k with sz := sz } j).real = (ρ j).real := by
    intro j
    by_cases hj : j = k
    · subst hj; rw [upd_same]
    · rw [hne j hj]
  have hag : ∀ j, (ρ j).real = true → upd ρ k { ρ k with sz := sz } j = ρ j := by
    intro j hj
    refine hne j fun e => ?_
    rw [e, hkd] at hj; cases hj
  have hown : ∀ b, Own (upd ρ k { ρ k with sz := sz }) b → Own ρ b := by
    rintro b ⟨j, h1, h2⟩
    rw [hreal] at h1
    rw [hag j h1] at h2
    exact ⟨j, h1, h2⟩
  have hf : Fr ρ w (upd ρ k { ρ k with sz := sz }) w := ⟨rfl, rfl, rfl, Nat.le_refl _, fun _ _ ho => ⟨rfl, fun h => ho (hown _ h)⟩⟩
  have hnf : ∀ j ∈ fx, j ≠ k := by
    intro j hj e
    have := keepP_get g3 j hj
    rw [e] at this
    unfold liveP at this
    rw [hk] at this
    exact this
  refine ⟨_, ⟨⟨g1.trans hf, fun j hj => (hne j (hnf j hj)).trans (g2 j hj)⟩, keepP_mk fun j hj => ?_⟩, ⟨⟨?_, fun j hj => ?_, fun j D hD => ?_, fun b ho => g4.disj b (hown b ho), fun j hj => ?_, g4.xlt⟩, fun i => RepV_mono hf hag _ _ (g5 i)⟩, g6.1, g6.2.fr hf⟩
  · have := keepP_get g3 j hj
    unfold liveP at this ⊢
    rw [List.getElem?_set_ne (fun e => hnf j hj e.symm)]; exact this
  · intro a b hab ha hb
    rw [hreal] at ha hb
    rw [hag a ha, hag b hb]
    exact g4.inj a b hab ha hb
  · rw [hreal]
    exact g4.out j (by simpa using hj)
  · by_cases hkj : k = j
    · subst hkj
      rw [List.getElem?_set_self hkl] at hD
      simp only [Option.some.injEq] at hD
      subst hD
      simp only [RepB, upd_same]
      exact ⟨⟨trivial, hz⟩, .inl ⟨hkd, trivial⟩⟩
    · rw [List.getElem?_set_ne hkj] at hD
      exact RepB_ext hf hag (hne j fun e => hkj e.symm) (g4.blk j D hD)
  · rw [hreal] at hj
    rw [hag j hj]; exact g4.lt j hj
theorem Good.mv {s : St} {a : Act} {w : World} (i j : Nat) (B : Blk) (hij : i ≠ j) (hi : s.h[i]? = some .dead) (hj : s.h[j]? = some B) (hjf : j ∉ fx) (h : Good ρ0 X w0 fx N s a w) :
    Good ρ0 X w0 fx N { s with e := mvE i j s.e, h := ((s.h.map (mvB i j)).set i (mvB i j B)).set j .dead } a w := by
  obtain ⟨ρ, ⟨⟨g1, g2⟩, g3⟩, ⟨g4, g5⟩, g6⟩ := h
  have hid : (ρ i).real = false := by simpa [RepB] using g4.blk i _ hi
  have hnf : ∀ k ∈ fx, k ≠ i ∧ k ≠ j := by
    intro k hk
    refine ⟨fun e => ?_, fun e => hjf (e ▸ hk)⟩
    have := keepP_get g3 k hk
    rw [e] at this
    unfold liveP at this
    rw [hi] at this
    exact this
  refine ⟨mvLoc ρ i j, ⟨⟨g1.trans (mv_fr hid), fun k hk => ?_⟩, keepP_mk fun k hk => ?_⟩, ⟨mvRep g4 hij hi hj, fun t => ?_⟩, g6.1, g6.2.fr (mv_fr hid)⟩
  · have := hnf k hk
    unfold mvLoc
    rw [if_neg this.1, if_neg this.2]; exact g2 k hk
  · have h1 := hnf k hk
    have := keepP_get g3 k hk
    unfold liveP at this ⊢
    rw [List.getElem?_set_ne (fun e => h1.2 e.symm), List.getElem?_set_ne (fun e => h1.1 e.symm), List.getElem?_map]
    cases hb : s.h[k]? with
    | none => rw [hb] at this; exact this.elim
    | some C => rw [hb] at this; cases C <;> first | exact this.elim | trivial
  · show RepV _ _ _ (get (mvE i j s.e) t) _
    rw [get_mvE]; exact mv_rep hid _ _ (g5 t)
theorem Good.ghost {s s' : St} {a : Act} {w : World} (hg : Ghost fx s s') (h : Good ρ0 X w0 fx N s a w) : Good ρ0 X w0 fx N s' a w := by
  induction hg with
  | refl s => exact h
  | le hl _ ih => exact ih (h.le hl)
  | give M hM _ ih => exact ih (h.give hM)
  | virtAt k sz hz hk _ ih => exact ih (h.virtAt k sz hz hk)
  | mv i j B hij hi hj hf _ ih => exact ih (h.mv i j B hij hi hj hf)
  | virt n sz hz _ ih => exact ih (h.virt n sz hz)
  | nilE i k hn _ ih =>
    refine ih ?_
    obtain ⟨ρ, g1, ⟨g4, g5⟩, g6⟩ := h
    refine ⟨ρ, g1, ⟨g4, fun j => ?_⟩, g6⟩
    show RepV ρ X w (if j = i then .sl k 0 0 else get _ j) _
    by_cases hj : j = i
    · subst hj
      rw [if_pos rfl]
      exact nil_cell (.inr ⟨rfl, k, rfl⟩) (hn ▸ g5 j)
    · rw [if_neg hj]; exact g5 j
  | nilB j xs ys hb hr _ ih =>
    refine ih (h.setB hb trivial fun ρ hB => ?_)
    simp only [RepB] at hB ⊢
    obtain ⟨h1, c, T, h2, h3⟩ := hB
    exact ⟨h1, c, T, h2, nil_row hr h3⟩
  | nilW j sz xs ys hb hr _ ih =>
    refine ih (h.setB hb trivial fun ρ hB => ?_)
    simp only [RepB] at hB ⊢
    obtain ⟨h0, h1, c, T, h2, h3, h4, h5⟩ := hB
    refine ⟨h0, h1, c, T, h2, h3, by rw [hr.1]; exact h4, fun i e he => ?_⟩
    have hil : i < xs.length := by rw [← hr.1]; exact (List.getElem?_eq_some_iff.1 he).1
    have hx : xs[i]? = some xs[i] := List.getElem?_eq_getElem hil
    have hrow := hr.2 i _ _ hx he
    obtain ⟨h6, h7⟩ := h5 i _ hx
    refine ⟨hrow.1.trans h6, fun f y hy => ?_⟩
    have hfl : f < xs[i].length := by rw [← hrow.1]; exact (List.getElem?_eq_some_iff.1 hy).1
    have hxf : xs[i][f]? = some xs[i][f] := List.getElem?_eq_getElem hfl
    obtain ⟨u, h8, h9⟩ := h7 f _ hxf
    exact ⟨u, h8, nil_cell (hrow.2 f _ _ hxf hy) h9⟩
theorem Good.leG {s p : St} {a : Act} {w : World} (h : Good ρ0 X w0 fx N s a w) (hl : leG fx s p) : Good ρ0 X w0 fx N p a w := by
  obtain ⟨s', h1, h2⟩ := hl
  exact (h.ghost h1).le h2
theorem frzP_good {a : Act} {w : World} {K : St → Prop} : ∀ (xs : List Nat) (s : St), frzP fx xs s K → Good ρ0 X w0 fx N s a w → ∃ s', K s' ∧ Good ρ0 X w0 fx N s' a w
  | [], s, h, hg => ⟨s, h, hg⟩
  | x :: r, s, h, hg => by
    simp only [frzP] at h
    split at h
    · rename_i k i n hx
      unfold frz1 at h
      split at h
      · rename_i sz els hb
        obtain ⟨hk, h⟩ := h
        have hb' : s.h[k]? = some (.arr sz els) := by
          unfold blk at hb
          rw [List.getD_eq_getElem?_getD] at hb
          cases hk : s.h[k]? with
          | none => simp [hk] at hb
          | some B => rw [hk] at hb; simpa using hb
        refine frzP_good r _ h ?_
        obtain ⟨ρ, ⟨⟨g1, g2⟩, g3⟩, ⟨g4, g5⟩, g6⟩ := hg
        have hne : ∀ j ∈ fx, j ≠ k := fun j hj e => hk (e ▸ hj)
        exact ⟨lessLoc ρ k, ⟨⟨g1.trans less_fr, fun j hj => by rw [less_ne (hne j hj)]; exact g2 j hj⟩, keepP_mk fun j hj => live_frz (keepP_get g3 j hj) (hne j hj)⟩,
          ⟨frzRep g4 hb', fun i => by rw [get_frzE]; exact frz_rep g4 hb' _ _ (g5 i)⟩, g6.1, g6.2.fr less_fr⟩
      · exact frzP_good r s h hg
    · exact frzP_good r s h hg
theorem brV_inv {c : V} {A B : Prop} (h : brV c A B) : ∃ t, c = .v (.bool t) ∧ (t = true → A) ∧ (t = false → B) := by
  unfold brV at h
  split at h
  · exact ⟨_, rfl, h⟩
  · exact h.elim
end
end Go.Fx
namespace Go.Fx
open Go.RowKit
def FR (r : Option Nat) : Fence := { Fence.wide with round := r }
section
variable {P : Program} {r : Option Nat}
theorem callsFR {n : Nat} {f : FuncId} {args : Array Value} {w : World} {R : Ending → World → Prop} (h : Calls P f args w R) : CallsIn (FR r) n P f args w R := (callsIn_wide (n := n)).2 h
theorem rowsFR {n : Nat} {row : String} {args : Array Value} {w : World} {R : Value → World → Prop} (h : Rows P row args w R) : RowsIn (FR r) n P row args w R :=
  fun c cs _ => let ⟨v, w', hr, hs⟩ := h c cs; ⟨v, w', hr, stepsIn_wide.2 hs⟩
theorem operIn {o : Oper} (hd : r = none ∨ notDefer o = true) {Q : Exit → Act → World → Prop} {a : Act} {w : World} {next : Act → World → Prop} (h : o.wp P a w next Q) : o.wpIn (FR r) 0 P a w next Q := by
  refine ⟨fun _ _ => trivial, ?_⟩
  have hs : o.semAt (FR r).round a.eval = execOp a.eval o := by
    rcases hd with rfl | hd
    · rfl
    · exact Oper.semAt_eq _ _ _ fun c hc => by simp [notDefer, hc] at hd
  rw [hs]
  unfold Oper.wp at h
  generalize (execOp a.eval o).run P w = res at h ⊢
  unfold Oper.upon at h
  split at h
  · exact h
  · exact h
  · exact h
  · refine ⟨fun h => (by cases h), callsFR (h.mono ?_)⟩
    rintro e w' he
    cases e <;> exact he
  · exact ⟨fun h => (by cases h), rowsFR h⟩
  · exact h
  · exact h.elim
theorem opIn {ops : Array Oper} (hd : r = none ∨ ∀ (i : Nat) (o : Oper), ops[i]? = some o → notDefer o = true) {Q : Exit → Act → World → Prop} (hQ : ¬ LetsOut Q) {i : Nat} {K : Act → World → Prop} {a : Act} {w : World} (h : wpOp P ops Q i K a w) :
    wpOpIn (FR r) 0 P ops Q i K a w := by
  unfold wpOp at h
  unfold wpOpIn
  split at h
  · rename_i ho; simp only [ho]; exact h
  · rename_i o ho
    simp only [ho]
    split at h
    · rename_i hw
      rw [if_pos hw]
      rcases h with h | h
      · exact operIn (hd.imp id fun h => h i o ho) h
      · exact absurd h.2 hQ
    · rename_i hw
      rw [if_neg hw]
      exact ⟨fun _ _ => trivial, h⟩
theorem anyIn {ops : Array Oper} (hd : r = none ∨ ∀ (i : Nat) (o : Oper), ops[i]? = some o → notDefer o = true) {Q : Exit → Act → World → Prop} (hQ : ¬ LetsOut Q) {md : Region.Mode} :
    ∀ (fuel : Nat) (listed : Array Bool) (a : Act) (w : World), wpAny P md ops Q fuel listed a w → wpAnyIn (FR r) 0 P md ops Q fuel listed a w
  | 0, _, _, _, h => h
  | fuel + 1, _, _, _, h => ⟨h.1, fun i hi => wpOpIn_mono (fun a w => anyIn hd hQ fuel _ a w) (opIn hd hQ (h.2 i hi))⟩
theorem listIn {ops : Array Oper} {Q : Exit → Act → World → Prop} (hQ : ¬ LetsOut Q) : ∀ (os : List Oper), (r = none ∨ ∀ o ∈ os, notDefer o = true) → ∀ (a : Act) (w : World), wpList P ops Q os a w → wpListIn (FR r) 0 P ops Q os a w
  | [], _, _, _, h => h
  | o :: os, hd, a, w, h => by
    unfold wpList at h
    unfold wpListIn
    have hd' : r = none ∨ ∀ o ∈ os, notDefer o = true := hd.imp id fun h o ho => h o (List.mem_cons_of_mem _ ho)
    split at h
    · rename_i hw
      rw [if_pos hw]
      rcases h with h | h
      · exact Oper.wpIn_mono (fun a w => listIn hQ os hd' a w) (operIn (hd.imp id fun h => h o List.mem_cons_self) h)
      · exact absurd h.2 hQ
    · rename_i hw
      rw [if_neg hw]
      exact ⟨fun _ _ => trivial, listIn hQ os hd' _ _ h⟩
theorem anyIn_of_seq {ops : Array Oper} {Q : Exit → Act → World → Prop} {md : Region.Mode} : ∀ (l : List Oper) (k : Nat) (listed : Array Bool) (a : Act) (w : World), (∀ j, l[j]? = ops[k + j]?) →
    Region.seqB md ops l.length k listed = true → wpListIn (FR r) 0 P ops Q l a w → wpAnyIn (FR r) 0 P md ops Q l.length listed a w
  | [], _, _, _, _, _, hB, h => ⟨by simpa [Region.seqB] using hB, h⟩
  | o :: l, k, listed, a, w, hl, hB, h => by
    have h0 : ops[k]? = some o := by simpa using (hl 0).symm
    simp only [List.length_cons, Region.seqB, Bool.and_eq_true, decide_eq_true_eq] at hB
    refine ⟨fun h1 => (by rw [hB.1] at h1; cases h1), fun i hi => ?_⟩
    rw [hB.1] at hi
    obtain rfl : i = k := by simpa using hi
    have hw : wpOpIn (FR r) 0 P ops Q i (wpListIn (FR r) 0 P ops Q l) a w := by unfold wpOpIn; simp only [h0]; exact h
    exact wpOpIn_mono (fun a' w' h' => anyIn_of_seq l (i + 1) _ a' w' (fun j => by have := hl (j + 1); simpa [Nat.add_assoc, Nat.add_comm 1 j] using this) hB.2 h') hw
theorem anyIn_of_head {ops : Array Oper} {Q : Exit → Act → World → Prop} (hQ : ¬ LetsOut Q) {md : Region.Mode} {w : World} {n g : Nat} {L : Array Bool → Act → Prop} (hL : ∀ listed a, L listed a → wpAnyIn (FR none) 0 P md ops Q g listed a w) :
    ∀ (f : Nat) (listed : Array Bool) (a : Act), wpAnyL P md ops w n L f listed a → wpAnyIn (FR none) 0 P md ops Q (f + g) listed a w
  | 0, listed, a, h => by rw [Nat.zero_add]; exact hL _ _ h
  | f + 1, listed, a, h => by
    rw [show f + 1 + g = (f + g) + 1 by omega]
    exact ⟨fun h0 => absurd h0 h.1, fun i hi => opIn (.inl rfl) hQ (wpOp_of_stOp (fun a' h' => anyIn_of_head hQ hL f _ a' h') (h.2 i hi).2)⟩
end
end Go.Fx
namespace Go.Fx
open Go.RowKit
section
variable {P : Program} {X : Nat → Prop} {ρ : Nat → Loc} {w w' : World}
theorem rep_dead {h : List Blk} (hr : Rep ρ X w h) : Rep ρ X w (h ++ [.dead]) := by
  refine ⟨hr.inj, fun k hk => hr.out k (by simp at hk; omega), fun k B hB => ?_, hr.disj, hr.lt, hr.xlt⟩
  rcases Nat.lt_or_ge k h.length with hlt | hge
  · rw [List.getElem?_append_left hlt] at hB
    exact hr.blk k B hB
  · rw [List.getElem?_append_right hge] at hB
    have : B = .dead := by
      cases hk : k - h.length with
      | zero => rw [hk] at hB; simpa using hB.symm
      | succ m => rw [hk] at hB; simp at hB
    subst this
    exact hr.out k hge
theorem set_last (h : List Blk) (A B : Blk) : (h ++ [A]).set h.length B = h ++ [B] := by
  rw [List.set_append_right _ _ (Nat.le_refl _)]; simp
theorem get_last (h : List Blk) (A : Blk) : (h ++ [A])[h.length]? = some A := by simp
theorem new_rec {h : List Blk} (hr : Rep ρ X w h) {lp : Loop} (hm : Made w w' (.loop { lp with state := .ready, pending := none })) {e : Env} (he : RepE ρ X w e lp.tmps) :
    ∃ ρ', Fr ρ w ρ' w' ∧ (∀ j, j ≠ h.length → ρ' j = ρ j) ∧ (∀ j, (ρ j).real = true → ρ' j = ρ j) ∧ Rep ρ' X w' (h ++ [.rcd .ready e]) ∧ ρ' h.length = ⟨true, w.heap.size, 0, 0, 0, lp⟩ := by
  have hkr : (ρ h.length).real = false := hr.out _ (Nat.le_refl _)
  have hf : Fr ρ w (upd ρ h.length ⟨true, w.heap.size, 0, 0, 0, lp⟩) w' := new_fr hm (k := h.length) rfl
  have hag := new_ag hkr ⟨true, w.heap.size, 0, 0, 0, lp⟩
  refine ⟨_, hf, fun j hj => upd_other _ _ hj, hag, ?_, upd_same _ _ _⟩
  have := new_rep (rep_dead hr) hm (get_last h .dead) (l := ⟨true, w.heap.size, 0, 0, 0, lp⟩) rfl (B := .rcd .ready e) (by
    simp only [RepB, upd_same]
    exact ⟨⟨⟨rfl, rfl, rfl⟩, hm.new⟩, RepE_mono hf hag he⟩)
  rwa [set_last] at this
theorem new_ghost {h : List Blk} (hr : Rep ρ X w h) {e : Env} {t : Array Value} (he : RepE ρ X w e t) :
    ∃ ρ', Fr ρ w ρ' w ∧ Fr ρ' w ρ w ∧ (∀ j, j ≠ h.length → ρ' j = ρ j) ∧ (∀ j, (ρ j).real = true → ρ' j = ρ j) ∧ Rep ρ' X w (h ++ [.rcd .ghost e]) ∧ (ρ' h.length).lp.tmps = t := by
  have hkr : (ρ h.length).real = false := hr.out _ (Nat.le_refl _)
  let L : Loc := { ρ h.length with real := false, lp := { (default : Loop) with tmps := t } }
  have hag : ∀ j, (ρ j).real = true → upd ρ h.length L j = ρ j := new_ag hkr L
  have hre : ∀ j, (upd ρ h.length L j).real = true → (ρ j).real = true ∧ upd ρ h.length L j = ρ j := by
    intro j hj
    by_cases hjn : j = h.length
    · subst hjn; rw [upd_same] at hj; cases hj
    · rw [upd_other _ _ hjn] at hj ⊢; exact ⟨hj, rfl⟩
  have hown : ∀ b, Own (upd ρ h.length L) b ↔ Own ρ b := by
    intro b
    constructor
    · rintro ⟨j, h1, h2⟩
      have := hre j h1
      rw [this.2] at h2
      exact ⟨j, this.1, h2⟩
    · rintro ⟨j, h1, h2⟩
      exact ⟨j, by rw [hag j h1]; exact h1, by rw [hag j h1]; exact h2⟩
  have hf : Fr ρ w (upd ρ h.length L) w := ⟨rfl, rfl, rfl, Nat.le_refl _, fun b _ ho => ⟨rfl, fun h => ho ((hown b).1 h)⟩⟩
  have hf' : Fr (upd ρ h.length L) w ρ w := ⟨rfl, rfl, rfl, Nat.le_refl _, fun b _ ho => ⟨rfl, fun h => ho ((hown b).2 h)⟩⟩
  refine ⟨upd ρ h.length L, hf, hf', fun j hj => upd_other _ _ hj, hag, ⟨?_, ?_, ?_, fun b ho => hr.disj b ((hown b).1 ho), ?_, hr.xlt⟩, by rw [upd_same]⟩
  · intro i j hij hi hj
    have h1 := hre i hi
    have h2 := hre j hj
    rw [h1.2, h2.2]
    exact hr.inj i j hij h1.1 h2.1
  · intro k hk
    have : k ≠ h.length := by simp at hk; omega
    rw [upd_other _ _ this]
    exact hr.out k (by simp at hk; omega)
  · intro k B hB
    rcases Nat.lt_or_ge k h.length with hlt | hge
    · rw [List.getElem?_append_left hlt] at hB
      exact RepB_ext hf hag (upd_other _ _ (by omega)) (hr.blk k B hB)
    · have hk : k = h.length := by
        have := (List.getElem?_eq_some_iff.1 hB).1
        simp at this; omega
      subst hk
      rw [get_last] at hB
      simp only [Option.some.injEq] at hB
      subst hB
      simp only [RepB, upd_same]
      exact ⟨rfl, RepE_mono hf hag he⟩
  · intro k hk
    have := hre k hk
    rw [this.2]
    exact hr.lt k this.1
theorem putObj_fr {k : Nat} (hk : (ρ k).real = true) (o : Obj) : Fr ρ w ρ (w.putObj (ρ k).blk o) := turn_fr hk o rfl rfl rfl rfl
theorem rec_turn {h : List Blk} (hr : Rep ρ X w h) {k : Nat} {t t' : RS} {e : Env} (hb : h[k]? = some (.rcd t e)) (hk : (ρ k).real = true) {o : Obj} (ho : recOk (w.putObj (ρ k).blk o) (ρ k) t') :
    Rep ρ X (w.putObj (ρ k).blk o) (h.set k (.rcd t' e)) := by
  have hB := hr.blk k _ hb
  simp only [RepB] at hB
  refine turn_rep hr hk (o := o) (putObj_fr hk o) rfl ?_
  simp only [RepB]
  exact ⟨ho, RepE_mono (putObj_fr hk o) (fun _ _ => rfl) hB.2⟩
theorem putObj_same {k : Nat} (hk : (ρ k).real = true) {h : List Blk} (hr : Rep ρ X w h) (o : Obj) : (w.putObj (ρ k).blk o).heap[(ρ k).blk]? = some o := World.putObj_heap_same (hr.lt k hk)
theorem rec_ready {t : Loc} (h : recOk w t .ready) : t.real = true ∧ w.heap[t.blk]? = some (.loop { t.lp with state := .ready, pending := none }) := ⟨h.1.1, h.2⟩
theorem enter_ok {h : List Blk} (hr : Rep ρ X w h) {w0 : World} (h0 : w0.heap.size ≤ w.heap.size) {ds : List Deferred} (hM : Marks ρ w0 w ds) (r : Option Nat) (hrd : ∀ l0, r = some l0 → ∃ r0, w.heap[l0]? = some (.loop r0))
    (fn : FuncId) (tmps : Array Value) (ps : Array Tmp) (asg body : Code) {e : Env} (he : RepE ρ X w e tmps) :
    ∃ (l : Nat) (mark : List Deferred) (w1 : World) (lp : Loop) (ρ' : Nat → Loc), (Instr.enterLoop fn tmps ps asg body r).run P w = .ok (l, mark) w1 ∧
      (lp.fn = fn ∧ lp.tmps = tmps ∧ lp.params = ps ∧ lp.assign = asg ∧ lp.body = body) ∧ Fr ρ w ρ' w1 ∧ (∀ j, j ≠ h.length → ρ' j = ρ j) ∧ (∀ j, (ρ j).real = true → ρ' j = ρ j) ∧ Rep ρ' X w1 (h ++ [.rcd .ready e]) ∧
      ρ' h.length = ⟨true, l, 0, 0, 0, lp⟩ ∧ Marks ρ' w0 w1 (mark ++ ds) := by
  cases r with
  | none =>
    have hm1 : Made w (w.alloc (.deferred (some []))) (.deferred (some [])) := Made.alloc _ _
    have hf1 : Fr ρ w ρ (w.alloc (.deferred (some []))) := ⟨rfl, rfl, rfl, by rw [hm1.size]; omega, fun b hb ho => ⟨hm1.old hb, ho⟩⟩
    have hr1 : Rep ρ X (w.alloc (.deferred (some []))) h :=
      ⟨hr.inj, hr.out, fun k B hB => RepB_mono hf1 (fun _ _ => rfl) rfl (fun hk => hm1.old (hr.lt k hk)) (hr.blk k B hB), hr.disj, fun k hk => Nat.lt_of_lt_of_le (hr.lt k hk) hf1.size, fun b hb => Nat.lt_of_lt_of_le (hr.xlt b hb) hf1.size⟩
    let lp : Loop := { state := .ready, pending := none, fn, tmps, params := ps, assign := asg, body, defers := w.heap.size }
    obtain ⟨ρ', g1, g2, g3, g4, g5⟩ := new_rec hr1 (lp := lp) (Made.alloc _ _) (RepE_mono hf1 (fun _ _ => rfl) he)
    refine ⟨_, _, _, lp, ρ', run_enterLoop_outer fn tmps ps asg body, ⟨rfl, rfl, rfl, rfl, rfl⟩, hf1.trans g1, g2, g3, g4, by rw [g5, hm1.size], ?_⟩
    obtain ⟨Ds, ⟨h1, h2⟩, h3⟩ := hM.fr (hf1.trans g1)
    refine ⟨w.heap.size :: Ds, ⟨by rw [h1]; rfl, List.nodup_cons.2 ⟨fun hD => ?_, h2⟩⟩, fun D hD => ?_⟩
    · obtain ⟨Ds', ⟨h1', _⟩, h3'⟩ := hM
      have : Ds = Ds' := by
        have hinj : ∀ (xs ys : List Nat), xs.map markOf = ys.map markOf → xs = ys := by
          intro xs
          induction xs with
          | nil => intro ys h; cases ys with | nil => rfl | cons _ _ => simp at h
          | cons x xs ih =>
            intro ys h
            cases ys with
            | nil => simp at h
            | cons y ys =>
              simp only [List.map_cons, List.cons.injEq, markOf, Deferred.mk.injEq, Target.collected.injEq, and_true] at h
              rw [h.1, ih ys h.2]
        exact hinj _ _ (h1.symm.trans h1')
      subst this
      have := (h3' _ hD).1.2
      omega
    · rcases List.mem_cons.1 hD with rfl | hD
      · refine ⟨⟨h0, Nat.lt_of_lt_of_le (by rw [hm1.size]; omega) g1.size⟩, ?_, ?_⟩
        · rintro ⟨j, hj1, hj2⟩
          by_cases hjn : j = h.length
          · subst hjn; rw [g5] at hj2; simp only [hm1.size] at hj2; omega
          · rw [g2 j hjn] at hj1 hj2
            have := hr.lt j hj1
            omega
        · rw [(Made.alloc (w.alloc (.deferred (some []))) _).old (by rw [hm1.size]; omega)]
          exact hm1.new
      · exact h3 D hD
  | some l0 =>
    obtain ⟨r0, hr0⟩ := hrd l0 rfl
    let lp : Loop := { state := .ready, pending := none, fn, tmps, params := ps, assign := asg, body, defers := r0.defers }
    obtain ⟨ρ', g1, g2, g3, g4, g5⟩ := new_rec hr (lp := lp) (Made.alloc _ _) he
    exact ⟨_, _, _, lp, ρ', run_enterLoop_inner hr0 fn tmps ps asg body, ⟨rfl, rfl, rfl, rfl, rfl⟩, g1, g2, g3, g4, g5, hM.fr g1⟩
end
end Go.Fx
namespace Go.Fx
open Go.RowKit
section
variable {P : Program} {ρ0 : Nat → Loc} {X : Nat → Prop} {w0 : World} {N : Nat}
theorem rlOsY_cons {ops : Array Oper} {N : Nat} {o : Oper} {os : List Oper} {ls0 : List LOper} {l : LOper} {ls : List LOper} (h : rlOsY P ops N (o :: os) ls0 = some (l :: ls)) :
    ∃ l0 r0 op g, ls0 = l0 :: r0 ∧ rlY P o.op l0.op = some op ∧ gOk ops N o.guard = some g ∧ (∀ d, o.dst = some d → d < N) ∧ l = ⟨o.dst, op, g⟩ ∧ rlOsY P ops N os r0 = some ls := by
  cases ls0 with
  | nil => simp [rlOsY] at h
  | cons l0 r0 =>
    simp only [rlOsY] at h
    split at h
    · rename_i op g r h1 h2 h3 h4
      simp only [Option.some.injEq, List.cons.injEq] at h
      obtain ⟨rfl, rfl⟩ := h
      refine ⟨l0, r0, op, g, rfl, h1, h2, fun d hd => ?_, rfl, h4⟩
      simpa [dOk, hd] using h3
    · cases h
theorem rlOsY_nil {ops : Array Oper} {N : Nat} {os : List Oper} {ls0 : List LOper} (h : rlOsY P ops N os ls0 = some []) : os = [] := by
  cases os with
  | nil => rfl
  | cons o os =>
    cases ls0 with
    | nil => simp [rlOsY] at h
    | cons l0 r0 =>
      simp only [rlOsY] at h
      split at h <;> simp at h
theorem rlY_cases {op : Op} {l0 l : LOp} (h : rlY P op l0 = some l) : (∃ f c, l = .yld f c.args.toList ∧ op = .call c ∧ c.callee = .value f) ∨ (rl P op l0 = some l ∧ ∀ f xs, l ≠ .yld f xs) := by
  unfold rlY at h
  split at h
  · split at h
    · rename_i c
      split at h
      · rename_i f hf
        simp only [Option.some.injEq] at h
        exact .inl ⟨f, c, h.symm, rfl, hf⟩
      · cases h
    · cases h
  · split at h
    · cases h
    · rename_i hn
      exact .inr ⟨h, fun f xs e => hn f xs (by rw [h, e])⟩
theorem yield_in {cx : Cx} {o : Oper} {c : Call} {f : Operand} (hop : o.op = .call c) (hcal : c.callee = .value f) {a : Act} {s : St} {ρ : Nat → Loc} {w : World} {K : V → St → Prop} {Q : Exit → Act → World → Prop}
    (hf : Fr ρ0 w0 ρ w ∧ ∀ j ∈ cx.fx, ρ j = ρ0 j) (hk : keepP cx.fx s.h) (hr : Rep ρ X w s.h) (he : RepE ρ X w s.e a.tmps) (hy : ∀ k, YOk P ρ0 X w0 cx.fx k (cx.y k)) (h : yieldP cx f c.args.toList s K) :
    o.wpIn (FR none) 0 P a w (fun a' w' => ∃ val, a' = a.put o.dst val ∧ Sound cx.fx [] ρ X w a.tmps K val w') Q := by
  unfold yieldP at h
  split at h
  · rename_i k hev
    have hv := ev_rep he f
    rw [hev] at hv
    obtain ⟨_, hv⟩ := hv
    obtain ⟨fn, tm, asg, body, hy1, hy2⟩ := hy k ρ w s a.tmps _ _ K hf hk hr he (map_ev_rep he c.args.toList) h
    refine ⟨fun _ _ => trivial, ?_⟩
    show o.uponIn (FR none) 0 P a _ Q ((execOp a.eval o).run P w)
    have ha : (c.args.map a.eval) = (c.args.toList.map a.eval).toArray := by apply Array.ext'; simp
    have hrun : (execOp a.eval o).run P w = .ok (.round (ρ k).blk fn tm asg body) w := by
      unfold execOp
      simp only [hop, resolve, hcal, ha, hv, Deferred.ofValue, Sem.run_bind, Sem.run_pure, Result.andThen_ok, invoke, Array.empty_append, Array.append_empty]
      exact hy1
    rw [hrun, Oper.uponIn_round]
    refine ⟨fun h => (by cases h), hy2.mono ?_⟩
    rintro e w' ⟨val, rfl, hs⟩
    exact ⟨val, rfl, hs⟩
  · exact h.elim
theorem aOpsY_sound {cx : Cx} (hcx : cx.ok P) (hy : ∀ k, YOk P ρ0 X w0 cx.fx k (cx.y k)) {ops : Array Oper} {Q : Exit → Act → World → Prop} {K : St → Prop} (hQ : ∀ s a w, K s → Good ρ0 X w0 cx.fx N s a w → Q .normal a w) :
    ∀ (os : List Oper) (ls0 ls : List LOper) (s : St) (a : Act) (w : World), rlOsY P ops N os ls0 = some ls → Good ρ0 X w0 cx.fx N s a w → aOpsY cx ls s K → wpListIn (FR none) 0 P ops Q os a w
  | os, ls0, [], s, a, w, hm, hg, h => by
    have := rlOsY_nil hm
    subst this
    exact hQ s a w h hg
  | [], ls0, l :: ls, s, a, w, hm, hg, h => by
    cases ls0 <;> simp [rlOsY] at hm
  | o :: os, ls0, l :: ls, s, a, w, hm, hg, h => by
    obtain ⟨l0, r0, op, g, rfl, h1, h2, hd, rfl, h4⟩ := rlOsY_cons hm
    obtain ⟨ρ, hpre, ⟨hr, he⟩, hN, hdf⟩ := hg
    simp only [aOpsY] at h
    unfold wpListIn
    have key : ∀ (A : St → (V → St → Prop) → Prop) (K' : St → Prop), (∀ s' a' w', K' s' → Good ρ0 X w0 cx.fx N s' a' w' → wpListIn (FR none) 0 P ops Q os a' w') →
        (∀ e', RepE ρ X w e' a.tmps → A { s with e := e' } (fun x s' => K' (s'.put o.dst x)) →
          o.wpIn (FR none) 0 P a w (fun a' w' => ∃ val, a' = a.put o.dst val ∧ Sound cx.fx [] ρ X w a.tmps (fun x s' => K' (s'.put o.dst x)) val w') Q) → gP g o.dst A s K' →
        if Region.wanted o (yielded ops a.tmps) then o.wpIn (FR none) 0 P a w (wpListIn (FR none) 0 P ops Q os) Q
          else (∀ f, o.about P w a.eval = some f → (FR none).fn f) ∧ wpListIn (FR none) 0 P ops Q os (a.put o.dst undef) w := by
      intro A K' hK' hA h
      rcases guard_casesG hN h2 he h with ⟨hw, e', _, he', h'⟩ | ⟨hw, e', _, he', h'⟩
      · rw [if_pos hw]
        refine Oper.wpIn_mono ?_ (hA e' he' h')
        rintro a' w' ⟨val, rfl, hs⟩
        obtain ⟨x, s', hK, hgood⟩ := Good.sound (s := s) hpre ⟨hN, hdf⟩ hd hs
        exact hK' _ _ _ hK hgood
      · rw [if_neg (by rw [hw]; exact Bool.false_ne_true)]
        have hh : (St.put { s with e := e' } o.dst (.v (.tuple #[]))).h = s.h := by cases o.dst <;> rfl
        refine ⟨fun _ _ => trivial, hK' _ _ _ h' ⟨ρ, ⟨hpre.1, by rw [hh]; exact hpre.2⟩, ⟨by rw [hh]; exact hr, ?_⟩, by rw [size_put]; exact hN, by rw [defers_put]; exact hdf⟩⟩
        exact RepE_put (e := e') (x := .v (.tuple #[])) (val := undef) he' rfl (fun n hn => by rw [hN]; exact hd n hn) _ rfl
    have hrest : ∀ s' a' w', aOpsY cx ls s' K → Good ρ0 X w0 cx.fx N s' a' w' → wpListIn (FR none) 0 P ops Q os a' w' := fun s' a' w' hK hg' => aOpsY_sound hcx hy hQ os r0 ls s' a' w' h4 hg' hK
    by_cases hyl : ∃ f xs, op = .yld f xs
    · obtain ⟨f, xs, rfl⟩ := hyl
      rcases rlY_cases h1 with ⟨f', c, hl, hop, hcal⟩ | h1
      · simp only [LOp.yld.injEq] at hl
        obtain ⟨rfl, rfl⟩ := hl
        refine key (yieldP cx f c.args.toList) _ hrest (fun e' he' h' => ?_) h
        exact yield_in hop hcal (s := { s with e := e' }) hpre.1 hpre.2 hr he' hy h'
      · exact absurd rfl (h1.2 f xs)
    · have h1' : rl P o.op l0.op = some op := by
        rcases rlY_cases h1 with ⟨f', c, hl, _, _⟩ | h1
        · exact absurd ⟨f', _, hl⟩ hyl
        · exact h1.1
      refine key (aOp cx op) _ hrest (fun e' he' h' => ?_) ?_
      · refine operIn (.inl rfl) (Oper.wp_mono ?_ (aOp_sound hcx h1' (s := { s with e := e' }) hr he' hpre.2 h'))
        rintro a' w' ⟨val, rfl, x, s', ρ', g1, ⟨g2, g3, _⟩, g4⟩
        exact ⟨val, rfl, x, s', ρ', g1, ⟨g2, g3, fun _ h => by simp at h⟩, g4⟩
      · have : aOperY cx ⟨o.dst, op, g⟩ s (fun s' => aOpsY cx ls s' K) = aOper cx ⟨o.dst, op, g⟩ s (fun s' => aOpsY cx ls s' K) := by
          unfold aOperY
          split
          · rename_i f xs hop
            exact absurd ⟨f, xs, hop⟩ hyl
          · rfl
        rw [this] at h
        cases g <;> exact h
end
end Go.Fx
namespace Go.Fx
open Go.RowKit
section
variable {P : Program}
def ROk (r : Option Nat) (cx : Cx) (ρ0 : Nat → Loc) : Prop :=
  match r, cx.rk with
  | none, none => True
  | some l, some k => k ∈ cx.fx ∧ (ρ0 k).blk = l
  | _, _ => False
theorem rcdK_inv {h : List Blk} {k : Nat} {K : RS → Env → Prop} (hk : rcdK h k K) : ∃ t e, h[k]? = some (.rcd t e) ∧ K t e := by
  unfold rcdK at hk
  split at hk
  · exact ⟨_, _, by assumption, hk⟩
  · exact hk.elim
theorem setPs_get : ∀ (ps : List Nat) (xs : List V) (vs : List Value) (e : Env) (t : Array Value) {ρ : Nat → Loc} {X : Nat → Prop} {w : World}, (∀ p ∈ ps, p < t.size) → xs.length = ps.length → RepL ρ X w xs vs → RepE ρ X w e t →
    RepE ρ X w (setPs ps xs e) ((ps.zip vs).foldl (fun t (p, v) => t.setIfInBounds p v) t)
  | [], [], [], _, _, _, _, _, _, _, _, he => he
  | p :: ps, x :: xs, v :: vs, e, t, ρ, X, w, hp, hl, hx, he => by
    simp only [setPs, List.zip_cons_cons, List.foldl_cons]
    refine setPs_get ps xs vs _ _ (fun q hq => by simpa using hp q (List.mem_cons_of_mem _ hq)) (by simpa using hl) hx.2 ?_
    intro i
    rw [get_put]
    split
    · rename_i hi
      subst hi
      have := hp i List.mem_cons_self
      rw [Array.getD_eq_getD_getElem?, Array.getElem?_setIfInBounds_self_of_lt this]
      exact hx.1
    · rename_i hi
      rw [Array.getD_eq_getD_getElem?, Array.getElem?_setIfInBounds_ne (Ne.symm hi), ← Array.getD_eq_getD_getElem?]
      exact he i
  | [], _ :: _, _, _, _, _, _, _, _, hl, _, _ => by simp at hl
  | _ :: _, [], _, _, _, _, _, _, _, hl, _, _ => by simp at hl
  | _ :: _, _ :: _, [], _, _, _, _, _, _, _, hx, _ => hx.elim
  | [], [], _ :: _, _, _, _, _, _, _, _, hx, _ => hx.elim
theorem foldl_size : ∀ (l : List (Nat × Value)) (t : Array Value), (l.foldl (fun t (p, v) => t.setIfInBounds p v) t).size = t.size
  | [], _ => rfl
  | (p, v) :: l, t => by rw [List.foldl_cons, foldl_size l]; simp
theorem LetsOut_then {Q : Exit → Act → World → Prop} {K : Act → World → Prop} (h : ¬ LetsOut Q) : ¬ LetsOut (Exit.then K Q) := fun ⟨a, w, hq⟩ => h ⟨a, w, hq⟩
end
end Go.Fx
namespace Go.Fx
open Go.RowKit
section
variable {P : Program} {ρ0 : Nat → Loc} {X : Nat → Prop} {w0 : World} {N : Nat} {r : Option Nat}
theorem noDef {ops : Array Oper} (h : ops.toList.all notDefer = true) : ∀ (i : Nat) (o : Oper), ops[i]? = some o → notDefer o = true :=
  fun i o ho => List.all_eq_true.1 h o (by rw [Array.mem_toList_iff]; exact Array.mem_of_getElem? ho)
theorem tree_in (hP : P.follows .mixedOrders = true) {cx : Cx} (hcx : cx.ok P) {ops : Array Oper} {id : Nat} {Q : Exit → Act → World → Prop} (hQo : ¬ LetsOut Q) {K : St → Prop} (hQ : ∀ s a w, K s → Good ρ0 X w0 cx.fx N s a w → Q .normal a w)
    (hd : r = none ∨ ops.toList.all notDefer = true) {p0 p : LPlan} {s : St} {a : Act} {w : World} (hm : rlT P N ops p0 = some p) (hg : Good ρ0 X w0 cx.fx N s a w) (h : awP cx p [] K s) : (Code.region id ops true).wpIn (FR r) 0 P Q a w := by
  unfold rlT at hm
  split at hm
  · rename_i hs
    refine wpIn_mono (Q := NoPan Q) ?_ (fun e a w he => ?_)
    · refine wpIn_region_any hP (anyIn (Q := NoPan Q) (hd.imp (fun h => h) noDef) (fun ⟨a, w, hq⟩ => hQo ⟨a, w, hq⟩) _ _ _ _ ?_)
      obtain ⟨ρ, hG⟩ := Good.drew hg
      exact wpAny_of_G _ _ _ _ _ ((awP_sound (Q := NoPan Q) hcx rfl hs (fun _ _ _ h => h) (fun s a w hK hg => hQ s a w hK hg) p0 p _ _ _ hm [] (fun _ => False) ρ s a _ (fun b hb => hb.elim) hG h).1 rfl)
    · cases e <;> first | exact he | exact he.elim
  · cases hm
theorem rlOsY_split {ops : Array Oper} : ∀ (m : Nat) (os : List Oper) (ls0 ls : List LOper), rlOsY P ops N os ls0 = some ls →
    rlOsY P ops N (os.take m) (ls0.take m) = some (ls.take m) ∧ rlOsY P ops N (os.drop m) (ls0.drop m) = some (ls.drop m)
  | 0, os, ls0, ls, h => by simp [rlOsY, h]
  | m + 1, [], ls0, ls, h => by
    cases ls0 with
    | nil => simp [rlOsY] at h; subst h; simp [rlOsY]
    | cons _ _ => simp [rlOsY] at h
  | m + 1, o :: os, ls0, ls, h => by
    cases ls with
    | nil => have := rlOsY_nil h; cases this
    | cons l ls =>
      obtain ⟨l0, r0, op, g, rfl, h1, h2, hd, rfl, h4⟩ := rlOsY_cons h
      obtain ⟨h5, h6⟩ := rlOsY_split m os r0 ls h4
      refine ⟨?_, by simpa using h6⟩
      have hd' : dOk N o.dst = true := by
        cases hdst : o.dst with
        | none => rfl
        | some d => simpa [dOk, hdst] using hd d hdst
      simp [rlOsY, h1, h2, hd', h5]
theorem rlOsY_quiet {ops : Array Oper} : ∀ (os : List Oper) (ls0 ls : List LOper), rlOsY P ops N os ls0 = some ls → (∀ l ∈ ls, quietOp l.op = true) → rlOs P ops N os ls0 = some ls
  | [], ls0, ls, h, _ => by
    cases ls0 with
    | nil => simpa [rlOsY, rlOs] using h
    | cons _ _ => simp [rlOsY] at h
  | o :: os, ls0, ls, h, hq => by
    cases ls with
    | nil => have := rlOsY_nil h; cases this
    | cons l ls =>
      obtain ⟨l0, r0, op, g, rfl, h1, h2, hd, rfl, h4⟩ := rlOsY_cons h
      have h5 := rlOsY_quiet os r0 ls h4 (fun l hl => hq l (List.mem_cons_of_mem _ hl))
      have hd' : dOk N o.dst = true := by
        cases hdst : o.dst with
        | none => rfl
        | some d => simpa [dOk, hdst] using hd d hdst
      have h1' : rl P o.op l0.op = some op := by
        rcases rlY_cases h1 with ⟨f, c, hl, _, _⟩ | h1
        · have := hq _ List.mem_cons_self
          rw [hl] at this
          simp [quietOp] at this
        · exact h1.1
      simp [rlOs, h1', h2, hd', h5]
theorem aOpsY_quiet {cx : Cx} : ∀ (l1 l2 : List LOper) (s : St) (K : St → Prop), (∀ l ∈ l1, quietOp l.op = true) → aOpsY cx (l1 ++ l2) s K = aOps cx l1 s fun s' => aOpsY cx l2 s' K
  | [], _, _, _, _ => rfl
  | o :: r, l2, s, K, hq => by
    simp only [List.cons_append, aOps, aOpsY]
    have : aOperY cx o = aOper cx o := by
      funext s K
      unfold aOperY
      split
      · rename_i f xs hop
        have := hq o List.mem_cons_self
        rw [hop] at this
        simp [quietOp] at this
      · rfl
    rw [this]
    congr 1
    funext s'
    exact aOpsY_quiet r l2 s' K (fun l hl => hq l (List.mem_cons_of_mem _ hl))
theorem yreg_in (hP : P.follows .mixedOrders = true) {cx : Cx} (hcx : cx.ok P) (hy : ∀ k, YOk P ρ0 X w0 cx.fx k (cx.y k)) {ops : Array Oper} {id : Nat} {Q : Exit → Act → World → Prop} (hQo : ¬ LetsOut Q) {K : St → Prop}
    (hQ : ∀ s a w, K s → Good ρ0 X w0 cx.fx N s a w → Q .normal a w) {m : Nat} {ls0 ls : List LOper} {s : St} {a : Act} {w : World} (hm : rlOsY P ops N ops.toList ls0 = some ls) (hq : (ls.take m).all (fun l => quietOp l.op) = true)
    (hB : Region.lexTailB .any ops m = true) (hg : Good ρ0 X w0 cx.fx N s a w) (h : aOpsY cx ls s K) : (Code.region id ops true).wpIn (FR none) 0 P Q a w := by
  obtain ⟨ρ, hpre, ⟨hr, he⟩, hN, hdf⟩ := Good.drew hg
  obtain ⟨h1, h2⟩ := rlOsY_split m _ _ _ hm
  have hqs : ∀ l ∈ ls.take m, quietOp l.op = true := fun l hl => List.all_eq_true.1 hq l hl
  have hops : ops = ops.toList.toArray := by simp
  refine wpIn_region_any hP ?_
  rw [← List.take_append_drop m ls, aOpsY_quiet _ _ _ _ hqs] at h
  have hst : wpStill P ops { w with drawn := w.drawn + 1 } (fun a' => wpListIn (FR none) 0 P ops Q (ops.toList.drop m) a' { w with drawn := w.drawn + 1 }) (ops.toList.take m) a := by
    refine wpStill_of (fx := cx.fx) (cx := cx) (ρ := ρ) (K := fun s' => aOpsY cx (ls.drop m) s' K) ?_ _ _ _ s a (rlOsY_quiet _ _ _ h1 hqs) hqs hr hpre.2 he hN rfl h
    intro s' a' hK he' hN' hdf' hr' hk'
    exact aOpsY_sound hcx hy hQ _ _ _ s' a' _ h2 ⟨ρ, ⟨hpre.1, hk'⟩, ⟨hr', he'⟩, hN', by rw [hdf']; exact hdf⟩ hK
  simp only [Region.lexTailB, Bool.and_eq_true, decide_eq_true_eq] at hB
  obtain ⟨⟨⟨⟨hsel, hn⟩, hs⟩, hc⟩, hlex⟩ := hB
  have htl : (ops.toList.take m).length = m := by simp; omega
  have hdl : (ops.toList.drop m).length = ops.size - m := by simp
  have inv0 : HeadInv .any ops m (Array.replicate ops.size false) :=
    ⟨by simp, fun j oj _ hl => (by rw [getD_replicate_false] at hl; cases hl), fun t _ ht => getD_in (by simpa using ht) (getD_replicate_false _ _)⟩
  have H := wpAnyL_lex (md := .any) (g := ops.size - m) hsel hs hc hn (ops.toList.take m) 0 _ a (fun j hj => by
    have hj' : j < m := by rw [htl] at hj; exact hj
    simp [hj']) (by simpa using htl) inv0 (by rw [htl]; exact hlex) hst
  have := anyIn_of_head (P := P) (Q := Q) hQo (g := ops.size - m) (fun listed a' hL => by
    have := anyIn_of_seq (P := P) (r := none) (md := .any) (Q := Q) (ops.toList.drop m) m listed a' { w with drawn := w.drawn + 1 } (fun j => by simp [List.getElem?_drop]) (by rw [hdl]; exact hL.1) hL.2
    rwa [hdl] at this) _ _ _ H
  rw [htl, show m + (ops.size - m) = ops.size by omega] at this
  exact this
end
end Go.Fx
namespace Go.Fx
open Go.RowKit
section
variable {P : Program} {X : Nat → Prop} {N : Nat}
def SndA (P : Program) (X : Nat → Prop) (N : Nat) (c : Code) (rd : Prop) (A : Cx → (St → Prop) → (Nat → St → Prop) → (St → Prop) → St → Prop) : Prop :=
  ∀ (r : Option Nat) (cx : Cx) (ρ0 : Nat → Loc) (w0 : World), cx.ok P → (r = none ∨ rd) → ROk r cx ρ0 → (∀ k, YOk P ρ0 X w0 cx.fx k (cx.y k)) →
    ∀ (Q : Exit → Act → World → Prop) (Nn : St → Prop) (Xx : Nat → St → Prop) (Rr : St → Prop), ¬ LetsOut Q →
      (∀ s a w, Nn s → Good ρ0 X w0 cx.fx N s a w → Q .normal a w) → (∀ j s a w, Xx j s → Good ρ0 X w0 cx.fx N s a w → Q (.exit j) a w) → (∀ s a w, Rr s → Good ρ0 X w0 cx.fx N s a w → Q .ret a w) →
      ∀ s a w, A cx Nn Xx Rr s → Good ρ0 X w0 cx.fx N s a w → c.wpIn (FR r) 0 P Q a w
def SndC (P : Program) (X : Nat → Prop) (N : Nat) (c : Code) : Prop :=
  ∀ (l0 l : LCode), rlC P N c l0 = some l → SndA P X N c (codeRd c = true ∧ inRd l = true) (fun cx => aw cx l)
theorem YOk_none {ρ0 : Nat → Loc} {w0 : World} {fx : List Nat} {k : Nat} : YOk P ρ0 X w0 fx k (fun _ _ _ => False) := fun _ _ _ _ _ _ _ _ _ _ _ _ h => h.elim
theorem Good.rcd {ρ0 : Nat → Loc} {w0 : World} {fx : List Nat} {s : St} {a : Act} {w : World} {k : Nat} {t t' : RS} {e : Env} (hg : Good ρ0 X w0 fx N s a w) (hk : k ∈ fx) (hb : s.h[k]? = some (.rcd t e)) (hreal : (ρ0 k).real = true) {o : Obj}
    (ho : recOk (w.putObj (ρ0 k).blk o) (ρ0 k) t') : Good ρ0 X w0 fx N { s with h := s.h.set k (.rcd t' e) } a (w.putObj (ρ0 k).blk o) := by
  obtain ⟨ρ, ⟨⟨hf, h1⟩, hkp⟩, ⟨hr, he⟩, h5, h5m⟩ := hg
  have hρ := h1 k hk
  rw [← hρ] at ho hreal ⊢
  have hf1 := putObj_fr (w := w) hreal o
  refine ⟨ρ, ⟨⟨hf.trans hf1, h1⟩, keepP_mono hkp (live_set (by simp))⟩, ⟨rec_turn hr hb hreal ho, RepE_mono hf1 (fun _ _ => rfl) he⟩, h5, h5m.fr hf1⟩
theorem round_okA {asg body : Code} {rda rdb : Prop} {Aa Ab : Cx → (St → Prop) → (Nat → St → Prop) → (St → Prop) → St → Prop} (ha : SndA P X N asg rda Aa) (hb : SndA P X N body rdb Ab) (hra : rda) (hrb : rdb)
    {cx : Cx} (hcx : cx.ok P) {ρ1 : Nat → Loc} {w1 : World} {n : Nat} {fx : List Nat} (hcf : cx.fx = fx) {lp : Loop} {l : Nat} (hn : ρ1 n = ⟨true, l, 0, 0, 0, lp⟩) {ps : Array Tmp} (hlp : lp.params = ps ∧ lp.assign = asg ∧ lp.body = body)
    (hps : ∀ p ∈ ps.toList, p < N) (hsz : lp.tmps.size = N) :
    YOk P ρ1 X w1 (n :: fx) n (fun xs sI K => rcdK sI.h n fun t e => t = .ready ∧ xs.length = ps.toList.length ∧
          Aa { cx with fx := sI.h.length :: n :: cx.fx, y := fun _ _ _ _ => False, rk := some n }
            (begRd n fun s1 => Ab { cx with fx := sI.h.length :: n :: cx.fx, y := fun _ _ _ _ => False, rk := some n }
              (endRd n sI.h.length sI.b K true .ready) (fun j => endRd n sI.h.length sI.b K false (.out (some j))) (endRd n sI.h.length sI.b K false (.out none)) s1)
            (fun _ _ => False) (fun _ => False) ⟨setPs ps.toList xs e, sI.h ++ [.rcd .ghost sI.e], sI.b⟩) := by
  subst hcf
  intro ρ w s tmps xs vals K hfr hkp hr he hx h
  obtain ⟨t, e, hbn, rfl, hlen, h⟩ := rcdK_inv h
  have hρn : ρ n = ⟨true, l, 0, 0, 0, lp⟩ := (hfr.2 n List.mem_cons_self).trans hn
  have hB := hr.blk n _ hbn
  simp only [RepB, hρn] at hB
  have hl : w.heap[l]? = some (.loop { lp with state := .ready, pending := none }) := hB.1.2
  have hnl : n < s.h.length := (List.getElem?_eq_some_iff.1 hbn).1
  have hvl := RepL_len hx
  rw [hρn]
  have hy := run_yield (P := P) (args := vals.toArray) hl (by simp [hlp.1]; simpa [← hvl] using hlen)
  refine ⟨_, _, _, _, hy, ?_⟩
  simp only [hlp.2.1, hlp.2.2]
  -- what is kept of the iterator's frame
  obtain ⟨ρ2, f2, f2', o2, ag2, hr2, ht2⟩ := new_ghost hr he
  have hρ2n : ρ2 n = ⟨true, l, 0, 0, 0, lp⟩ := by rw [o2 n (by omega)]; exact hρn
  have hzip : (Array.zip lp.params vals.toArray).foldl (fun tmps (t, a) => tmps.setIfInBounds t a) lp.tmps = (ps.toList.zip vals).foldl (fun t (p, v) => t.setIfInBounds p v) lp.tmps := by
    rw [hlp.1, ← Array.foldl_toList]; simp [Array.toList_zip]
  show RoundIn Fence.wide 0 P l lp.fn ((Array.zip lp.params vals.toArray).foldl (fun tmps (t, a) => tmps.setIfInBounds t a) lp.tmps) asg body w _
  rw [hzip]
  refine roundIn_of_wpIn trivial ?_
  have hgood : Good ρ2 X w (s.h.length :: n :: cx.fx) N ⟨setPs ps.toList xs e, s.h ++ [.rcd .ghost s.e], s.b⟩ { tmps := (ps.toList.zip vals).foldl (fun t (p, v) => t.setIfInBounds p v) lp.tmps, defers := [] } w := by
    refine ⟨ρ2, ⟨⟨Fr.refl _ _, fun _ _ => rfl⟩, keepP_mk fun j hj => ?_⟩, ⟨hr2, ?_⟩, ?_, Marks.nil⟩
    · rcases List.mem_cons.1 hj with rfl | hj
      · simp [liveP]
      · have := keepP_get hkp j hj
        unfold liveP at this ⊢
        cases hb : s.h[j]? with
        | none => rw [hb] at this; exact this.elim
        | some B => rw [List.getElem?_append_left (List.getElem?_eq_some_iff.1 hb).1, hb]; rw [hb] at this; exact this
    · refine setPs_get _ _ _ _ _ (fun p hp => by rw [hsz]; exact hps p hp) hlen (RepL_mono f2 ag2 _ _ hx) (RepE_mono f2 ag2 hB.2)
    · rw [foldl_size]; exact hsz
  have hcx' : Cx.ok { cx with fx := s.h.length :: n :: cx.fx, y := fun _ _ _ _ => False, rk := some n } P := hcx
  have hro : ROk (some l) { cx with fx := s.h.length :: n :: cx.fx, y := fun _ _ _ _ => False, rk := some n } ρ2 := ⟨by simp, by rw [hρ2n]⟩
  have hgo : ∀ (b : Bool) (t' : RS) (j : Option Code) (s2 : St) (a2 : Act) (w2 : World), endRd n s.h.length s.b K b t' s2 → Good ρ2 X w (s.h.length :: n :: cx.fx) N s2 a2 w2 →
      (∀ w', w'.heap[l]? = some (.loop { lp with state := if j.isNone then .ready else .done, pending := j }) → recOk w' ⟨true, l, 0, 0, 0, lp⟩ t') → t' ≠ .ghost → b = j.isNone →
      ∃ v w', (Instr.endRound l j).run P w2 = .ok v w' ∧ ∃ val, Ending.returned v = .returned val ∧ Sound (n :: cx.fx) [] ρ X w tmps K val w' := by
    intro b t' j s2 a2 w2 hend hg2 hrec hgh hbj
    obtain ⟨t2, e2, hb2, rfl, hend⟩ := rcdK_inv hend
    obtain ⟨t3, eI, hb3, rfl, hK⟩ := rcdK_inv hend
    have hg2' := hg2
    obtain ⟨ρ3, ⟨⟨g1, g2⟩, g3⟩, ⟨g4, g5⟩, g6⟩ := hg2
    have h3n : ρ3 n = ⟨true, l, 0, 0, 0, lp⟩ := (g2 n (by simp)).trans hρ2n
    have hB2 := g4.blk n _ hb2
    simp only [RepB, h3n] at hB2
    have hl2 : w2.heap[l]? = some (.loop { lp with state := .busy, pending := none }) := hB2.1.2
    have hrun := run_endRound (P := P) j hl2
    refine ⟨_, _, hrun, _, rfl, ?_⟩
    have hput : ∀ o : Obj, (w2.putObj (ρ3 n).blk o).heap[(ρ3 n).blk]? = some o := fun o => putObj_same (by rw [h3n]) g4 o
    have hwb : (ρ3 n).blk = l := by rw [h3n]
    generalize ho : Obj.loop { ({ lp with state := .busy, pending := none } : Loop) with state := if j.isNone then .ready else .done, pending := j } = o
    have hf3 : Fr ρ3 w2 ρ3 (w2.putObj l o) := by have := putObj_fr (w := w2) (k := n) (ρ := ρ3) (by rw [h3n]) o; rwa [hwb] at this
    have hr3 : Rep ρ3 X (w2.putObj l o) (s2.h.set n (.rcd t' e2)) := by
      have := rec_turn g4 hb2 (by rw [h3n]) (o := o) (t' := t') (by
        rw [h3n]; exact hrec _ (by have := hput o; rw [hwb] at this; rw [this, ← ho]))
      rwa [hwb] at this
    have hne : s.h.length ≠ n := by omega
    have hb3' : (s2.h.set n (.rcd t' e2))[s.h.length]? = some (.rcd .ghost eI) := by rw [List.getElem?_set_ne (Ne.symm hne)]; exact hb3
    have hBg := hr3.blk _ _ hb3'
    simp only [RepB] at hBg
    have h3g : ρ3 s.h.length = ρ2 s.h.length := g2 _ (by simp)
    have hdead : Rep ρ3 X (w2.putObj l o) ((s2.h.set n (.rcd t' e2)).set s.h.length .dead) := by
      refine ⟨hr3.inj, fun k hk => hr3.out k (by simpa using hk), fun k B hB => ?_, hr3.disj, hr3.lt, hr3.xlt⟩
      by_cases hkn : k = s.h.length
      · subst hkn
        rw [List.getElem?_set_self (List.getElem?_eq_some_iff.1 hb3').1] at hB
        simp only [Option.some.injEq] at hB
        subst hB
        exact hBg.1
      · rw [List.getElem?_set_ne (Ne.symm hkn)] at hB
        exact hr3.blk k B hB
    subst hbj
    refine ⟨.b j.isNone, _, ρ3, hK, ⟨keepP_mk fun k hk => ?_, fun k hk => ?_, fun k hk => by simp at hk⟩, (f2.trans g1).trans hf3, hdead, ?_, rfl⟩
    · have hlk := keepP_get g3 k (List.mem_cons_of_mem _ hk)
      have hkl := keepP_get hkp k hk
      have hks : k ≠ s.h.length := by
        intro e
        unfold liveP at hkl
        rw [e, List.getElem?_eq_none (Nat.le_refl _)] at hkl
        exact hkl
      have := live_set (B := Blk.rcd t' e2) (k := n) (by simp) k hlk
      unfold liveP at this ⊢
      rw [List.getElem?_set_ne (Ne.symm hks)]
      exact this
    · have hkl := keepP_get hkp k hk
      have hks : k ≠ s.h.length := by
        intro e
        unfold liveP at hkl
        rw [e, List.getElem?_eq_none (Nat.le_refl _)] at hkl
        exact hkl
      rw [g2 k (List.mem_cons_of_mem _ hk), o2 k hks]
    · have := hBg.2
      rw [h3g, ht2] at this
      exact this
  refine ha (some l) _ ρ2 w hcx' (.inr hra) hro (fun _ => YOk_none) _ _ _ _ (fun ⟨a, w, hq⟩ => hq) ?_ (fun _ _ _ _ h _ => h.elim) (fun _ _ _ h _ => h.elim) _ _ _ h hgood
  intro s1 a1 wA hbeg hg1
  obtain ⟨t1, e1, hb1, rfl, hbody⟩ := rcdK_inv hbeg
  have hl1 : wA.heap[l]? = some (.loop { lp with state := .ready, pending := none }) := by
    obtain ⟨ρ3, ⟨⟨g1, g2⟩, g3⟩, ⟨g4, g5⟩, g6⟩ := hg1
    have h3n : ρ3 n = ⟨true, l, 0, 0, 0, lp⟩ := (g2 n (by simp)).trans hρ2n
    have hB2 := g4.blk n _ hb1
    simp only [RepB, h3n] at hB2
    exact hB2.1.2
  refine ⟨_, run_beginRound hl1 rfl, ?_⟩
  have hlt : l < wA.heap.size := (Array.getElem?_eq_some_iff.1 hl1).1
  have hgB := hg1.rcd (t' := .busy) (k := n) (by simp) hb1 (by rw [hρ2n]) (o := .loop { lp with state := .busy, pending := none }) (by
    rw [hρ2n]; exact ⟨⟨rfl, rfl, rfl⟩, World.putObj_heap_same hlt⟩)
  rw [hρ2n] at hgB
  refine hb (some l) _ ρ2 w hcx' (.inr hrb) hro (fun _ => YOk_none) (roundPost P l _) _ _ _ (fun ⟨a, w, hq⟩ => hq) ?_ ?_ ?_ _ _ _ hbody hgB
  · intro s2 a2 w2 hend hg2
    exact hgo true .ready none s2 a2 w2 hend hg2 (fun w' hw' => ⟨⟨rfl, rfl, rfl⟩, hw'⟩) (by simp) rfl
  · intro j s2 a2 w2 hend hg2
    exact hgo false (.out (some j)) (some (.exit j)) s2 a2 w2 hend hg2 (fun w' hw' => ⟨⟨rfl, rfl, rfl⟩, hw'⟩) (by simp) rfl
  · intro s2 a2 w2 hend hg2
    exact hgo false (.out none) (some .ret) s2 a2 w2 hend hg2 (fun w' hw' => ⟨⟨rfl, rfl, rfl⟩, hw'⟩) (by simp) rfl
end
end Go.Fx
namespace Go.Fx
open Go.RowKit
section
variable {P : Program} {X : Nat → Prop} {N : Nat}
theorem rfn_okA {g : Operand} {ps : Array Tmp} {asg body : Code} {rda rdb : Prop} {Aa Ab : Cx → (St → Prop) → (Nat → St → Prop) → (St → Prop) → St → Prop} (ha : SndA P X N asg rda Aa) (hb : SndA P X N body rdb Ab) (hra : rda) (hrb : rdb)
    (hps' : ∀ p ∈ ps.toList, p < N) : SndA P X N (.rangeFunc g ps asg body) True (fun cx Nn Xx Rr s =>
    match ev s.e g with
    | .clo gf caps => inRdP cx.rk s.h ∧ cx.it gf (.itr s.h.length :: caps) (s.h.length :: cx.fx) s.h.length
        (fun xs sI K => rcdK sI.h s.h.length fun t e => t = .ready ∧ xs.length = ps.toList.length ∧
          Aa { cx with fx := sI.h.length :: s.h.length :: cx.fx, y := fun _ _ _ _ => False, rk := some s.h.length }
            (begRd s.h.length fun s1 => Ab { cx with fx := sI.h.length :: s.h.length :: cx.fx, y := fun _ _ _ _ => False, rk := some s.h.length }
              (endRd s.h.length sI.h.length sI.b K true .ready) (fun j => endRd s.h.length sI.h.length sI.b K false (.out (some j))) (endRd s.h.length sI.h.length sI.b K false (.out none)) s1)
            (fun _ _ => False) (fun _ => False) ⟨setPs ps.toList xs e, sI.h ++ [.rcd .ghost sI.e], sI.b⟩)
        (s.h ++ [.rcd .ready s.e]) (endLp s.h.length Nn Xx Rr)
    | _ => False) := by
  intro r cx ρ0 w0 hcx hrd hro hy Q Nn Xx Rr hQo hN hX hR s a w h hg
  split at h
  · rename_i gf caps hev
    obtain ⟨hrk, hit⟩ := h
    obtain ⟨hcall, hiter⟩ := hcx.2 _ _ _ _ _ _ _ hit
    obtain ⟨ρ, ⟨⟨hf, hfx⟩, hkp⟩, ⟨hr, he⟩, hsz, hM⟩ := hg
    have hgv := ev_rep he g
    rw [hev] at hgv
    obtain ⟨arr, hgv, hcaps⟩ := hgv
    have hrd0 : ∀ l0, r = some l0 → ∃ r0, w.heap[l0]? = some (.loop r0) := by
      rintro l0 rfl
      unfold ROk at hro
      split at hro
      · rename_i h1 _; cases h1
      · rename_i l1 k h1 h2
        simp only [Option.some.injEq] at h1
        subst h1
        rw [h2] at hrk
        obtain ⟨t, e, hb1, rfl⟩ := rcdK_inv hrk
        have hB := hr.blk k _ hb1
        simp only [RepB] at hB
        rw [hfx k hro.1] at hB
        exact ⟨_, by rw [← hro.2]; exact hB.1.2⟩
      · exact hro.elim
    refine wpIn_rangeFunc ?_
    intro fn _
    obtain ⟨l, mark, w1, lp, ρ1, hen, hlp, f1, o1, ag1, hr1, hn1, hM1⟩ := enter_ok hr hf.size hM r hrd0 fn a.tmps ps asg body he
    refine ⟨l, mark, w1, { target := .fn (.func gf) arr, args := #[.func (.yield l) #[] #[]] }, w1, gf, #[.func (.yield l) #[] #[]] ++ arr, w1, hen, ?_, fun _ _ => trivial, ?_, fun h => (by cases h), ?_⟩
    · simp only [resolve, hgv]
      simp [go_sem]
    · simp [invoke, go_sem, callFunc_run hcall]
    · refine callsFR ?_
      have hkp1 : keepP (s.h.length :: cx.fx) (s.h ++ [.rcd .ready s.e]) := keepP_mk fun j hj => by
        rcases List.mem_cons.1 hj with rfl | hj
        · simp [liveP]
        · have := keepP_get hkp j hj
          unfold liveP at this ⊢
          cases hb : s.h[j]? with
          | none => rw [hb] at this; exact this.elim
          | some B => rw [List.getElem?_append_left (List.getElem?_eq_some_iff.1 hb).1, hb]; rw [hb] at this; exact this
      have hargs : RepL ρ1 X w1 (.itr s.h.length :: caps) ((Value.func (.yield l) #[] #[]) :: arr.toList) := ⟨⟨by rw [hn1], by rw [hn1]⟩, RepL_mono f1 ag1 _ _ hcaps⟩
      have hyok := round_okA (w1 := w1) ha hb hra hrb hcx rfl hn1 ⟨hlp.2.2.1, hlp.2.2.2.1, hlp.2.2.2.2⟩ hps' (by rw [hlp.2.1]; exact hsz)
      have hcalls := hiter ρ1 X w1 _ hr1 hargs hkp1 hyok
      have hvals : ((Value.func (.yield l) #[] #[]) :: arr.toList).toArray = #[.func (.yield l) #[] #[]] ++ arr := by apply Array.ext'; simp
      rw [hvals] at hcalls
      refine hcalls.mono ?_
      rintro e w2 ⟨val, h', ρ2, rfl, hK, ⟨f2, hr2⟩, hfx2, hkp2⟩
      obtain ⟨t, e', hbn, ⟨hwf1, hwf2⟩, hK⟩ := rcdK_inv hK
      have h2n : ρ2 s.h.length = ⟨true, l, 0, 0, 0, lp⟩ := (hfx2 _ List.mem_cons_self).trans hn1
      have hB := hr2.blk _ _ hbn
      simp only [RepB, h2n] at hB
      -- behind the iterator: the record is spent
      have fin : ∀ (j : Option Code) (rr : Loop), w2.heap[l]? = some (.loop rr) → rr.state ≠ .busy → rr.pending = j →
          (Instr.endLoop l).run P w2 = .ok j (w2.putObj l (.loop { rr with state := .exhausted })) ∧
          Good ρ0 X w0 cx.fx N ⟨e', h'.set s.h.length .dead, 0⟩ { a with defers := mark ++ a.defers } (w2.putObj l (.loop { rr with state := .exhausted })) := by
        intro j rr hrr hnb hj
        refine ⟨by rw [← hj]; exact run_endLoop hrr hnb, ?_⟩
        have hreal : (ρ2 s.h.length).real = true := by rw [h2n]
        have hblk : (ρ2 s.h.length).blk = l := by rw [h2n]
        have hf3 := putObj_fr (w := w2) (k := s.h.length) (ρ := ρ2) hreal (.loop { rr with state := .exhausted })
        have hr3 := rec_turn (t' := .gone) hr2 hbn hreal (o := .loop { rr with state := .exhausted }) (by
          rw [h2n]; exact ⟨⟨rfl, rfl, rfl⟩, _, World.putObj_heap_same (Array.getElem?_eq_some_iff.1 hrr).1⟩)
        rw [hblk] at hf3 hr3
        have hfx' : ∀ k ∈ cx.fx, k ≠ s.h.length := by
          intro k hk e
          have := keepP_get hkp k hk
          unfold liveP at this
          rw [e, List.getElem?_eq_none (Nat.le_refl _)] at this
          exact this
        have hkp3 : keepP cx.fx (h'.set s.h.length (.rcd .gone e')) := keepP_mono (keepP_mk fun k hk => keepP_get hkp2 k (List.mem_cons_of_mem _ hk)) (live_set (by simp))
        have hg3 : Good ρ0 X w0 cx.fx N ⟨e', h'.set s.h.length (.rcd .gone e'), 0⟩ { a with defers := mark ++ a.defers } (w2.putObj l (.loop { rr with state := .exhausted })) := by
          refine ⟨ρ2, ⟨⟨hf.trans (f1.trans (f2.trans hf3)), fun k hk => ?_⟩, hkp3⟩, ⟨hr3, ?_⟩, hsz, (hM1.fr f2).fr hf3⟩
          · rw [hfx2 k (List.mem_cons_of_mem _ hk), o1 k (hfx' k hk), hfx k hk]
          · have := RepE_mono hf3 (fun _ _ => rfl) hB.2
            rw [hlp.2.1] at this
            exact this
        refine hg3.leH (leH_dead _ _ _) ?_ hwf1 hwf2
        exact keepP_mk fun k hk => by
          have := keepP_get hkp3 k hk
          unfold liveP at this ⊢
          rw [List.getElem?_set_ne (Ne.symm (hfx' k hk))] at this ⊢
          exact this
      cases t with
      | ready =>
        obtain ⟨h1, h2⟩ := fin none _ hB.1.2 (by simp) rfl
        exact ⟨none, _, h1, hN _ _ _ hK h2⟩
      | out j =>
        cases j with
        | none =>
          obtain ⟨h1, h2⟩ := fin (some .ret) _ hB.1.2 (by simp) rfl
          exact ⟨some .ret, _, h1, wpIn_ret (hR _ _ _ hK h2)⟩
        | some j =>
          obtain ⟨h1, h2⟩ := fin (some (.exit j)) _ hB.1.2 (by simp) rfl
          exact ⟨some (.exit j), _, h1, wpIn_exit (hX _ _ _ _ hK h2)⟩
      | ghost => exact hK.elim
      | busy => exact hK.elim
      | gone => exact hK.elim
  · exact h.elim
theorem rfn_ok {g : Operand} {ps : Array Tmp} {asg body : Code} (ha : SndC P X N asg) (hb : SndC P X N body) : SndC P X N (.rangeFunc g ps asg body) := by
  intro l0 l hm r cx ρ0 w0 hcx hrd hro hy Q Nn Xx Rr hQo hN hX hR s a w h hg
  cases l0 with
  | rfn g' ps' la0 lb0 =>
    simp only [rlC] at hm
    split at hm
    · rename_i la lb hma hmb
      split at hm
      · rename_i hc
        simp only [Bool.and_eq_true] at hc
        simp only [Option.some.injEq] at hm
        subst hm
        obtain ⟨⟨hps, hcd⟩, hin⟩ := hc
        have hps' : ∀ p ∈ ps.toList, p < N := fun p hp => by simpa using List.all_eq_true.1 hps p hp
        exact rfn_okA (ha la0 la hma) (hb lb0 lb hmb) ⟨(by simpa using hcd : _ ∧ _).1, (by simpa using hin : _ ∧ _).1⟩ ⟨(by simpa using hcd : _ ∧ _).2, (by simpa using hin : _ ∧ _).2⟩ hps' r cx ρ0 w0 hcx (hrd.imp id fun _ => trivial) hro hy Q Nn Xx Rr hQo hN hX hR s a w h hg
      · cases hm
    · cases hm
  | _ => simp [rlC] at hm
end
end Go.Fx
