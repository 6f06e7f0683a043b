import Derived.Test.YtmddpcjkpbjkeaaFxHeap
import Derived.Maps.RangeRun
set_option linter.unusedVariables false
set_option linter.unusedSimpArgs false
set_option linter.unusedSectionVars false
namespace Go.Fx
open Go.RowKit Go.MapKept

section
variable {ρ ρ' : Nat → Loc} {X : Nat → Prop} {w w' : World} {P : Program}

/-- A map's entries, and what the state says of them. -/
def RepM (ρ : Nat → Loc) (X : Nat → Prop) (w : World) : List (Value × V × Nat) → List MapEntry → Prop
  | [], [] => True
  | a :: r, e :: l => ((e.key = a.1 ∧ e.born = a.2.2) ∧ RepV ρ X w a.2.1 e.val) ∧ RepM ρ X w r l
  | _, _ => False

theorem repM_of : ∀ {es : List (Value × V × Nat)} {l : List MapEntry}, l.map (fun e => (e.key, e.born)) = es.map (fun e => (e.1, e.2.2)) → RepL ρ X w (es.map (·.2.1)) (l.map (·.val)) → RepM ρ X w es l
  | [], [], _, _ => trivial
  | a :: r, e :: l, h, hl => by
    simp only [List.map_cons, List.cons.injEq, Prod.mk.injEq] at h
    exact ⟨⟨⟨h.1.1, h.1.2⟩, hl.1⟩, repM_of h.2 hl.2⟩
  | [], _ :: _, h, _ => by simp at h
  | _ :: _, [], h, _ => by simp at h
theorem repM_to : ∀ {es : List (Value × V × Nat)} {l : List MapEntry}, RepM ρ X w es l → l.map (fun e => (e.key, e.born)) = es.map (fun e => (e.1, e.2.2)) ∧ RepL ρ X w (es.map (·.2.1)) (l.map (·.val))
  | [], [], _ => ⟨rfl, trivial⟩
  | a :: r, e :: l, h => by
    obtain ⟨h1, h2⟩ := repM_to h.2
    exact ⟨by simp [h.1.1.1, h.1.1.2, h1], h.1.2, h2⟩
  | [], _ :: _, h => h.elim
  | _ :: _, [], h => h.elim
theorem repM_mono (hf : Fr ρ w ρ' w') (hag : ∀ k, (ρ k).real = true → ρ' k = ρ k) : ∀ {es : List (Value × V × Nat)} {l : List MapEntry}, RepM ρ X w es l → RepM ρ' X w' es l
  | [], [], _ => trivial
  | a :: r, e :: l, h => ⟨⟨h.1.1, RepV_mono hf hag _ _ h.1.2⟩, repM_mono hf hag h.2⟩
  | [], _ :: _, h => h.elim
  | _ :: _, [], h => h.elim
theorem repM_len : ∀ {es : List (Value × V × Nat)} {l : List MapEntry}, RepM ρ X w es l → es.length = l.length
  | [], [], _ => rfl
  | a :: r, e :: l, h => by simp [repM_len h.2]
  | [], _ :: _, h => h.elim
  | _ :: _, [], h => h.elim
theorem repM_mem : ∀ {es : List (Value × V × Nat)} {l : List MapEntry}, RepM ρ X w es l → ∀ e ∈ l, ∃ a ∈ es, (e.key = a.1 ∧ e.born = a.2.2) ∧ RepV ρ X w a.2.1 e.val
  | a :: r, e :: l, h, e', he => by
    rcases List.mem_cons.1 he with rfl | he
    · exact ⟨a, by simp, h.1⟩
    · obtain ⟨b, hb, h'⟩ := repM_mem h.2 e' he
      exact ⟨b, by simp [hb], h'⟩
  | [], [], _, _, he => by simp at he
  | [], _ :: _, h, _, _ => h.elim
  | _ :: _, [], h, _, _ => h.elim
theorem repM_mem' : ∀ {es : List (Value × V × Nat)} {l : List MapEntry}, RepM ρ X w es l → ∀ a ∈ es, ∃ e ∈ l, (e.key = a.1 ∧ e.born = a.2.2) ∧ RepV ρ X w a.2.1 e.val
  | a :: r, e :: l, h, a', he => by
    rcases List.mem_cons.1 he with rfl | he
    · exact ⟨e, by simp, h.1⟩
    · obtain ⟨b, hb, h'⟩ := repM_mem' h.2 a' he
      exact ⟨b, by simp [hb], h'⟩
  | [], [], _, _, he => by simp at he
  | [], _ :: _, h, _, _ => h.elim
  | _ :: _, [], h, _, _ => h.elim
theorem repM_set {x : V} {val : Value} (hx : RepV ρ X w x val) : ∀ {es : List (Value × V × Nat)} {l : List MapEntry}, RepM ρ X w es l → ∀ (key : Value) (j : Nat), RepM ρ X w (es.modify j fun a => (key, x, a.2.2)) (l.modify j fun e => { e with key := key, val := val })
  | [], [], _, _, _ => by simp [RepM]
  | a :: r, e :: l, h, key, 0 => ⟨⟨⟨rfl, h.1.1.2⟩, hx⟩, h.2⟩
  | a :: r, e :: l, h, key, j + 1 => ⟨h.1, repM_set hx h.2 key j⟩
  | [], _ :: _, h, _, _ => h.elim
  | _ :: _, [], h, _, _ => h.elim
theorem repM_snoc {x : V} {val key : Value} {b : Nat} (hx : RepV ρ X w x val) : ∀ {es : List (Value × V × Nat)} {l : List MapEntry}, RepM ρ X w es l → RepM ρ X w (es ++ [(key, x, b)]) (l ++ [⟨key, val, b⟩])
  | [], [], _ => ⟨⟨⟨rfl, rfl⟩, hx⟩, trivial⟩
  | a :: r, e :: l, h => ⟨h.1, repM_snoc hx h.2⟩
  | [], _ :: _, h => h.elim
  | _ :: _, [], h => h.elim
theorem repM_erase : ∀ {es : List (Value × V × Nat)} {l : List MapEntry}, RepM ρ X w es l → ∀ (j : Nat), RepM ρ X w (es.eraseIdx j) (l.eraseIdx j)
  | [], [], _, _ => by simp [RepM]
  | a :: r, e :: l, h, 0 => h.2
  | a :: r, e :: l, h, j + 1 => ⟨h.1, repM_erase h.2 j⟩
  | [], _ :: _, h, _ => h.elim
  | _ :: _, [], h, _ => h.elim

theorem sameNow_eq {d : TypeDesc} {a b : Value} (h : Instr.sameNow d a b = some true) : a = b := by
  unfold Instr.sameNow at h
  split at h
  · split at h
    · rename_i hk
      subst hk
      simpa using h
    · cases h
  · simpa [bytes_beq] using h
  · simpa using h
  · cases h

/-- What the state finds, the run finds. -/
theorem mfind_run {kd : TypeDesc} {key : Value} : ∀ {es : List (Value × V × Nat)} {l : List MapEntry} {i : Nat} {r : Option (Nat × V)}, RepM ρ X w es l → mfind kd key es i = some r →
    (r = none ∧ Instr.findNow kd key l i = some none) ∨ ∃ j x val e, r = some (i + j, x) ∧ Instr.findNow kd key l i = some (some (i + j, val)) ∧ RepV ρ X w x val ∧ l[j]? = some e ∧ e.key = key
  | [], [], i, r, _, h => by
    simp only [mfind, Option.some.injEq] at h
    exact .inl ⟨h.symm, rfl⟩
  | a :: es, e :: l, i, r, hr, h => by
    simp only [mfind] at h
    rw [← hr.1.1.1] at h
    cases hs : Instr.sameNow kd key e.key with
    | none => rw [hs] at h; cases h
    | some b =>
      rw [hs] at h
      cases b with
      | true =>
        simp only [Option.some.injEq] at h
        subst h
        exact .inr ⟨0, a.2.1, e.val, e, rfl, by simp [Instr.findNow, hs], hr.1.2, rfl, (sameNow_eq hs).symm⟩
      | false =>
        rcases mfind_run hr.2 h with ⟨h1, h2⟩ | ⟨j, x, val, e', h1, h2, h3, h4, h5⟩
        · exact .inl ⟨h1, by simp [Instr.findNow, hs, h2]⟩
        · exact .inr ⟨j + 1, x, val, e', by rw [h1]; congr 2; omega, by simp [Instr.findNow, hs, h2]; omega, h3, by simpa using h4, h5⟩
  | [], _ :: _, _, _, hr, _ => hr.elim
  | _ :: _, [], _, _, hr, _ => hr.elim

/-- An own map's block. -/
theorem map_blk {h : List Blk} (hr : Rep ρ X w h) {x : V} {val : Value} {K : Nat → List (Value × V × Nat) → Nat → Prop} (hx : RepV ρ X w x val) (hk : mapK h x K) :
    ∃ k es c arr, x = .mp k ∧ K k es c ∧ (ρ k).real = true ∧ (ρ k).off = 0 ∧ (ρ k).sz = 0 ∧ h[k]? = some (.map es c) ∧ val = .map (some (ρ k).blk) ∧ w.heap[(ρ k).blk]? = some (.map arr c) ∧ RepM ρ X w es arr.toList := by
  unfold mapK at hk
  split at hk
  · rename_i k
    unfold blk at hk
    rw [List.getD_eq_getElem?_getD] at hk
    cases hb : h[k]? with
    | none => simp [hb, mapB] at hk
    | some B =>
      rw [hb] at hk
      cases B with
      | map es c =>
        obtain ⟨⟨h1, h2, h3⟩, arr, h4, h5, h6⟩ := hr.blk k _ hb
        exact ⟨k, es, c, arr, rfl, hk, h1, h2, h3, hb, hx.2, h4, repM_of h5 h6⟩
      | _ => exact hk.elim
  · exact hk.elim

/-- A new block of whatever kind. -/
theorem new_obj {h : List Blk} (hr : Rep ρ X w h) {k : Nat} (hk : freshP h k) {o : Obj} {B : Blk} (hm : Made w w' o) (hB : ∀ ρ', Fr ρ w ρ' w' → (∀ j, (ρ j).real = true → ρ' j = ρ j) → ρ' k = ⟨true, w.heap.size, 0, 0, 0⟩ → RepB ρ' X w' k B) :
    ∃ ρ', Fr ρ w ρ' w' ∧ (∀ j, (ρ j).real = true → ρ' j = ρ j) ∧ ((∀ j, j ≠ k → ρ' j = ρ j) ∧ ∀ j, (ρ j).real = true → w'.heap[(ρ j).blk]? = w.heap[(ρ j).blk]?) ∧ Rep ρ' X w' (h.set k B) ∧ ρ' k = ⟨true, w.heap.size, 0, 0, 0⟩ := by
  have hk' : h[k]? = some .dead := freshP_inv hk
  have hkr : (ρ k).real = false := hr.blk k _ hk'
  have hf : Fr ρ w (upd ρ k ⟨true, w.heap.size, 0, 0, 0⟩) w' := new_fr hm (k := k) rfl
  have hag := new_ag hkr ⟨true, w.heap.size, 0, 0, 0⟩
  exact ⟨upd ρ k ⟨true, w.heap.size, 0, 0, 0⟩, hf, hag, ⟨fun j hj => upd_other _ _ hj, fun j hj => hm.old (hr.lt j hj)⟩, new_rep hr hm hk' rfl (hB _ hf hag (upd_same _ _ _)), upd_same _ _ _⟩

/-- A block is turned. -/
theorem turn_fr {k : Nat} (hk : (ρ k).real = true) (o : Obj) (h1 : w'.os = w.os) (h2 : w'.tape = w.tape) (h3 : w'.output = w.output) (h4 : w'.heap = w.heap.setIfInBounds (ρ k).blk o) : Fr ρ w ρ w' where
  os := h1
  tape := h2
  output := h3
  size := by rw [h4]; simp
  keep b hb ho := ⟨by
    rw [h4, Array.getElem?_setIfInBounds_ne]
    intro e
    exact ho ⟨k, hk, e⟩, ho⟩

theorem turn_other {h : List Blk} (hr : Rep ρ X w h) {k : Nat} (hk : (ρ k).real = true) {o : Obj} (h4 : w'.heap = w.heap.setIfInBounds (ρ k).blk o) (j : Nat) (hj : j ≠ k) (hjr : (ρ j).real = true) : w'.heap[(ρ j).blk]? = w.heap[(ρ j).blk]? := by
  rw [h4, Array.getElem?_setIfInBounds_ne]
  exact hr.inj k j (Ne.symm hj) hk hjr

theorem turn_rep {h : List Blk} (hr : Rep ρ X w h) {k : Nat} (hk : (ρ k).real = true) {o : Obj} (hf : Fr ρ w ρ w') (h4 : w'.heap = w.heap.setIfInBounds (ρ k).blk o) {B : Blk} (hB : RepB ρ X w' k B) : Rep ρ X w' (h.set k B) := by
  refine ⟨hr.inj, fun j hj => hr.out j (by simpa using hj), ?_, hr.disj, fun j hj => Nat.lt_of_lt_of_le (hr.lt j hj) hf.size, fun b hb => Nat.lt_of_lt_of_le (hr.xlt b hb) hf.size⟩
  intro j B' hB'
  by_cases h1 : j = k
  · subst h1
    have hl : j < h.length := by
      have := (List.getElem?_eq_some_iff.1 hB').1
      simpa using this
    rw [List.getElem?_set_self hl] at hB'
    simp only [Option.some.injEq] at hB'
    subst hB'
    exact hB
  · rw [List.getElem?_set_ne (Ne.symm h1)] at hB'
    exact RepB_mono hf (fun _ _ => rfl) rfl (fun hjr => turn_other hr hk h4 j h1 hjr) (hr.blk j B' hB')

/-- The iterator's block. -/
theorem it_blk {h : List Blk} (hr : Rep ρ X w h) {x : V} {val : Value} {K : Nat → V → Nat → List Nat → Nat → Prop} (hx : RepV ρ X w x val) (hk : itK h x K) :
    ∃ k m since seen last bm, x = .ptr k 0 0 ∧ K k m since seen last ∧ (ρ k).real = true ∧ (ρ k).off = 0 ∧ (ρ k).sz = 0 ∧ val = .pointer (some ⟨(ρ k).blk, 0, none⟩) ∧ w.heap[(ρ k).blk]? = some (.mapIter bm since seen.toArray last) ∧ RepV ρ X w m (.map bm) := by
  unfold itK at hk
  split at hk
  · rename_i k
    unfold blk at hk
    rw [List.getD_eq_getElem?_getD] at hk
    cases hb : h[k]? with
    | none => simp [hb, itB] at hk
    | some B =>
      rw [hb] at hk
      cases B with
      | it m since seen last =>
        obtain ⟨⟨h1, h2, h3⟩, bm, h4, h5⟩ := hr.blk k _ hb
        refine ⟨k, m, since, seen, last, bm, rfl, hk, h1, h2, h3, ?_, h4, h5⟩
        have := hx.2
        rw [h2, h3] at this
        simpa using this
      | _ => exact hk.elim
  · exact hk.elim

theorem keyK_inv {kd : TypeDesc} {x : V} {K : Value → Prop} (h : keyK kd x K) : ∃ key, x = .v key ∧ IsKey kd key ∧ K key := by
  unfold keyK at h
  split at h
  · exact ⟨_, rfl, isKey_of h.1, h.2⟩
  · exact h.elim

theorem lookup_run {t kt e : TypeId} {kd : TypeDesc} {z : Value} {ok : Bool} {inf : TypeInfo} {b c : Nat} {arr : Array MapEntry} {key : Value} {es : List (Value × V × Nat)} {K : V → Prop} (ht : P.underlying t = some (.map kt e)) (hkt : P.underlying kt = some kd)
    (hi : P.info? e = some inf) (hz : inf.zero = some z) (hkey : IsKey kd key) (hb : w.heap[b]? = some (.map arr c)) (hr : RepM ρ X w es arr.toList) (h : lookK (mfind kd key es 0) z ok K) :
    ∃ x val, K x ∧ RepV ρ X w x val ∧ (Instr.lookup t (.map (some b)) key ok).run P w = .ok val w := by
  cases hm : mfind kd key es 0 with
  | none => rw [hm] at h; exact h.elim
  | some r =>
    rw [hm] at h
    rcases mfind_run hr hm with ⟨rfl, h2⟩ | ⟨j, x, val, en, rfl, h2, h3, h4, h5⟩
    · simp only [lookK] at h
      cases ok with
      | true => exact ⟨_, .tuple #[z, .bool false], h, ⟨_, rfl, ofConst_rep z, rfl, trivial⟩, by simp [Instr.lookup, run_underlying ht, MapKept.run_getObj_map hb, run_checkKey hkt hkey, run_findKey hkt h2, zeroValue, typeInfo, hi, hz]⟩
      | false => exact ⟨_, z, h, ofConst_rep z, by simp [Instr.lookup, run_underlying ht, MapKept.run_getObj_map hb, run_checkKey hkt hkey, run_findKey hkt h2, zeroValue, typeInfo, hi, hz]⟩
    · simp only [lookK] at h
      cases ok with
      | true => exact ⟨_, .tuple #[val, .bool true], h, ⟨_, rfl, h3, rfl, trivial⟩, by simp [Instr.lookup, run_underlying ht, MapKept.run_getObj_map hb, run_checkKey hkt hkey, run_findKey hkt h2]⟩
      | false => exact ⟨_, val, h, h3, by simp [Instr.lookup, run_underlying ht, MapKept.run_getObj_map hb, run_checkKey hkt hkey, run_findKey hkt h2]⟩

theorem lookup_nil {t kt e : TypeId} {kd : TypeDesc} {z : Value} {ok : Bool} {inf : TypeInfo} {key : Value} {K : V → Prop} (ht : P.underlying t = some (.map kt e)) (hkt : P.underlying kt = some kd)
    (hi : P.info? e = some inf) (hz : inf.zero = some z) (hkey : IsKey kd key) (h : lookK (some none) z ok K) :
    ∃ x val, K x ∧ RepV ρ X w x val ∧ (Instr.lookup t (.map none) key ok).run P w = .ok val w := by
  have h2 : Instr.findNow kd key [] 0 = some none := rfl
  simp only [lookK] at h
  cases ok with
  | true => exact ⟨_, .tuple #[z, .bool false], h, ⟨_, rfl, ofConst_rep z, rfl, trivial⟩, by simp [Instr.lookup, run_underlying ht, run_checkKey hkt hkey, run_findKey hkt h2, zeroValue, typeInfo, hi, hz]⟩
  | false => exact ⟨_, z, h, ofConst_rep z, by simp [Instr.lookup, run_underlying ht, run_checkKey hkt hkey, run_findKey hkt h2, zeroValue, typeInfo, hi, hz]⟩

/-- A map's block is turned. -/
theorem map_turn {h : List Blk} (hr : Rep ρ X w h) {k : Nat} (hk : (ρ k).real = true) (ho : (ρ k).off = 0) (hs : (ρ k).sz = 0) {arr arr' : Array MapEntry} {c c' : Nat} {es' : List (Value × V × Nat)} (hb : w.heap[(ρ k).blk]? = some (.map arr c)) (hm : RepM ρ X w es' arr'.toList) :
    Fr ρ w ρ { w with heap := w.heap.setIfInBounds (ρ k).blk (.map arr' c') } ∧ Rep ρ X { w with heap := w.heap.setIfInBounds (ρ k).blk (.map arr' c') } (h.set k (.map es' c')) ∧
      ∀ j, j ≠ k → (ρ j).real = true → (w.heap.setIfInBounds (ρ k).blk (.map arr' c'))[(ρ j).blk]? = w.heap[(ρ j).blk]? := by
  have hf : Fr ρ w ρ { w with heap := w.heap.setIfInBounds (ρ k).blk (.map arr' c') } := turn_fr hk (.map arr' c') rfl rfl rfl rfl
  refine ⟨hf, turn_rep hr hk hf rfl ?_, fun j hj hjr => turn_other (w' := { w with heap := w.heap.setIfInBounds (ρ k).blk (.map arr' c') }) hr hk rfl j hj hjr⟩
  obtain ⟨g1, g2⟩ := repM_to (repM_mono hf (fun _ _ => rfl) hm)
  exact ⟨⟨hk, ho, hs⟩, arr', (heap_set hb).1, g1, g2⟩

theorem toList_modify {l : List MapEntry} {arr : Array MapEntry} (h : arr.toList = l) (j : Nat) (f : MapEntry → MapEntry) : (arr.modify j f).toList = l.modify j f := by
  subst h
  apply List.ext_getElem?
  intro i
  simp [List.getElem?_modify, Array.getElem?_modify]

theorem mset_run {t kt e : TypeId} {kd : TypeDesc} {h : List Blk} {k c : Nat} {arr : Array MapEntry} {key val : Value} {x : V} {es : List (Value × V × Nat)} {K : Blk → Prop} (hr : Rep ρ X w h) (ht : P.underlying t = some (.map kt e)) (hkt : P.underlying kt = some kd)
    (hkey : IsKey kd key) (hk : (ρ k).real = true) (ho : (ρ k).off = 0) (hs : (ρ k).sz = 0) (hb : w.heap[(ρ k).blk]? = some (.map arr c)) (hm : RepM ρ X w es arr.toList) (hx : RepV ρ X w x val) (hK : msetK (mfind kd key es 0) key x es c K) :
    ∃ B w', K B ∧ B ≠ .dead ∧ Fr ρ w ρ w' ∧ Rep ρ X w' (h.set k B) ∧ (∀ j, j ≠ k → (ρ j).real = true → w'.heap[(ρ j).blk]? = w.heap[(ρ j).blk]?) ∧ (Instr.mapUpdate t (.map (some (ρ k).blk)) key val).run P w = .ok () w' := by
  cases hf : mfind kd key es 0 with
  | none => rw [hf] at hK; exact hK.elim
  | some r =>
    rw [hf] at hK
    rcases mfind_run hm hf with ⟨rfl, h2⟩ | ⟨j, y, val', en, rfl, h2, h3, h4, h5⟩
    · simp only [msetK] at hK
      obtain ⟨g1, g2, g3⟩ := map_turn (arr' := arr.push ⟨key, val, c⟩) (c' := c + 1) hr hk ho hs hb (by rw [Array.toList_push]; exact repM_snoc hx hm)
      exact ⟨_, _, hK, by simp, g1, g2, g3, by simp [Instr.mapUpdate, run_underlying ht, MapKept.run_getObj_map hb, run_checkKey hkt hkey, run_findKey hkt h2, MapKept.run_setObj_map _ hb]⟩
    · simp only [msetK] at hK
      rw [Nat.zero_add] at hK h2
      obtain ⟨g1, g2, g3⟩ := map_turn (arr' := arr.modify j fun e => { e with key := key, val := val }) (c' := c) hr hk ho hs hb (by rw [toList_modify rfl]; exact repM_set hx hm key j)
      have hj : arr[j]? = some en := by simpa using h4
      exact ⟨_, _, hK, by simp, g1, g2, g3, by simp [Instr.mapUpdate, run_underlying ht, MapKept.run_getObj_map hb, run_checkKey hkt hkey, run_findKey hkt h2, hj, h5, run_keyThatStays hkey, MapKept.run_setObj_map _ hb]⟩

theorem toList_erase {arr : Array MapEntry} (j : Nat) (hj : j < arr.size) : (arr.eraseIdxIfInBounds j).toList = arr.toList.eraseIdx j := by
  unfold Array.eraseIdxIfInBounds
  rw [dif_pos hj, Array.toList_eraseIdx]

theorem mdel_run {t kt e ty : TypeId} {kd : TypeDesc} {h : List Blk} {k c : Nat} {arr : Array MapEntry} {key : Value} {es : List (Value × V × Nat)} {K : Blk → Prop} {ts : List TypeId} (hr : Rep ρ X w h) (ht : P.underlying t = some (.map kt e)) (hkt : P.underlying kt = some kd)
    (hkey : IsKey kd key) (hk : (ρ k).real = true) (ho : (ρ k).off = 0) (hs : (ρ k).sz = 0) (hb : w.heap[(ρ k).blk]? = some (.map arr c)) (hm : RepM ρ X w es arr.toList) (hK : mdelK (mfind kd key es 0) es c K) :
    ∃ B w', K B ∧ B ≠ .dead ∧ Fr ρ w ρ w' ∧ Rep ρ X w' (h.set k B) ∧ (∀ j, j ≠ k → (ρ j).real = true → w'.heap[(ρ j).blk]? = w.heap[(ρ j).blk]?) ∧ (Builtin.delete_ (t :: ts).toArray ty #[.map (some (ρ k).blk), key]).run P w = .ok (.tuple #[]) w' := by
  cases hf : mfind kd key es 0 with
  | none => rw [hf] at hK; exact hK.elim
  | some r =>
    rw [hf] at hK
    rcases mfind_run hm hf with ⟨rfl, h2⟩ | ⟨j, y, val', en, rfl, h2, h3, h4, h5⟩
    · simp only [mdelK] at hK
      obtain ⟨g1, g2, g3⟩ := map_turn (arr' := arr) (c' := c) hr hk ho hs hb hm
      exact ⟨_, _, hK, by simp, g1, g2, g3, by simp [Builtin.delete_, run_underlying ht, MapKept.run_getObj_map hb, run_checkKey hkt hkey, run_findKey hkt h2, MapKept.run_setObj_map _ hb]⟩
    · simp only [mdelK] at hK
      rw [Nat.zero_add] at hK h2
      have hj : j < arr.size := by simpa using (List.getElem?_eq_some_iff.1 h4).1
      obtain ⟨g1, g2, g3⟩ := map_turn (arr' := arr.eraseIdxIfInBounds j) (c' := c) hr hk ho hs hb (by rw [toList_erase j hj]; exact repM_erase hm j)
      exact ⟨_, _, hK, by simp, g1, g2, g3, by simp [Builtin.delete_, run_underlying ht, MapKept.run_getObj_map hb, run_checkKey hkt hkey, run_findKey hkt h2, MapKept.run_setObj_map _ hb]⟩

theorem next_run {h : List Blk} {k since last c bm : Nat} {ty : TypeId} {seen : List Nat} {es : List (Value × V × Nat)} {arr : Array MapEntry} {m : V} {D : Prop} {K : Value → V → Nat → Prop} (hr : Rep ρ X w h) (hk : (ρ k).real = true) (ho : (ρ k).off = 0) (hs : (ρ k).sz = 0)
    (hit : w.heap[(ρ k).blk]? = some (.mapIter (some bm) since seen.toArray last)) (hmv : RepV ρ X w m (.map (some bm))) (hb : w.heap[bm]? = some (.map arr c)) (hm : RepM ρ X w es arr.toList) (hK : nextK es since seen last D K) :
    (D ∧ (Instr.next (.pointer (some ⟨(ρ k).blk, 0, none⟩)) false ty).run P w = .ok (.tuple #[.bool false]) w) ∨
    ∃ key x born w' val, K key x born ∧ Fr ρ w ρ w' ∧ Rep ρ X w' (h.set k (.it m since (seen ++ [born]) c)) ∧ (∀ j, j ≠ k → (ρ j).real = true → w'.heap[(ρ j).blk]? = w.heap[(ρ j).blk]?) ∧ RepV ρ X w' x val ∧
      (Instr.next (.pointer (some ⟨(ρ k).blk, 0, none⟩)) false ty).run P w = .ok (.tuple #[.bool true, key, val]) w' := by
  obtain ⟨⟨h1, h2⟩, h3, h4⟩ := hK
  have hold : ∀ x ∈ arr.toList, x.born < since := by
    intro e he
    obtain ⟨a, ha, ⟨_, g2⟩, _⟩ := repM_mem hm e he
    rw [g2]
    simpa using List.all_eq_true.1 h1 a ha
  rcases run_next_at w ty (ρ k).blk bm since last seen.toArray arr c hit hb hold h2 with ⟨g1, g2⟩ | ⟨e, he, w1, hw1, g2⟩
  · refine .inl ⟨h3 ?_, g2⟩
    rw [List.all_eq_true]
    intro a ha
    obtain ⟨e, he, ⟨_, g4⟩, _⟩ := repM_mem' hm a ha
    have hemp : leftOf arr seen.toArray = #[] := Array.eq_empty_of_size_eq_zero g1
    unfold leftOf at hemp
    rw [Array.filter_eq_empty_iff] at hemp
    have := hemp e (by simpa using he)
    rw [g4] at this
    simpa using this
  · obtain ⟨g3, g4⟩ := mem_left he
    obtain ⟨a, ha, ⟨g5, g6⟩, g7⟩ := repM_mem hm e g3
    have hheap : (ChangeMaps.setBlock w1 (ρ k).blk (.mapIter (some bm) since (seen.toArray.push e.born) c)).heap = w.heap.setIfInBounds (ρ k).blk (.mapIter (some bm) since (seen.toArray.push e.born) c) := by
      rcases hw1 with rfl | rfl <;> rfl
    have hf : Fr ρ w ρ (ChangeMaps.setBlock w1 (ρ k).blk (.mapIter (some bm) since (seen.toArray.push e.born) c)) := by
      refine turn_fr hk _ ?_ ?_ ?_ hheap <;> (rcases hw1 with rfl | rfl <;> rfl)
    refine .inr ⟨a.1, a.2.1, a.2.2, _, e.val, h4 a ha ?_, hf, turn_rep hr hk hf hheap ?_, fun j hj hjr => turn_other hr hk hheap j hj hjr, RepV_mono hf (fun _ _ => rfl) _ _ g7, by rw [g2, g5]⟩
    · rw [← g6]; simpa using g4
    · refine ⟨⟨hk, ho, hs⟩, some bm, ?_, RepV_mono hf (fun _ _ => rfl) _ _ hmv⟩
      rw [hheap, (heap_set hit).1, g6]
      simp

theorem find_run : ∀ {es : List (Value × V × Nat)} {l : List MapEntry}, RepM ρ X w es l → ∀ (st : Nat) {a : Value × V × Nat}, es.find? (fun e => e.2.2 == st) = some a → ∃ e, l.find? (·.born == st) = some e ∧ e.key = a.1 ∧ RepV ρ X w a.2.1 e.val
  | a :: r, e :: l, h, st, a', hf => by
    simp only [List.find?_cons] at hf ⊢
    rw [h.1.1.2]
    split at hf
    · simp only [Option.some.injEq] at hf
      subst hf
      exact ⟨e, by rename_i hh; simp [hh], h.1.1.1, h.1.2⟩
    · rename_i hh
      obtain ⟨e', h1, h2⟩ := find_run h.2 st hf
      exact ⟨e', by simp [hh, h1], h2⟩
  | [], [], _, _, _, hf => by simp at hf
  | [], _ :: _, h, _, _, _ => h.elim
  | _ :: _, [], h, _, _, _ => h.elim

theorem entry_run {b since last c bm : Nat} {seen : List Nat} {es : List (Value × V × Nat)} {arr : Array MapEntry} {K : V → Prop}
    (hit : w.heap[b]? = some (.mapIter (some bm) since seen.toArray last)) (hb : w.heap[bm]? = some (.map arr c)) (hm : RepM ρ X w es arr.toList) (hlast : last = c) (hK : optK seen.getLast? fun st => entK (es.find? fun e => e.2.2 == st) K) :
    ∃ x val, K x ∧ RepV ρ X w x val ∧ (Instr.entry (.pointer (some ⟨b, 0, none⟩))).run P w = .ok val w := by
  subst hlast
  cases hl : seen.getLast? with
  | none => rw [hl] at hK; exact hK.elim
  | some st =>
    rw [hl] at hK
    simp only [optK] at hK
    cases hf : es.find? (fun e => e.2.2 == st) with
    | none => rw [hf] at hK; exact hK.elim
    | some a =>
      rw [hf] at hK
      obtain ⟨e, h1, h2, h3⟩ := find_run hm st hf
      have h1' : arr.find? (fun x => x.born == st) = some e := by rw [← Array.find?_toList]; exact h1
      have hbk : seen.toArray.back? = some st := by rw [← hl]; simp
      refine ⟨_, .tuple #[e.key, e.val], hK, ⟨_, rfl, h2, h3, trivial⟩, ?_⟩
      simp only [Instr.entry, getObj, Sem.run_bind, Sem.run, hit, hb, Result.andThen, hbk, bne_self_eq_false, Bool.false_eq_true, if_false, h1']
      rfl

end
end Go.Fx
