import Derived.Test.YtmddpcjkpbjkeaaFLow
import Derived.Test.YtmddpcjkpbjkeaaFxEval
import Derived.Test.YtmddpcjkpbjkeaaFxFn
set_option linter.unusedVariables false
set_option linter.unusedSimpArgs false
set_option linter.unusedSectionVars false
namespace Go.Fx.F
open Go Go.Fx Go.Proofs
structure Arc where
  from_ : Int
  to : Int
  cap : Int
  cost : Int
  deriving Inhabited
def Arc.enc (a : Arc) : List V := [.i a.from_, .i a.to, .i a.cap, .i a.cost]
def encI (x : Int) : List V := [.i x]
def encB (x : Bool) : List V := [.b x]
def net (n : Int) (arcs : List Arc) : V := .agg [.i n, .bro 4 (arcs.map Arc.enc)]
def li (l : List Int) : V := .bro 1 (l.map encI)
def lb (l : List Bool) : V := .bro 1 (l.map encB)
def cx0 : Cx := ⟨fun f xs h0 mv R => Callable Try.prog f ∧ Fn Try.prog f xs h0 mv R, [], []⟩
theorem cx0_ok : cx0.ok Try.prog := fun _ _ _ _ _ h => h
def Ok (f : FuncId) (xs : List V) (R : V → List Blk → Prop) : Prop := Callable Try.prog f ∧ Fn Try.prog f xs [] [] R

/-- A call of a function that hands back a number. -/
theorem call_is {bn : List Nat} {f : FuncId} {args : List V} {e : Env} {h : List Blk} {b : Nat} {K : V → St → Prop} {xs : List V} {x : V} (hC : Ok f xs (Is x)) (h1 : lendsOk h (fun _ => none) args ∧ wkL xs (lends h (fun _ => none) args))
    (hx : ren (fun j => some (h.length + j)) x = x) (h3 : K x ⟨e, h, b⟩) : callP ⟨cx0.C, [], bn⟩ f args ⟨e, h, b⟩ K := by
  refine callP_pure xs (Is x) h1 hC ?_
  rintro r h' ⟨rfl, rfl⟩
  simp only [List.map_nil, List.append_nil]
  exact ⟨trivial, by rw [hx]; exact h3⟩

theorem ok_of {f : FuncId} {l0 l : LCode} {rs : List LRes} {nt : Nat} (hl : rlF Try.prog f l0 = some (l, rs, nt)) {args : List V} {R : V → List Blk → Prop} (hlen : args.length ≤ nt)
    (h : aw cx0 l (retP [] 0 rs R) (fun _ _ => False) (retP [] 0 rs R) ⟨args0 0 args, [], 0⟩) : Ok f args R :=
  ⟨rlF_callable hl, Fn_rl pol cx0_ok hl hlen trivial (fun k hk => by simp at hk) h⟩

theorem enc_len (a : Arc) : a.enc.length = 4 := rfl
theorem enc_take (a : Arc) : List.take 4 a.enc = a.enc := rfl
theorem enc_0 (a : Arc) : a.enc[0]? = some (.i a.from_) := rfl
theorem enc_1 (a : Arc) : a.enc[1]? = some (.i a.to) := rfl
theorem enc_2 (a : Arc) : a.enc[2]? = some (.i a.cap) := rfl
theorem enc_3 (a : Arc) : a.enc[3]? = some (.i a.cost) := rfl
theorem enc_isC (a : Arc) : a.enc.all isC = true := rfl
theorem enc_isD (a : Arc) : a.enc.all isD = true := rfl
theorem encI_len (x : Int) : (encI x).length = 1 := rfl
theorem encI_0 (x : Int) : (encI x)[0]? = some (.i x) := rfl
theorem encI_drop (x : Int) : List.drop 1 (encI x) = [] := rfl
theorem keep0 (h : List Blk) : keepP cx0.fx h = True := by simp [cx0, keepP]
theorem cx0_bn : cx0.bn = [] := rfl
theorem cx0_fx : cx0.fx = [] := rfl
theorem encB_len (x : Bool) : (encB x).length = 1 := rfl
theorem encB_0 (x : Bool) : (encB x)[0]? = some (.b x) := rfl
/-- A result, and one block handed on as it was. -/
def IsH (x : V) (b0 : Blk) : V → List Blk → Prop := fun r h => r = x ∧ h = [b0]
theorem retP_isH {fx : List Nat} {n : Nat} {e : Env} {h : List Blk} {b : Nat} {rs : List LRes} {x : V} {b0 : Blk} : retP fx n rs (IsH x b0) ⟨e, h, b⟩ = resP h e rs [] fun xs => (leH h [b0] ∧ keepP fx [b0] ∧ n ≤ 1 ∧ wfV [b0] (tupV xs) ∧ wfB [b0] [b0]) ∧ tupV xs = x := by
  rw [retP_eq]
  congr 1
  funext xs
  apply propext
  constructor
  · rintro ⟨p, h1, h2, rfl⟩
    exact ⟨h1, h2⟩
  · rintro ⟨h1, h2⟩
    exact ⟨[b0], h1, h2, rfl⟩

/-- A result, and new blocks. -/
def IsA (x : V) (h0 : List Blk) : V → List Blk → Prop := fun r h => r = x ∧ h = h0
theorem retP_isA {fx : List Nat} {n : Nat} {e : Env} {h : List Blk} {b : Nat} {rs : List LRes} {x : V} {h0 : List Blk} : retP fx n rs (IsA x h0) ⟨e, h, b⟩ = resP h e rs [] fun xs => (leH h h0 ∧ keepP fx h0 ∧ n ≤ h0.length ∧ wfV h0 (tupV xs) ∧ wfB h0 h0) ∧ tupV xs = x := by
  rw [retP_eq]
  congr 1
  funext xs
  apply propext
  constructor
  · rintro ⟨p, h1, h2, rfl⟩
    exact ⟨h1, h2⟩
  · rintro ⟨h1, h2⟩
    exact ⟨h0, h1, h2, rfl⟩
theorem call_isA {bn : List Nat} {f : FuncId} {args : List V} {e : Env} {h : List Blk} {b : Nat} {K : V → St → Prop} (xs : List V) (x x' : V) (h0 h0' : List Blk) (hC : Ok f xs (IsA x h0)) (h1 : lendsOk h (fun _ => none) args ∧ wkL xs (lends h (fun _ => none) args))
    (hx : ren (fun j => some (h.length + j)) x = x') (hh : h0.map (renB (fun j => some (h.length + j))) = h0') (h3 : K x' ⟨e, h ++ h0', b⟩) : callP ⟨cx0.C, [], bn⟩ f args ⟨e, h, b⟩ K := by
  refine callP_pure xs (IsA x h0) h1 hC ?_
  rintro r h' ⟨rfl, rfl⟩
  rw [hx, hh]
  exact ⟨trivial, h3⟩

/-- A call that lends one block. -/
theorem call_isH {cx : Cx} {f : FuncId} {args : List V} {e : Env} {h : List Blk} {b : Nat} {K : V → St → Prop} (xs : List V) (x : V) (k : Nat) (b1 b0 : Blk) (hC : cx.C f xs [b0] [] (IsH x b0)) (hk : h[k]? = some b1 ∧ k ∉ cx.bn)
    (r1 : renB (pos [k]) b1 = b0) (r2 : renB (back [k] h.length) b0 = b0) (h1 : lendsOk h (pos [k]) args ∧ wkL xs (lends h (pos [k]) args))
    (hx : ren (back [k] h.length) x = x) (keep : keepP cx.fx (h.set k b0)) (h3 : K x ⟨e, h.set k b0, b⟩) : callP cx f args ⟨e, h, b⟩ K := by
  have hlt : k < h.length := by
    have := hk.1
    rw [List.getElem?_eq_some_iff] at this
    exact this.1
  have hbk : blk h k = b1 := by simp [blk, List.getD_eq_getElem?_getD, hk.1]
  have hkb : ∀ l : List Blk, l.map (killB []) = l := killB_nil
  refine ⟨[k], xs, [], IsH x b0, ⟨⟨by simp, by simpa using ⟨hlt, hk.2⟩⟩, by simp⟩, h1.1, h1.2, ?_, ?_⟩
  · simp only [List.map_cons, List.map_nil, hbk, r1]; exact hC
  · rintro r h' ⟨rfl, rfl⟩ _
    simp only [List.filterMap_nil, hkb, killE_nil, List.map_cons, List.map_nil, r2, setAll, List.append_nil, hx]
    exact ⟨keep, h3⟩
end Go.Fx.F
