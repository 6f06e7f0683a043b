import Derived.Test.YtcchjpjkhaomeaaT31
import Derived.Test.YtcchjpjkhaomeaaFxRunSound
set_option linter.unusedVariables false
set_option linter.unusedSimpArgs false
set_option linter.unusedSectionVars false
namespace Go.Fx.W
open Go Go.Fx Go.Proofs
set_option maxRecDepth 100000
theorem tblOk : okL Try.prog 0 tbl := ⟨lw9,lw10,lw14,lw15,lw16,lw18,lw21,lw24,lw30,lw31,lw32,lw37,lw38,lw40,lw41,lw42,lw44,lw45,lw46,lw49,lw50,lw52,lw53,lw54,lw55,lw56,lw57,lw59,lw64,lw65,lw67,lw68,lw69,lw70,lw72,trivial⟩
theorem srt_eq {l r : List S} (hp : r.Perm l) (hs : r.Pairwise fun a b => a ≤ b) : srt l = r := by
  have h1 : (srt l).Perm l := List.mergeSort_perm ..
  have h2 : (srt l).Pairwise fun a b => (decide (a ≤ b)) = true := List.pairwise_mergeSort (fun a b c h1 h2 => by simp at *; exact List.le_trans h1 h2) (fun a b => by simp; exact List.le_total a b) l
  refine List.Perm.eq_of_pairwise (le := fun a b => a ≤ b) (fun a b _ _ h1 h2 => List.le_antisymm h1 h2) (h2.imp fun h => by simpa using h) hs (h1.trans hp.symm)
theorem memo_of {m : Memo} (h : OkN Try.prog m.f m.zas m.h0 [] (IsA m.r m.h)) : m.ok Try.prog := h
def m0 : Memo := ⟨21,[.ro 3 [[.v (.string ⟨#[97,99,99,101,112,116,45,108,97,110,103,117,97,103,101]⟩),.ro 1 [[.v (.string ⟨#[100,101]⟩)],[.v (.string ⟨#[101,110]⟩)]],.v (.string ⟨#[101,110]⟩)],[.v (.string ⟨#[120,45,97,112,112]⟩),.ro 1 [[.v (.string ⟨#[97,61,98]⟩)]],.v (.string ⟨#[]⟩)]]],[],.tup [.ro 1 [[.v (.string ⟨#[97,99,99,101,112,116,45,108,97,110,103,117,97,103,101,61,100,101,38,120,45,97,112,112,61]⟩)],[.v (.string ⟨#[97,99,99,101,112,116,45,108,97,110,103,117,97,103,101,61,100,101,38,120,45,97,112,112,61,97,37,51,100,98]⟩)],[.v (.string ⟨#[97,99,99,101,112,116,45,108,97,110,103,117,97,103,101,61,101,110,38,120,45,97,112,112,61]⟩)],[.v (.string ⟨#[97,99,99,101,112,116,45,108,97,110,103,117,97,103,101,61,101,110,38,120,45,97,112,112,61,97,37,51,100,98]⟩)]],.i 0],[]⟩
def exL : List Vary := [⟨[97,99,99,101,112,116,45,108,97,110,103,117,97,103,101],[[100,101],[101,110]],[101,110]⟩,⟨[120,45,97,112,112],[[97,61,98]],[]⟩]
theorem m0_ok : m0.ok Try.prog := by
  have hf : Fits exL := ⟨by decide,by decide,by decide,by decide⟩
  have h := ok21 hf
  have e1 : allBig exL = false := by decide
  have e2 : keysF exL exL.length [] = [[97,99,99,101,112,116,45,108,97,110,103,117,97,103,101,61,100,101,38,120,45,97,112,112,61],[97,99,99,101,112,116,45,108,97,110,103,117,97,103,101,61,100,101,38,120,45,97,112,112,61,97,37,51,100,98],[97,99,99,101,112,116,45,108,97,110,103,117,97,103,101,61,101,110,38,120,45,97,112,112,61],[97,99,99,101,112,116,45,108,97,110,103,117,97,103,101,61,101,110,38,120,45,97,112,112,61,97,37,51,100,98]] := by decide
  have e : allR exL = m0.r := by rw [allR,e1,e2]; rfl
  rw [e] at h
  exact memo_of (m := m0) h
def m1 : Memo := ⟨39,[.v (.string ⟨#[102,114,38,120,45,97,112,112,61]⟩),.v (.int .u8 38)],[],.i 2,[]⟩
theorem m1_ok : m1.ok Try.prog := by
  have e : Lib.indexByte [102,114,38,120,45,97,112,112,61] (Nat.toUInt8 38) = 2 := by decide
  have h := ok39 [102,114,38,120,45,97,112,112,61] 38 (by decide)
  rw [e] at h
  exact memo_of (m := m1) h
def m2 : Memo := ⟨43,[.v (.string ⟨#[100,101]⟩)],[],.v (.string ⟨#[100,101]⟩),[]⟩
theorem m2_ok : m2.ok Try.prog := by
  have e : esc [100,101] = [100,101] := by decide
  have h := ok43 [100,101] (by decide)
  rw [e] at h
  exact memo_of (m := m2) h
def m3 : Memo := ⟨43,[.v (.string ⟨#[101,110]⟩)],[],.v (.string ⟨#[101,110]⟩),[]⟩
theorem m3_ok : m3.ok Try.prog := by
  have e : esc [101,110] = [101,110] := by decide
  have h := ok43 [101,110] (by decide)
  rw [e] at h
  exact memo_of (m := m3) h
def m4 : Memo := ⟨66,[.sl 0 0 4],[.arr 1 [[.v (.string ⟨#[100,101]⟩)],[.v (.string ⟨#[101,110]⟩)],[.v (.string ⟨#[100,101]⟩)],[.v (.string ⟨#[101,110]⟩)]]],.tup [],[.arr 1 [[.v (.string ⟨#[100,101]⟩)],[.v (.string ⟨#[100,101]⟩)],[.v (.string ⟨#[101,110]⟩)],[.v (.string ⟨#[101,110]⟩)]]]⟩
theorem m4_ok : m4.ok Try.prog := by
  have e : srt [[100,101],[101,110],[100,101],[101,110]] = [[100,101],[100,101],[101,110],[101,110]] := srt_eq (by decide) (by decide)
  have h := ok66 [[100,101],[101,110],[100,101],[101,110]] (by decide)
  rw [e] at h
  exact memo_of (m := m4) h
def m5 : Memo := ⟨43,[.v (.string ⟨#[]⟩)],[],.v (.string ⟨#[]⟩),[]⟩
theorem m5_ok : m5.ok Try.prog := by
  have e : esc [] = [] := by decide
  have h := ok43 [] (by decide)
  rw [e] at h
  exact memo_of (m := m5) h
def m6 : Memo := ⟨58,[.sl 0 0 2,.v (.string ⟨#[38]⟩)],[.arr 1 [[.v (.string ⟨#[97,99,99,101,112,116,45,108,97,110,103,117,97,103,101,61,100,101]⟩)],[.v (.string ⟨#[120,45,97,112,112,61]⟩)]]],.v (.string ⟨#[97,99,99,101,112,116,45,108,97,110,103,117,97,103,101,61,100,101,38,120,45,97,112,112,61]⟩),[.arr 1 [[.v (.string ⟨#[97,99,99,101,112,116,45,108,97,110,103,117,97,103,101,61,100,101]⟩)],[.v (.string ⟨#[120,45,97,112,112,61]⟩)]]]⟩
theorem m6_ok : m6.ok Try.prog := by
  have e : Lib.join [[97,99,99,101,112,116,45,108,97,110,103,117,97,103,101,61,100,101],[120,45,97,112,112,61]] [38] = [97,99,99,101,112,116,45,108,97,110,103,117,97,103,101,61,100,101,38,120,45,97,112,112,61] := by decide
  have h := ok58A [[97,99,99,101,112,116,45,108,97,110,103,117,97,103,101,61,100,101],[120,45,97,112,112,61]] [38] (by decide) (by rw [e]; decide)
  rw [e] at h
  exact memo_of (m := m6) h
def m7 : Memo := ⟨58,[.sl 0 0 2,.v (.string ⟨#[38]⟩)],[.arr 1 [[.v (.string ⟨#[97,99,99,101,112,116,45,108,97,110,103,117,97,103,101,61,101,110]⟩)],[.v (.string ⟨#[120,45,97,112,112,61]⟩)]]],.v (.string ⟨#[97,99,99,101,112,116,45,108,97,110,103,117,97,103,101,61,101,110,38,120,45,97,112,112,61]⟩),[.arr 1 [[.v (.string ⟨#[97,99,99,101,112,116,45,108,97,110,103,117,97,103,101,61,101,110]⟩)],[.v (.string ⟨#[120,45,97,112,112,61]⟩)]]]⟩
theorem m7_ok : m7.ok Try.prog := by
  have e : Lib.join [[97,99,99,101,112,116,45,108,97,110,103,117,97,103,101,61,101,110],[120,45,97,112,112,61]] [38] = [97,99,99,101,112,116,45,108,97,110,103,117,97,103,101,61,101,110,38,120,45,97,112,112,61] := by decide
  have h := ok58A [[97,99,99,101,112,116,45,108,97,110,103,117,97,103,101,61,101,110],[120,45,97,112,112,61]] [38] (by decide) (by rw [e]; decide)
  rw [e] at h
  exact memo_of (m := m7) h
def m8 : Memo := ⟨66,[.sl 0 0 2],[.arr 1 [[.v (.string ⟨#[97,61,98]⟩)],[.v (.string ⟨#[97,61,98]⟩)]]],.tup [],[.arr 1 [[.v (.string ⟨#[97,61,98]⟩)],[.v (.string ⟨#[97,61,98]⟩)]]]⟩
theorem m8_ok : m8.ok Try.prog := by
  have e : srt [[97,61,98],[97,61,98]] = [[97,61,98],[97,61,98]] := srt_eq (by decide) (by decide)
  have h := ok66 [[97,61,98],[97,61,98]] (by decide)
  rw [e] at h
  exact memo_of (m := m8) h
def m9 : Memo := ⟨43,[.v (.string ⟨#[97,61,98]⟩)],[],.v (.string ⟨#[97,37,51,100,98]⟩),[]⟩
theorem m9_ok : m9.ok Try.prog := by
  have e : esc [97,61,98] = [97,37,51,100,98] := by decide
  have h := ok43 [97,61,98] (by decide)
  rw [e] at h
  exact memo_of (m := m9) h
def m10 : Memo := ⟨58,[.sl 0 0 2,.v (.string ⟨#[38]⟩)],[.arr 1 [[.v (.string ⟨#[97,99,99,101,112,116,45,108,97,110,103,117,97,103,101,61,101,110]⟩)],[.v (.string ⟨#[120,45,97,112,112,61,97,37,51,100,98]⟩)]]],.v (.string ⟨#[97,99,99,101,112,116,45,108,97,110,103,117,97,103,101,61,101,110,38,120,45,97,112,112,61,97,37,51,100,98]⟩),[.arr 1 [[.v (.string ⟨#[97,99,99,101,112,116,45,108,97,110,103,117,97,103,101,61,101,110]⟩)],[.v (.string ⟨#[120,45,97,112,112,61,97,37,51,100,98]⟩)]]]⟩
theorem m10_ok : m10.ok Try.prog := by
  have e : Lib.join [[97,99,99,101,112,116,45,108,97,110,103,117,97,103,101,61,101,110],[120,45,97,112,112,61,97,37,51,100,98]] [38] = [97,99,99,101,112,116,45,108,97,110,103,117,97,103,101,61,101,110,38,120,45,97,112,112,61,97,37,51,100,98] := by decide
  have h := ok58A [[97,99,99,101,112,116,45,108,97,110,103,117,97,103,101,61,101,110],[120,45,97,112,112,61,97,37,51,100,98]] [38] (by decide) (by rw [e]; decide)
  rw [e] at h
  exact memo_of (m := m10) h
def m11 : Memo := ⟨58,[.sl 0 0 1,.v (.string ⟨#[38]⟩)],[.arr 1 [[.v (.string ⟨#[97,99,99,101,112,116,45,108,97,110,103,117,97,103,101,61,100,101]⟩)]]],.v (.string ⟨#[97,99,99,101,112,116,45,108,97,110,103,117,97,103,101,61,100,101]⟩),[.arr 1 [[.v (.string ⟨#[97,99,99,101,112,116,45,108,97,110,103,117,97,103,101,61,100,101]⟩)]]]⟩
theorem m11_ok : m11.ok Try.prog := by
  have e : Lib.join [[97,99,99,101,112,116,45,108,97,110,103,117,97,103,101,61,100,101]] [38] = [97,99,99,101,112,116,45,108,97,110,103,117,97,103,101,61,100,101] := by decide
  have h := ok58A [[97,99,99,101,112,116,45,108,97,110,103,117,97,103,101,61,100,101]] [38] (by decide) (by rw [e]; decide)
  rw [e] at h
  exact memo_of (m := m11) h
def m12 : Memo := ⟨58,[.sl 0 0 1,.v (.string ⟨#[38]⟩)],[.arr 1 [[.v (.string ⟨#[97,99,99,101,112,116,45,108,97,110,103,117,97,103,101,61,101,110]⟩)]]],.v (.string ⟨#[97,99,99,101,112,116,45,108,97,110,103,117,97,103,101,61,101,110]⟩),[.arr 1 [[.v (.string ⟨#[97,99,99,101,112,116,45,108,97,110,103,117,97,103,101,61,101,110]⟩)]]]⟩
theorem m12_ok : m12.ok Try.prog := by
  have e : Lib.join [[97,99,99,101,112,116,45,108,97,110,103,117,97,103,101,61,101,110]] [38] = [97,99,99,101,112,116,45,108,97,110,103,117,97,103,101,61,101,110] := by decide
  have h := ok58A [[97,99,99,101,112,116,45,108,97,110,103,117,97,103,101,61,101,110]] [38] (by decide) (by rw [e]; decide)
  rw [e] at h
  exact memo_of (m := m12) h
def m13 : Memo := ⟨58,[.sl 0 0 2,.v (.string ⟨#[38]⟩)],[.arr 1 [[.v (.string ⟨#[97,99,99,101,112,116,45,108,97,110,103,117,97,103,101,61,100,101]⟩)],[.v (.string ⟨#[120,45,97,112,112,61,97,37,51,100,98]⟩)]]],.v (.string ⟨#[97,99,99,101,112,116,45,108,97,110,103,117,97,103,101,61,100,101,38,120,45,97,112,112,61,97,37,51,100,98]⟩),[.arr 1 [[.v (.string ⟨#[97,99,99,101,112,116,45,108,97,110,103,117,97,103,101,61,100,101]⟩)],[.v (.string ⟨#[120,45,97,112,112,61,97,37,51,100,98]⟩)]]]⟩
theorem m13_ok : m13.ok Try.prog := by
  have e : Lib.join [[97,99,99,101,112,116,45,108,97,110,103,117,97,103,101,61,100,101],[120,45,97,112,112,61,97,37,51,100,98]] [38] = [97,99,99,101,112,116,45,108,97,110,103,117,97,103,101,61,100,101,38,120,45,97,112,112,61,97,37,51,100,98] := by decide
  have h := ok58A [[97,99,99,101,112,116,45,108,97,110,103,117,97,103,101,61,100,101],[120,45,97,112,112,61,97,37,51,100,98]] [38] (by decide) (by rw [e]; decide)
  rw [e] at h
  exact memo_of (m := m13) h
def memos : List Memo := [m0,m1,m2,m3,m4,m5,m6,m7,m8,m9,m10,m11,m12,m13]
theorem memosOk : ∀ m ∈ memos,m.ok Try.prog := by
  intro m hm
  simp only [memos,List.mem_cons,List.not_mem_nil,or_false] at hm
  rcases hm with rfl | rfl | rfl | rfl | rfl | rfl | rfl | rfl | rfl | rfl | rfl | rfl | rfl | rfl
  · exact m0_ok
  · exact m1_ok
  · exact m2_ok
  · exact m3_ok
  · exact m4_ok
  · exact m5_ok
  · exact m6_ok
  · exact m7_ok
  · exact m8_ok
  · exact m9_ok
  · exact m10_ok
  · exact m11_ok
  · exact m12_ok
  · exact m13_ok
theorem san_run : givesB (fnD tbl memos 20 9 [] [] []) (.b true) [] = true := by decide +kernel
theorem san : Sane := fnD_ok pol tblOk memosOk 20 _ _ _ _ _ _ (givesB_ok san_run)
end Go.Fx.W
