/- The functions of the program that the law may enter. -/
import Derived.Test.YtdhadannleldiaaDoorGkTop
import Derived.Test.YtdhadannleldiaaDoorGjCall
import Derived.Test.YtdhadannleldiaaDoorProg
namespace Go.Proofs.YtdhadannleldiaaDoor
open Go.Gh
theorem ok3 : funcOk Tryd.f3 = true := by kernel_rfl
theorem ok4 : funcOk Tryd.f4 = true := by kernel_rfl
theorem ok5 : funcOk Tryd.f5 = true := by kernel_rfl
theorem ok6 : funcOk Tryd.f6 = true := by kernel_rfl
theorem ok7 : funcOk Tryd.f7 = true := by kernel_rfl
theorem ok8 : funcOk Tryd.f8 = true := by kernel_rfl
theorem ok9 : funcOk Tryd.f9 = true := by kernel_rfl
theorem ok10 : funcOk Tryd.f10 = true := by kernel_rfl
theorem ok11 : funcOk Tryd.f11 = true := by kernel_rfl
theorem ok12 : funcOk Tryd.f12 = true := by kernel_rfl
theorem ok13 : funcOk Tryd.f13 = true := by kernel_rfl
theorem ok14 : funcOk Tryd.f14 = true := by kernel_rfl
theorem ok15 : funcOk Tryd.f15 = true := by kernel_rfl
theorem ok16 : funcOk Tryd.f16 = true := by kernel_rfl
theorem ok17 : funcOk Tryd.f17 = true := by kernel_rfl
theorem ok18 : funcOk Tryd.f18 = true := by kernel_rfl
theorem ok19 : funcOk Tryd.f19 = true := by kernel_rfl
theorem ok20 : funcOk Tryd.f20 = true := by kernel_rfl
theorem ok21 : funcOk Tryd.f21 = true := by kernel_rfl
theorem ok22 : funcOk Tryd.f22 = true := by kernel_rfl
theorem ok23 : funcOk Tryd.f23 = true := by kernel_rfl
theorem ok24 : funcOk Tryd.f24 = true := by kernel_rfl
theorem ok25 : funcOk Tryd.f25 = true := by kernel_rfl
theorem ok26 : funcOk Tryd.f26 = true := by kernel_rfl
theorem ok27 : funcOk Tryd.f27 = true := by kernel_rfl
theorem ok28 : funcOk Tryd.f28 = true := by kernel_rfl
theorem ok29 : funcOk Tryd.f29 = true := by kernel_rfl
theorem ok30 : funcOk Tryd.f30 = true := by kernel_rfl
theorem ok31 : funcOk Tryd.f31 = true := by kernel_rfl
theorem ok32 : funcOk Tryd.f32 = true := by kernel_rfl
theorem ok33 : funcOk Tryd.f33 = true := by kernel_rfl
theorem ok34 : funcOk Tryd.f34 = true := by kernel_rfl
theorem ok35 : funcOk Tryd.f35 = true := by kernel_rfl
noncomputable def fnL : List (Nat × Func) := [(3, Tryd.f3), (4, Tryd.f4), (5, Tryd.f5), (6, Tryd.f6), (7, Tryd.f7), (8, Tryd.f8), (9, Tryd.f9), (10, Tryd.f10), (11, Tryd.f11), (12, Tryd.f12), (13, Tryd.f13), (14, Tryd.f14), (15, Tryd.f15), (16, Tryd.f16), (17, Tryd.f17), (18, Tryd.f18), (19, Tryd.f19), (20, Tryd.f20), (21, Tryd.f21), (22, Tryd.f22), (23, Tryd.f23), (24, Tryd.f24), (25, Tryd.f25), (26, Tryd.f26), (27, Tryd.f27), (28, Tryd.f28), (29, Tryd.f29), (30, Tryd.f30), (31, Tryd.f31), (32, Tryd.f32), (33, Tryd.f33), (34, Tryd.f34), (35, Tryd.f35)]
/-- All of them (for the closed functions' evaluation). -/
noncomputable def fnE (f : Nat) : Option Func := (fnL.find? fun x => x.1 == f).map (·.2)
theorem fnL_ok : ∀ x ∈ fnL, Tryd.prog.funcs[x.1]? = some x.2 ∧ funcOk x.2 = true := by
  unfold fnL
  simp only [List.forall_mem_cons]
  exact ⟨⟨Tryd.func3, ok3⟩, ⟨Tryd.func4, ok4⟩, ⟨Tryd.func5, ok5⟩, ⟨Tryd.func6, ok6⟩, ⟨Tryd.func7, ok7⟩, ⟨Tryd.func8, ok8⟩, ⟨Tryd.func9, ok9⟩, ⟨Tryd.func10, ok10⟩, ⟨Tryd.func11, ok11⟩, ⟨Tryd.func12, ok12⟩, ⟨Tryd.func13, ok13⟩, ⟨Tryd.func14, ok14⟩, ⟨Tryd.func15, ok15⟩, ⟨Tryd.func16, ok16⟩, ⟨Tryd.func17, ok17⟩, ⟨Tryd.func18, ok18⟩, ⟨Tryd.func19, ok19⟩, ⟨Tryd.func20, ok20⟩, ⟨Tryd.func21, ok21⟩, ⟨Tryd.func22, ok22⟩, ⟨Tryd.func23, ok23⟩, ⟨Tryd.func24, ok24⟩, ⟨Tryd.func25, ok25⟩, ⟨Tryd.func26, ok26⟩, ⟨Tryd.func27, ok27⟩, ⟨Tryd.func28, ok28⟩, ⟨Tryd.func29, ok29⟩, ⟨Tryd.func30, ok30⟩, ⟨Tryd.func31, ok31⟩, ⟨Tryd.func32, ok32⟩, ⟨Tryd.func33, ok33⟩, ⟨Tryd.func34, ok34⟩, ⟨Tryd.func35, ok35⟩, fun x hx => by cases hx⟩
theorem fnE_ok (f : Nat) (fn : Func) (h : fnE f = some fn) : Tryd.prog.funcs[f]? = some fn ∧ funcOk fn = true := by
  unfold fnE at h
  cases hx : fnL.find? fun x => x.1 == f with
  | none => rw [hx] at h; cases h
  | some x =>
    rw [hx] at h
    injection h with h
    subst h
    have h1 := List.find?_some hx
    have h2 := fnL_ok x (List.mem_of_find?_eq_some hx)
    rw [← (by simpa using h1 : x.1 = f)]
    exact h2
/-- Those that are entered. -/
noncomputable def fnT (f : Nat) : Option Func := bif f == 4 then none else fnE f
/-- What the closed functions answer. -/
def clo (f : Nat) : Option Value := bif f == 4 then some (.bool true) else none
theorem fnT_ok (f : Nat) (fn : Func) (h : fnT f = some fn) : Tryd.prog.funcs[f]? = some fn ∧ funcOk fn = true := by
  unfold fnT at h
  cases hc : (f == 4) with
  | true => rw [hc] at h; cases h
  | false => rw [hc] at h; exact fnE_ok f fn h
theorem N4 : fnT 4 = none := by kernel_rfl
theorem T3 : fnT 3 = some Tryd.f3 := by kernel_rfl
theorem T5 : fnT 5 = some Tryd.f5 := by kernel_rfl
theorem T6 : fnT 6 = some Tryd.f6 := by kernel_rfl
theorem T7 : fnT 7 = some Tryd.f7 := by kernel_rfl
theorem T8 : fnT 8 = some Tryd.f8 := by kernel_rfl
theorem T9 : fnT 9 = some Tryd.f9 := by kernel_rfl
theorem T10 : fnT 10 = some Tryd.f10 := by kernel_rfl
theorem T11 : fnT 11 = some Tryd.f11 := by kernel_rfl
theorem T12 : fnT 12 = some Tryd.f12 := by kernel_rfl
theorem T13 : fnT 13 = some Tryd.f13 := by kernel_rfl
theorem T14 : fnT 14 = some Tryd.f14 := by kernel_rfl
theorem T15 : fnT 15 = some Tryd.f15 := by kernel_rfl
theorem T16 : fnT 16 = some Tryd.f16 := by kernel_rfl
theorem T17 : fnT 17 = some Tryd.f17 := by kernel_rfl
theorem T18 : fnT 18 = some Tryd.f18 := by kernel_rfl
theorem T19 : fnT 19 = some Tryd.f19 := by kernel_rfl
theorem T20 : fnT 20 = some Tryd.f20 := by kernel_rfl
theorem T21 : fnT 21 = some Tryd.f21 := by kernel_rfl
theorem T22 : fnT 22 = some Tryd.f22 := by kernel_rfl
theorem T23 : fnT 23 = some Tryd.f23 := by kernel_rfl
theorem T24 : fnT 24 = some Tryd.f24 := by kernel_rfl
theorem T25 : fnT 25 = some Tryd.f25 := by kernel_rfl
theorem T26 : fnT 26 = some Tryd.f26 := by kernel_rfl
theorem T27 : fnT 27 = some Tryd.f27 := by kernel_rfl
theorem T28 : fnT 28 = some Tryd.f28 := by kernel_rfl
theorem T29 : fnT 29 = some Tryd.f29 := by kernel_rfl
theorem T30 : fnT 30 = some Tryd.f30 := by kernel_rfl
theorem T31 : fnT 31 = some Tryd.f31 := by kernel_rfl
theorem T32 : fnT 32 = some Tryd.f32 := by kernel_rfl
theorem T33 : fnT 33 = some Tryd.f33 := by kernel_rfl
theorem T34 : fnT 34 = some Tryd.f34 := by kernel_rfl
theorem T35 : fnT 35 = some Tryd.f35 := by kernel_rfl
end Go.Proofs.YtdhadannleldiaaDoor
