/- The functions of the program that the law may enter. -/
import Derived.Test.YthicilkmjamefaaGmLogic
import Derived.Test.YthicilkmjamefaaGjCallC
import Derived.Test.YthicilkmjamefaaProg
namespace Go.Proofs.Ythicilkmjamefaa
open Go.Gh
theorem ok3 : funcOk Try.f3 = true := by kernel_rfl
theorem ok8 : funcOk Try.f8 = true := by kernel_rfl
theorem ok9 : funcOk Try.f9 = true := by kernel_rfl
theorem ok10 : funcOk Try.f10 = true := by kernel_rfl
theorem ok11 : funcOk Try.f11 = true := by kernel_rfl
theorem ok12 : funcOk Try.f12 = true := by kernel_rfl
theorem ok41 : funcOk Try.f41 = true := by kernel_rfl
theorem ok42 : funcOk Try.f42 = true := by kernel_rfl
theorem ok43 : funcOk Try.f43 = true := by kernel_rfl
theorem ok44 : funcOk Try.f44 = true := by kernel_rfl
theorem ok45 : funcOk Try.f45 = true := by kernel_rfl
theorem ok46 : funcOk Try.f46 = true := by kernel_rfl
theorem ok47 : funcOk Try.f47 = true := by kernel_rfl
theorem ok48 : funcOk Try.f48 = true := by kernel_rfl
theorem ok49 : funcOk Try.f49 = true := by kernel_rfl
theorem ok50 : funcOk Try.f50 = true := by kernel_rfl
theorem ok51 : funcOk Try.f51 = true := by kernel_rfl
theorem ok52 : funcOk Try.f52 = true := by kernel_rfl
theorem ok53 : funcOk Try.f53 = true := by kernel_rfl
theorem ok76 : funcOk Try.f76 = true := by kernel_rfl
theorem ok114 : funcOk Try.f114 = true := by kernel_rfl
theorem ok115 : funcOk Try.f115 = true := by kernel_rfl
theorem ok116 : funcOk Try.f116 = true := by kernel_rfl
theorem ok117 : funcOk Try.f117 = true := by kernel_rfl
theorem ok118 : funcOk Try.f118 = true := by kernel_rfl
theorem ok119 : funcOk Try.f119 = true := by kernel_rfl
theorem ok120 : funcOk Try.f120 = true := by kernel_rfl
theorem ok165 : funcOk Try.f165 = true := by kernel_rfl
theorem ok166 : funcOk Try.f166 = true := by kernel_rfl
theorem ok167 : funcOk Try.f167 = true := by kernel_rfl
noncomputable def fnL : List (Nat × Func) := [(3, Try.f3), (8, Try.f8), (9, Try.f9), (10, Try.f10), (11, Try.f11), (12, Try.f12), (41, Try.f41), (42, Try.f42), (43, Try.f43), (44, Try.f44), (45, Try.f45), (46, Try.f46), (47, Try.f47), (48, Try.f48), (49, Try.f49), (50, Try.f50), (51, Try.f51), (52, Try.f52), (53, Try.f53), (76, Try.f76), (114, Try.f114), (115, Try.f115), (116, Try.f116), (117, Try.f117), (118, Try.f118), (119, Try.f119), (120, Try.f120), (165, Try.f165), (166, Try.f166), (167, Try.f167)]
/-- All of them (for the closed functions' evaluation). -/
noncomputable def fnE (f : Nat) : Option Func := (fnL.find? fun x => x.1 == f).map (·.2)
theorem fnL_ok : ∀ x ∈ fnL, Try.prog.funcs[x.1]? = some x.2 ∧ funcOk x.2 = true := by
  unfold fnL
  simp only [List.forall_mem_cons]
  exact ⟨⟨Try.func3, ok3⟩, ⟨Try.func8, ok8⟩, ⟨Try.func9, ok9⟩, ⟨Try.func10, ok10⟩, ⟨Try.func11, ok11⟩, ⟨Try.func12, ok12⟩, ⟨Try.func41, ok41⟩, ⟨Try.func42, ok42⟩, ⟨Try.func43, ok43⟩, ⟨Try.func44, ok44⟩, ⟨Try.func45, ok45⟩, ⟨Try.func46, ok46⟩, ⟨Try.func47, ok47⟩, ⟨Try.func48, ok48⟩, ⟨Try.func49, ok49⟩, ⟨Try.func50, ok50⟩, ⟨Try.func51, ok51⟩, ⟨Try.func52, ok52⟩, ⟨Try.func53, ok53⟩, ⟨Try.func76, ok76⟩, ⟨Try.func114, ok114⟩, ⟨Try.func115, ok115⟩, ⟨Try.func116, ok116⟩, ⟨Try.func117, ok117⟩, ⟨Try.func118, ok118⟩, ⟨Try.func119, ok119⟩, ⟨Try.func120, ok120⟩, ⟨Try.func165, ok165⟩, ⟨Try.func166, ok166⟩, ⟨Try.func167, ok167⟩, fun x hx => by cases hx⟩
theorem fnE_ok (f : Nat) (fn : Func) (h : fnE f = some fn) : Try.prog.funcs[f]? = some fn ∧ funcOk fn = true := by
  unfold fnE at h
  cases hx : fnL.find? fun x => x.1 == f with
  | none => rw [hx] at h; cases h
  | some x =>
    rw [hx] at h
    injection h with h
    subst h
    have h1 := List.find?_some hx
    have h2 := fnL_ok x (List.mem_of_find?_eq_some hx)
    rw [← (by simpa using h1 : x.1 = f)]
    exact h2
/-- Those that are entered. -/
noncomputable def fnT (f : Nat) : Option Func := bif f == 8 then none else fnE f
/-- What the closed functions answer. -/
def clo (f : Nat) : Option Value := bif f == 8 then some (.bool true) else none
theorem fnT_ok (f : Nat) (fn : Func) (h : fnT f = some fn) : Try.prog.funcs[f]? = some fn ∧ funcOk fn = true := by
  unfold fnT at h
  cases hc : (f == 8) with
  | true => rw [hc] at h; cases h
  | false => rw [hc] at h; exact fnE_ok f fn h
theorem N8 : fnT 8 = none := by kernel_rfl
theorem T3 : fnT 3 = some Try.f3 := by kernel_rfl
theorem T9 : fnT 9 = some Try.f9 := by kernel_rfl
theorem T10 : fnT 10 = some Try.f10 := by kernel_rfl
theorem T11 : fnT 11 = some Try.f11 := by kernel_rfl
theorem T12 : fnT 12 = some Try.f12 := by kernel_rfl
theorem T41 : fnT 41 = some Try.f41 := by kernel_rfl
theorem T42 : fnT 42 = some Try.f42 := by kernel_rfl
theorem T43 : fnT 43 = some Try.f43 := by kernel_rfl
theorem T44 : fnT 44 = some Try.f44 := by kernel_rfl
theorem T45 : fnT 45 = some Try.f45 := by kernel_rfl
theorem T46 : fnT 46 = some Try.f46 := by kernel_rfl
theorem T47 : fnT 47 = some Try.f47 := by kernel_rfl
theorem T48 : fnT 48 = some Try.f48 := by kernel_rfl
theorem T49 : fnT 49 = some Try.f49 := by kernel_rfl
theorem T50 : fnT 50 = some Try.f50 := by kernel_rfl
theorem T51 : fnT 51 = some Try.f51 := by kernel_rfl
theorem T52 : fnT 52 = some Try.f52 := by kernel_rfl
theorem T53 : fnT 53 = some Try.f53 := by kernel_rfl
theorem T76 : fnT 76 = some Try.f76 := by kernel_rfl
theorem T114 : fnT 114 = some Try.f114 := by kernel_rfl
theorem T115 : fnT 115 = some Try.f115 := by kernel_rfl
theorem T116 : fnT 116 = some Try.f116 := by kernel_rfl
theorem T117 : fnT 117 = some Try.f117 := by kernel_rfl
theorem T118 : fnT 118 = some Try.f118 := by kernel_rfl
theorem T119 : fnT 119 = some Try.f119 := by kernel_rfl
theorem T120 : fnT 120 = some Try.f120 := by kernel_rfl
theorem T165 : fnT 165 = some Try.f165 := by kernel_rfl
theorem T166 : fnT 166 = some Try.f166 := by kernel_rfl
theorem T167 : fnT 167 = some Try.f167 := by kernel_rfl
end Go.Proofs.Ythicilkmjamefaa
