/- PRINTED by mks.py: the table of the functions' shallow forms. -/
import Derived.Test.YthicilkmjamefaaGpShCall
import Derived.Test.YthicilkmjamefaaLoT
import Derived.Test.YthicilkmjamefaaShL115
import Derived.Test.YthicilkmjamefaaShL23
import Derived.Test.YthicilkmjamefaaShL24
import Derived.Test.YthicilkmjamefaaShL26
import Derived.Test.YthicilkmjamefaaShL46
import Derived.Test.YthicilkmjamefaaShL5
namespace Go.Proofs.Ythicilkmjamefaa
open Go.Gh
set_option linter.unusedVariables false
noncomputable def f5_S : Sh := sh1 Try.prog Try.f5 f5_sh
theorem f5_S_eq : ∀ (call : Handle) (k : Nat) (args : List Value) (H : GH), gFunc Try.prog call k Try.f5 args H = f5_S call k args H := sh1_eq f5_eq
noncomputable def f23_S : Sh := sh1 Try.prog Try.f23 f23_sh
theorem f23_S_eq : ∀ (call : Handle) (k : Nat) (args : List Value) (H : GH), gFunc Try.prog call k Try.f23 args H = f23_S call k args H := sh1_eq f23_eq
noncomputable def f24_S : Sh := sh1 Try.prog Try.f24 f24_sh
theorem f24_S_eq : ∀ (call : Handle) (k : Nat) (args : List Value) (H : GH), gFunc Try.prog call k Try.f24 args H = f24_S call k args H := sh1_eq f24_eq
noncomputable def f25_S : Sh := sh1 Try.prog Try.f25 f25_sh
theorem f25_S_eq : ∀ (call : Handle) (k : Nat) (args : List Value) (H : GH), gFunc Try.prog call k Try.f25 args H = f25_S call k args H := sh1_eq f25_eq
noncomputable def f26_S : Sh := sh3 Try.prog Try.f26 f26_sh
theorem f26_S_eq : ∀ (call : Handle) (k : Nat) (args : List Value) (H : GH), gFunc Try.prog call k Try.f26 args H = f26_S call k args H := sh3_eq f26_eq
noncomputable def f46_S : Sh := sh2 Try.prog Try.f46 f46_sh
theorem f46_S_eq : ∀ (call : Handle) (k : Nat) (args : List Value) (H : GH), gFunc Try.prog call k Try.f46 args H = f46_S call k args H := sh2_eq f46_eq
noncomputable def f73_S : Sh := sh1 Try.prog Try.f73 f73_sh
theorem f73_S_eq : ∀ (call : Handle) (k : Nat) (args : List Value) (H : GH), gFunc Try.prog call k Try.f73 args H = f73_S call k args H := sh1_eq f73_eq
noncomputable def f74_S : Sh := sh2 Try.prog Try.f74 f74_sh
theorem f74_S_eq : ∀ (call : Handle) (k : Nat) (args : List Value) (H : GH), gFunc Try.prog call k Try.f74 args H = f74_S call k args H := sh2_eq f74_eq
noncomputable def f75_S : Sh := sh3 Try.prog Try.f75 f75_sh
theorem f75_S_eq : ∀ (call : Handle) (k : Nat) (args : List Value) (H : GH), gFunc Try.prog call k Try.f75 args H = f75_S call k args H := sh3_eq f75_eq
noncomputable def f76_S : Sh := sh1 Try.prog Try.f76 f76_sh
theorem f76_S_eq : ∀ (call : Handle) (k : Nat) (args : List Value) (H : GH), gFunc Try.prog call k Try.f76 args H = f76_S call k args H := sh1_eq f76_eq
noncomputable def f77_S : Sh := sh1 Try.prog Try.f77 f77_sh
theorem f77_S_eq : ∀ (call : Handle) (k : Nat) (args : List Value) (H : GH), gFunc Try.prog call k Try.f77 args H = f77_S call k args H := sh1_eq f77_eq
noncomputable def f78_S : Sh := sh2 Try.prog Try.f78 f78_sh
theorem f78_S_eq : ∀ (call : Handle) (k : Nat) (args : List Value) (H : GH), gFunc Try.prog call k Try.f78 args H = f78_S call k args H := sh2_eq f78_eq
noncomputable def f79_S : Sh := sh1 Try.prog Try.f79 f79_sh
theorem f79_S_eq : ∀ (call : Handle) (k : Nat) (args : List Value) (H : GH), gFunc Try.prog call k Try.f79 args H = f79_S call k args H := sh1_eq f79_eq
noncomputable def f80_S : Sh := sh1 Try.prog Try.f80 f80_sh
theorem f80_S_eq : ∀ (call : Handle) (k : Nat) (args : List Value) (H : GH), gFunc Try.prog call k Try.f80 args H = f80_S call k args H := sh1_eq f80_eq
noncomputable def f115_S : Sh := sh1 Try.prog Try.f115 f115_sh
theorem f115_S_eq : ∀ (call : Handle) (k : Nat) (args : List Value) (H : GH), gFunc Try.prog call k Try.f115 args H = f115_S call k args H := sh1_eq f115_eq
noncomputable def f118_S : Sh := sh2 Try.prog Try.f118 f118_sh
theorem f118_S_eq : ∀ (call : Handle) (k : Nat) (args : List Value) (H : GH), gFunc Try.prog call k Try.f118 args H = f118_S call k args H := sh2_eq f118_eq
noncomputable def f135_S : Sh := sh2 Try.prog Try.f135 f135_sh
theorem f135_S_eq : ∀ (call : Handle) (k : Nat) (args : List Value) (H : GH), gFunc Try.prog call k Try.f135 args H = f135_S call k args H := sh2_eq f135_eq
noncomputable def f139_S : Sh := sh3 Try.prog Try.f139 f139_sh
theorem f139_S_eq : ∀ (call : Handle) (k : Nat) (args : List Value) (H : GH), gFunc Try.prog call k Try.f139 args H = f139_S call k args H := sh3_eq f139_eq
noncomputable def f140_S : Sh := sh2 Try.prog Try.f140 f140_sh
theorem f140_S_eq : ∀ (call : Handle) (k : Nat) (args : List Value) (H : GH), gFunc Try.prog call k Try.f140 args H = f140_S call k args H := sh2_eq f140_eq
noncomputable def f141_S : Sh := sh2 Try.prog Try.f141 f141_sh
theorem f141_S_eq : ∀ (call : Handle) (k : Nat) (args : List Value) (H : GH), gFunc Try.prog call k Try.f141 args H = f141_S call k args H := sh2_eq f141_eq
noncomputable def f142_S : Sh := sh2 Try.prog Try.f142 f142_sh
theorem f142_S_eq : ∀ (call : Handle) (k : Nat) (args : List Value) (H : GH), gFunc Try.prog call k Try.f142 args H = f142_S call k args H := sh2_eq f142_eq
noncomputable def f143_S : Sh := sh1 Try.prog Try.f143 f143_sh
theorem f143_S_eq : ∀ (call : Handle) (k : Nat) (args : List Value) (H : GH), gFunc Try.prog call k Try.f143 args H = f143_S call k args H := sh1_eq f143_eq
noncomputable def f144_S : Sh := sh2 Try.prog Try.f144 f144_sh
theorem f144_S_eq : ∀ (call : Handle) (k : Nat) (args : List Value) (H : GH), gFunc Try.prog call k Try.f144 args H = f144_S call k args H := sh2_eq f144_eq
noncomputable def f145_S : Sh := sh1 Try.prog Try.f145 f145_sh
theorem f145_S_eq : ∀ (call : Handle) (k : Nat) (args : List Value) (H : GH), gFunc Try.prog call k Try.f145 args H = f145_S call k args H := sh1_eq f145_eq
noncomputable def f146_S : Sh := sh1 Try.prog Try.f146 f146_sh
theorem f146_S_eq : ∀ (call : Handle) (k : Nat) (args : List Value) (H : GH), gFunc Try.prog call k Try.f146 args H = f146_S call k args H := sh1_eq f146_eq
noncomputable def f173_S : Sh := sh2 Try.prog Try.f173 f173_sh
theorem f173_S_eq : ∀ (call : Handle) (k : Nat) (args : List Value) (H : GH), gFunc Try.prog call k Try.f173 args H = f173_S call k args H := sh2_eq f173_eq
noncomputable def f174_S : Sh := sh1 Try.prog Try.f174 f174_sh
theorem f174_S_eq : ∀ (call : Handle) (k : Nat) (args : List Value) (H : GH), gFunc Try.prog call k Try.f174 args H = f174_S call k args H := sh1_eq f174_eq
noncomputable def shL : List (Nat × Sh) := [(5, f5_S), (23, f23_S), (24, f24_S), (25, f25_S), (26, f26_S), (46, f46_S), (73, f73_S), (74, f74_S), (75, f75_S), (76, f76_S), (77, f77_S), (78, f78_S), (79, f79_S), (80, f80_S), (115, f115_S), (118, f118_S), (135, f135_S), (139, f139_S), (140, f140_S), (141, f141_S), (142, f142_S), (143, f143_S), (144, f144_S), (145, f145_S), (146, f146_S), (173, f173_S), (174, f174_S)]
noncomputable def shT (f : Nat) : Option Sh := (shL.find? fun x => x.1 == f).map (·.2)
theorem E5 : fnE 5 = some Try.f5 := by kernel_rfl
theorem E23 : fnE 23 = some Try.f23 := by kernel_rfl
theorem E24 : fnE 24 = some Try.f24 := by kernel_rfl
theorem E25 : fnE 25 = some Try.f25 := by kernel_rfl
theorem E26 : fnE 26 = some Try.f26 := by kernel_rfl
theorem E46 : fnE 46 = some Try.f46 := by kernel_rfl
theorem E73 : fnE 73 = some Try.f73 := by kernel_rfl
theorem E74 : fnE 74 = some Try.f74 := by kernel_rfl
theorem E75 : fnE 75 = some Try.f75 := by kernel_rfl
theorem E76 : fnE 76 = some Try.f76 := by kernel_rfl
theorem E77 : fnE 77 = some Try.f77 := by kernel_rfl
theorem E78 : fnE 78 = some Try.f78 := by kernel_rfl
theorem E79 : fnE 79 = some Try.f79 := by kernel_rfl
theorem E80 : fnE 80 = some Try.f80 := by kernel_rfl
theorem E115 : fnE 115 = some Try.f115 := by kernel_rfl
theorem E118 : fnE 118 = some Try.f118 := by kernel_rfl
theorem E135 : fnE 135 = some Try.f135 := by kernel_rfl
theorem E139 : fnE 139 = some Try.f139 := by kernel_rfl
theorem E140 : fnE 140 = some Try.f140 := by kernel_rfl
theorem E141 : fnE 141 = some Try.f141 := by kernel_rfl
theorem E142 : fnE 142 = some Try.f142 := by kernel_rfl
theorem E143 : fnE 143 = some Try.f143 := by kernel_rfl
theorem E144 : fnE 144 = some Try.f144 := by kernel_rfl
theorem E145 : fnE 145 = some Try.f145 := by kernel_rfl
theorem E146 : fnE 146 = some Try.f146 := by kernel_rfl
theorem E173 : fnE 173 = some Try.f173 := by kernel_rfl
theorem E174 : fnE 174 = some Try.f174 := by kernel_rfl
theorem shL_ok : ∀ x ∈ shL, ∃ fn, fnE x.1 = some fn ∧ ∀ call k args H, gFunc Try.prog call k fn args H = x.2 call k args H := by
  unfold shL
  simp only [List.forall_mem_cons]
  exact ⟨⟨_, E5, f5_S_eq⟩, ⟨_, E23, f23_S_eq⟩, ⟨_, E24, f24_S_eq⟩, ⟨_, E25, f25_S_eq⟩, ⟨_, E26, f26_S_eq⟩, ⟨_, E46, f46_S_eq⟩, ⟨_, E73, f73_S_eq⟩, ⟨_, E74, f74_S_eq⟩, ⟨_, E75, f75_S_eq⟩, ⟨_, E76, f76_S_eq⟩, ⟨_, E77, f77_S_eq⟩, ⟨_, E78, f78_S_eq⟩, ⟨_, E79, f79_S_eq⟩, ⟨_, E80, f80_S_eq⟩, ⟨_, E115, f115_S_eq⟩, ⟨_, E118, f118_S_eq⟩, ⟨_, E135, f135_S_eq⟩, ⟨_, E139, f139_S_eq⟩, ⟨_, E140, f140_S_eq⟩, ⟨_, E141, f141_S_eq⟩, ⟨_, E142, f142_S_eq⟩, ⟨_, E143, f143_S_eq⟩, ⟨_, E144, f144_S_eq⟩, ⟨_, E145, f145_S_eq⟩, ⟨_, E146, f146_S_eq⟩, ⟨_, E173, f173_S_eq⟩, ⟨_, E174, f174_S_eq⟩, fun x hx => by cases hx⟩
theorem shT_ok : ShOk Try.prog fnE shT := by
  intro f sh h
  unfold shT at h
  cases hx : shL.find? fun x => x.1 == f with
  | none => rw [hx] at h; cases h
  | some x =>
    rw [hx] at h
    injection h with h
    subst h
    have h1 := List.find?_some hx
    have h2 := shL_ok x (List.mem_of_find?_eq_some hx)
    rw [← (by simpa using h1 : x.1 = f)]
    exact h2
end Go.Proofs.Ythicilkmjamefaa
