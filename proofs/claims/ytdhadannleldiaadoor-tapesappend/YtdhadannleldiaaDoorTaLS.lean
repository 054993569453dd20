/- PRINTED by mks.py: the table of the functions' shallow forms. -/
import Derived.Test.YtdhadannleldiaaDoorGpShCall
import Derived.Test.YtdhadannleldiaaDoorTaT
import Derived.Test.YtdhadannleldiaaDoorTaS1
import Derived.Test.YtdhadannleldiaaDoorTaS2
import Derived.Test.YtdhadannleldiaaDoorTaS3
import Derived.Test.YtdhadannleldiaaDoorTaS4
import Derived.Test.YtdhadannleldiaaDoorTaS5
namespace Go.Proofs.YtdhadannleldiaaDoor
open Go.Gh
set_option linter.unusedVariables false
noncomputable def f5_S : Sh := sh1 Tryd.prog Tryd.f5 f5_sh
theorem f5_S_eq : ∀ (call : Handle) (k : Nat) (args : List Value) (H : GH), gFunc Tryd.prog call k Tryd.f5 args H = f5_S call k args H := sh1_eq f5_eq
noncomputable def f6_S : Sh := sh2 Tryd.prog Tryd.f6 f6_sh
theorem f6_S_eq : ∀ (call : Handle) (k : Nat) (args : List Value) (H : GH), gFunc Tryd.prog call k Tryd.f6 args H = f6_S call k args H := sh2_eq f6_eq
noncomputable def f7_S : Sh := sh1 Tryd.prog Tryd.f7 f7_sh
theorem f7_S_eq : ∀ (call : Handle) (k : Nat) (args : List Value) (H : GH), gFunc Tryd.prog call k Tryd.f7 args H = f7_S call k args H := sh1_eq f7_eq
noncomputable def f8_S : Sh := sh1 Tryd.prog Tryd.f8 f8_sh
theorem f8_S_eq : ∀ (call : Handle) (k : Nat) (args : List Value) (H : GH), gFunc Tryd.prog call k Tryd.f8 args H = f8_S call k args H := sh1_eq f8_eq
noncomputable def f9_S : Sh := sh1 Tryd.prog Tryd.f9 f9_sh
theorem f9_S_eq : ∀ (call : Handle) (k : Nat) (args : List Value) (H : GH), gFunc Tryd.prog call k Tryd.f9 args H = f9_S call k args H := sh1_eq f9_eq
noncomputable def f10_S : Sh := sh2 Tryd.prog Tryd.f10 f10_sh
theorem f10_S_eq : ∀ (call : Handle) (k : Nat) (args : List Value) (H : GH), gFunc Tryd.prog call k Tryd.f10 args H = f10_S call k args H := sh2_eq f10_eq
noncomputable def f11_S : Sh := sh1 Tryd.prog Tryd.f11 f11_sh
theorem f11_S_eq : ∀ (call : Handle) (k : Nat) (args : List Value) (H : GH), gFunc Tryd.prog call k Tryd.f11 args H = f11_S call k args H := sh1_eq f11_eq
noncomputable def f12_S : Sh := sh1 Tryd.prog Tryd.f12 f12_sh
theorem f12_S_eq : ∀ (call : Handle) (k : Nat) (args : List Value) (H : GH), gFunc Tryd.prog call k Tryd.f12 args H = f12_S call k args H := sh1_eq f12_eq
noncomputable def f14_S : Sh := sh1 Tryd.prog Tryd.f14 f14_sh
theorem f14_S_eq : ∀ (call : Handle) (k : Nat) (args : List Value) (H : GH), gFunc Tryd.prog call k Tryd.f14 args H = f14_S call k args H := sh1_eq f14_eq
noncomputable def f15_S : Sh := sh1 Tryd.prog Tryd.f15 f15_sh
theorem f15_S_eq : ∀ (call : Handle) (k : Nat) (args : List Value) (H : GH), gFunc Tryd.prog call k Tryd.f15 args H = f15_S call k args H := sh1_eq f15_eq
noncomputable def f16_S : Sh := sh1 Tryd.prog Tryd.f16 f16_sh
theorem f16_S_eq : ∀ (call : Handle) (k : Nat) (args : List Value) (H : GH), gFunc Tryd.prog call k Tryd.f16 args H = f16_S call k args H := sh1_eq f16_eq
noncomputable def f17_S : Sh := sh1 Tryd.prog Tryd.f17 f17_sh
theorem f17_S_eq : ∀ (call : Handle) (k : Nat) (args : List Value) (H : GH), gFunc Tryd.prog call k Tryd.f17 args H = f17_S call k args H := sh1_eq f17_eq
noncomputable def f18_S : Sh := sh1 Tryd.prog Tryd.f18 f18_sh
theorem f18_S_eq : ∀ (call : Handle) (k : Nat) (args : List Value) (H : GH), gFunc Tryd.prog call k Tryd.f18 args H = f18_S call k args H := sh1_eq f18_eq
noncomputable def f19_S : Sh := sh2 Tryd.prog Tryd.f19 f19_sh
theorem f19_S_eq : ∀ (call : Handle) (k : Nat) (args : List Value) (H : GH), gFunc Tryd.prog call k Tryd.f19 args H = f19_S call k args H := sh2_eq f19_eq
noncomputable def f20_S : Sh := sh1 Tryd.prog Tryd.f20 f20_sh
theorem f20_S_eq : ∀ (call : Handle) (k : Nat) (args : List Value) (H : GH), gFunc Tryd.prog call k Tryd.f20 args H = f20_S call k args H := sh1_eq f20_eq
noncomputable def f21_S : Sh := sh1 Tryd.prog Tryd.f21 f21_sh
theorem f21_S_eq : ∀ (call : Handle) (k : Nat) (args : List Value) (H : GH), gFunc Tryd.prog call k Tryd.f21 args H = f21_S call k args H := sh1_eq f21_eq
noncomputable def f22_S : Sh := sh1 Tryd.prog Tryd.f22 f22_sh
theorem f22_S_eq : ∀ (call : Handle) (k : Nat) (args : List Value) (H : GH), gFunc Tryd.prog call k Tryd.f22 args H = f22_S call k args H := sh1_eq f22_eq
noncomputable def f23_S : Sh := sh1 Tryd.prog Tryd.f23 f23_sh
theorem f23_S_eq : ∀ (call : Handle) (k : Nat) (args : List Value) (H : GH), gFunc Tryd.prog call k Tryd.f23 args H = f23_S call k args H := sh1_eq f23_eq
noncomputable def f24_S : Sh := sh1 Tryd.prog Tryd.f24 f24_sh
theorem f24_S_eq : ∀ (call : Handle) (k : Nat) (args : List Value) (H : GH), gFunc Tryd.prog call k Tryd.f24 args H = f24_S call k args H := sh1_eq f24_eq
noncomputable def f25_S : Sh := sh1 Tryd.prog Tryd.f25 f25_sh
theorem f25_S_eq : ∀ (call : Handle) (k : Nat) (args : List Value) (H : GH), gFunc Tryd.prog call k Tryd.f25 args H = f25_S call k args H := sh1_eq f25_eq
noncomputable def f26_S : Sh := sh3 Tryd.prog Tryd.f26 f26_sh
theorem f26_S_eq : ∀ (call : Handle) (k : Nat) (args : List Value) (H : GH), gFunc Tryd.prog call k Tryd.f26 args H = f26_S call k args H := sh3_eq f26_eq
noncomputable def f27_S : Sh := sh1 Tryd.prog Tryd.f27 f27_sh
theorem f27_S_eq : ∀ (call : Handle) (k : Nat) (args : List Value) (H : GH), gFunc Tryd.prog call k Tryd.f27 args H = f27_S call k args H := sh1_eq f27_eq
noncomputable def f28_S : Sh := sh1 Tryd.prog Tryd.f28 f28_sh
theorem f28_S_eq : ∀ (call : Handle) (k : Nat) (args : List Value) (H : GH), gFunc Tryd.prog call k Tryd.f28 args H = f28_S call k args H := sh1_eq f28_eq
noncomputable def f29_S : Sh := sh2 Tryd.prog Tryd.f29 f29_sh
theorem f29_S_eq : ∀ (call : Handle) (k : Nat) (args : List Value) (H : GH), gFunc Tryd.prog call k Tryd.f29 args H = f29_S call k args H := sh2_eq f29_eq
noncomputable def f30_S : Sh := sh2 Tryd.prog Tryd.f30 f30_sh
theorem f30_S_eq : ∀ (call : Handle) (k : Nat) (args : List Value) (H : GH), gFunc Tryd.prog call k Tryd.f30 args H = f30_S call k args H := sh2_eq f30_eq
noncomputable def f31_S : Sh := sh2 Tryd.prog Tryd.f31 f31_sh
theorem f31_S_eq : ∀ (call : Handle) (k : Nat) (args : List Value) (H : GH), gFunc Tryd.prog call k Tryd.f31 args H = f31_S call k args H := sh2_eq f31_eq
noncomputable def f32_S : Sh := sh1 Tryd.prog Tryd.f32 f32_sh
theorem f32_S_eq : ∀ (call : Handle) (k : Nat) (args : List Value) (H : GH), gFunc Tryd.prog call k Tryd.f32 args H = f32_S call k args H := sh1_eq f32_eq
noncomputable def f33_S : Sh := sh0 Tryd.prog Tryd.f33 f33_sh
theorem f33_S_eq : ∀ (call : Handle) (k : Nat) (args : List Value) (H : GH), gFunc Tryd.prog call k Tryd.f33 args H = f33_S call k args H := sh0_eq f33_eq
noncomputable def f34_S : Sh := sh1 Tryd.prog Tryd.f34 f34_sh
theorem f34_S_eq : ∀ (call : Handle) (k : Nat) (args : List Value) (H : GH), gFunc Tryd.prog call k Tryd.f34 args H = f34_S call k args H := sh1_eq f34_eq
noncomputable def f35_S : Sh := sh3 Tryd.prog Tryd.f35 f35_sh
theorem f35_S_eq : ∀ (call : Handle) (k : Nat) (args : List Value) (H : GH), gFunc Tryd.prog call k Tryd.f35 args H = f35_S call k args H := sh3_eq f35_eq
noncomputable def shL : List (Nat × Sh) := [(5, f5_S), (6, f6_S), (7, f7_S), (8, f8_S), (9, f9_S), (10, f10_S), (11, f11_S), (12, f12_S), (14, f14_S), (15, f15_S), (16, f16_S), (17, f17_S), (18, f18_S), (19, f19_S), (20, f20_S), (21, f21_S), (22, f22_S), (23, f23_S), (24, f24_S), (25, f25_S), (26, f26_S), (27, f27_S), (28, f28_S), (29, f29_S), (30, f30_S), (31, f31_S), (32, f32_S), (33, f33_S), (34, f34_S), (35, f35_S)]
noncomputable def shT (f : Nat) : Option Sh := (shL.find? fun x => x.1 == f).map (·.2)
theorem E5 : fnE 5 = some Tryd.f5 := by kernel_rfl
theorem E6 : fnE 6 = some Tryd.f6 := by kernel_rfl
theorem E7 : fnE 7 = some Tryd.f7 := by kernel_rfl
theorem E8 : fnE 8 = some Tryd.f8 := by kernel_rfl
theorem E9 : fnE 9 = some Tryd.f9 := by kernel_rfl
theorem E10 : fnE 10 = some Tryd.f10 := by kernel_rfl
theorem E11 : fnE 11 = some Tryd.f11 := by kernel_rfl
theorem E12 : fnE 12 = some Tryd.f12 := by kernel_rfl
theorem E14 : fnE 14 = some Tryd.f14 := by kernel_rfl
theorem E15 : fnE 15 = some Tryd.f15 := by kernel_rfl
theorem E16 : fnE 16 = some Tryd.f16 := by kernel_rfl
theorem E17 : fnE 17 = some Tryd.f17 := by kernel_rfl
theorem E18 : fnE 18 = some Tryd.f18 := by kernel_rfl
theorem E19 : fnE 19 = some Tryd.f19 := by kernel_rfl
theorem E20 : fnE 20 = some Tryd.f20 := by kernel_rfl
theorem E21 : fnE 21 = some Tryd.f21 := by kernel_rfl
theorem E22 : fnE 22 = some Tryd.f22 := by kernel_rfl
theorem E23 : fnE 23 = some Tryd.f23 := by kernel_rfl
theorem E24 : fnE 24 = some Tryd.f24 := by kernel_rfl
theorem E25 : fnE 25 = some Tryd.f25 := by kernel_rfl
theorem E26 : fnE 26 = some Tryd.f26 := by kernel_rfl
theorem E27 : fnE 27 = some Tryd.f27 := by kernel_rfl
theorem E28 : fnE 28 = some Tryd.f28 := by kernel_rfl
theorem E29 : fnE 29 = some Tryd.f29 := by kernel_rfl
theorem E30 : fnE 30 = some Tryd.f30 := by kernel_rfl
theorem E31 : fnE 31 = some Tryd.f31 := by kernel_rfl
theorem E32 : fnE 32 = some Tryd.f32 := by kernel_rfl
theorem E33 : fnE 33 = some Tryd.f33 := by kernel_rfl
theorem E34 : fnE 34 = some Tryd.f34 := by kernel_rfl
theorem E35 : fnE 35 = some Tryd.f35 := by kernel_rfl
theorem shL_ok : ∀ x ∈ shL, ∃ fn, fnE x.1 = some fn ∧ ∀ call k args H, gFunc Tryd.prog call k fn args H = x.2 call k args H := by
  unfold shL
  simp only [List.forall_mem_cons]
  exact ⟨⟨_, E5, f5_S_eq⟩, ⟨_, E6, f6_S_eq⟩, ⟨_, E7, f7_S_eq⟩, ⟨_, E8, f8_S_eq⟩, ⟨_, E9, f9_S_eq⟩, ⟨_, E10, f10_S_eq⟩, ⟨_, E11, f11_S_eq⟩, ⟨_, E12, f12_S_eq⟩, ⟨_, E14, f14_S_eq⟩, ⟨_, E15, f15_S_eq⟩, ⟨_, E16, f16_S_eq⟩, ⟨_, E17, f17_S_eq⟩, ⟨_, E18, f18_S_eq⟩, ⟨_, E19, f19_S_eq⟩, ⟨_, E20, f20_S_eq⟩, ⟨_, E21, f21_S_eq⟩, ⟨_, E22, f22_S_eq⟩, ⟨_, E23, f23_S_eq⟩, ⟨_, E24, f24_S_eq⟩, ⟨_, E25, f25_S_eq⟩, ⟨_, E26, f26_S_eq⟩, ⟨_, E27, f27_S_eq⟩, ⟨_, E28, f28_S_eq⟩, ⟨_, E29, f29_S_eq⟩, ⟨_, E30, f30_S_eq⟩, ⟨_, E31, f31_S_eq⟩, ⟨_, E32, f32_S_eq⟩, ⟨_, E33, f33_S_eq⟩, ⟨_, E34, f34_S_eq⟩, ⟨_, E35, f35_S_eq⟩, fun x hx => by cases hx⟩
theorem shT_ok : ShOk Tryd.prog fnE shT := by
  intro f sh h
  unfold shT at h
  cases hx : shL.find? fun x => x.1 == f with
  | none => rw [hx] at h; cases h
  | some x =>
    rw [hx] at h
    injection h with h
    subst h
    have h1 := List.find?_some hx
    have h2 := shL_ok x (List.mem_of_find?_eq_some hx)
    rw [← (by simpa using h1 : x.1 = f)]
    exact h2
end Go.Proofs.YtdhadannleldiaaDoor
