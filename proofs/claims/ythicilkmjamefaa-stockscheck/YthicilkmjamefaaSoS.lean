/- PRINTED by mks.py: the table of the functions' shallow forms. -/
import Derived.Test.YthicilkmjamefaaGpShCall
import Derived.Test.YthicilkmjamefaaSoT
import Derived.Test.YthicilkmjamefaaShS34
import Derived.Test.YthicilkmjamefaaShS35
import Derived.Test.YthicilkmjamefaaShS7
import Derived.Test.YthicilkmjamefaaShS98
namespace Go.Proofs.Ythicilkmjamefaa
open Go.Gh
set_option linter.unusedVariables false
noncomputable def f7_S : Sh := sh3 Try.prog Try.f7 f7_sh
theorem f7_S_eq : ∀ (call : Handle) (k : Nat) (args : List Value) (H : GH), gFunc Try.prog call k Try.f7 args H = f7_S call k args H := sh3_eq f7_eq
noncomputable def f34_S : Sh := sh1 Try.prog Try.f34 f34_sh
theorem f34_S_eq : ∀ (call : Handle) (k : Nat) (args : List Value) (H : GH), gFunc Try.prog call k Try.f34 args H = f34_S call k args H := sh1_eq f34_eq
noncomputable def f35_S : Sh := sh2 Try.prog Try.f35 f35_sh
theorem f35_S_eq : ∀ (call : Handle) (k : Nat) (args : List Value) (H : GH), gFunc Try.prog call k Try.f35 args H = f35_S call k args H := sh2_eq f35_eq
noncomputable def f36_S : Sh := sh2 Try.prog Try.f36 f36_sh
theorem f36_S_eq : ∀ (call : Handle) (k : Nat) (args : List Value) (H : GH), gFunc Try.prog call k Try.f36 args H = f36_S call k args H := sh2_eq f36_eq
noncomputable def f37_S : Sh := sh2 Try.prog Try.f37 f37_sh
theorem f37_S_eq : ∀ (call : Handle) (k : Nat) (args : List Value) (H : GH), gFunc Try.prog call k Try.f37 args H = f37_S call k args H := sh2_eq f37_eq
noncomputable def f38_S : Sh := sh4 Try.prog Try.f38 f38_sh
theorem f38_S_eq : ∀ (call : Handle) (k : Nat) (args : List Value) (H : GH), gFunc Try.prog call k Try.f38 args H = f38_S call k args H := sh4_eq f38_eq
noncomputable def f39_S : Sh := sh2 Try.prog Try.f39 f39_sh
theorem f39_S_eq : ∀ (call : Handle) (k : Nat) (args : List Value) (H : GH), gFunc Try.prog call k Try.f39 args H = f39_S call k args H := sh2_eq f39_eq
noncomputable def f40_S : Sh := sh2 Try.prog Try.f40 f40_sh
theorem f40_S_eq : ∀ (call : Handle) (k : Nat) (args : List Value) (H : GH), gFunc Try.prog call k Try.f40 args H = f40_S call k args H := sh2_eq f40_eq
noncomputable def f94_S : Sh := sh1 Try.prog Try.f94 f94_sh
theorem f94_S_eq : ∀ (call : Handle) (k : Nat) (args : List Value) (H : GH), gFunc Try.prog call k Try.f94 args H = f94_S call k args H := sh1_eq f94_eq
noncomputable def f95_S : Sh := sh1 Try.prog Try.f95 f95_sh
theorem f95_S_eq : ∀ (call : Handle) (k : Nat) (args : List Value) (H : GH), gFunc Try.prog call k Try.f95 args H = f95_S call k args H := sh1_eq f95_eq
noncomputable def f96_S : Sh := sh2 Try.prog Try.f96 f96_sh
theorem f96_S_eq : ∀ (call : Handle) (k : Nat) (args : List Value) (H : GH), gFunc Try.prog call k Try.f96 args H = f96_S call k args H := sh2_eq f96_eq
noncomputable def f97_S : Sh := sh1 Try.prog Try.f97 f97_sh
theorem f97_S_eq : ∀ (call : Handle) (k : Nat) (args : List Value) (H : GH), gFunc Try.prog call k Try.f97 args H = f97_S call k args H := sh1_eq f97_eq
noncomputable def f98_S : Sh := sh1 Try.prog Try.f98 f98_sh
theorem f98_S_eq : ∀ (call : Handle) (k : Nat) (args : List Value) (H : GH), gFunc Try.prog call k Try.f98 args H = f98_S call k args H := sh1_eq f98_eq
noncomputable def f99_S : Sh := sh1 Try.prog Try.f99 f99_sh
theorem f99_S_eq : ∀ (call : Handle) (k : Nat) (args : List Value) (H : GH), gFunc Try.prog call k Try.f99 args H = f99_S call k args H := sh1_eq f99_eq
noncomputable def f100_S : Sh := sh2 Try.prog Try.f100 f100_sh
theorem f100_S_eq : ∀ (call : Handle) (k : Nat) (args : List Value) (H : GH), gFunc Try.prog call k Try.f100 args H = f100_S call k args H := sh2_eq f100_eq
noncomputable def f101_S : Sh := sh1 Try.prog Try.f101 f101_sh
theorem f101_S_eq : ∀ (call : Handle) (k : Nat) (args : List Value) (H : GH), gFunc Try.prog call k Try.f101 args H = f101_S call k args H := sh1_eq f101_eq
noncomputable def f102_S : Sh := sh2 Try.prog Try.f102 f102_sh
theorem f102_S_eq : ∀ (call : Handle) (k : Nat) (args : List Value) (H : GH), gFunc Try.prog call k Try.f102 args H = f102_S call k args H := sh2_eq f102_eq
noncomputable def f103_S : Sh := sh3 Try.prog Try.f103 f103_sh
theorem f103_S_eq : ∀ (call : Handle) (k : Nat) (args : List Value) (H : GH), gFunc Try.prog call k Try.f103 args H = f103_S call k args H := sh3_eq f103_eq
noncomputable def f104_S : Sh := sh3 Try.prog Try.f104 f104_sh
theorem f104_S_eq : ∀ (call : Handle) (k : Nat) (args : List Value) (H : GH), gFunc Try.prog call k Try.f104 args H = f104_S call k args H := sh3_eq f104_eq
noncomputable def f105_S : Sh := sh1 Try.prog Try.f105 f105_sh
theorem f105_S_eq : ∀ (call : Handle) (k : Nat) (args : List Value) (H : GH), gFunc Try.prog call k Try.f105 args H = f105_S call k args H := sh1_eq f105_eq
noncomputable def f106_S : Sh := sh2 Try.prog Try.f106 f106_sh
theorem f106_S_eq : ∀ (call : Handle) (k : Nat) (args : List Value) (H : GH), gFunc Try.prog call k Try.f106 args H = f106_S call k args H := sh2_eq f106_eq
noncomputable def f107_S : Sh := sh2 Try.prog Try.f107 f107_sh
theorem f107_S_eq : ∀ (call : Handle) (k : Nat) (args : List Value) (H : GH), gFunc Try.prog call k Try.f107 args H = f107_S call k args H := sh2_eq f107_eq
noncomputable def f108_S : Sh := sh3 Try.prog Try.f108 f108_sh
theorem f108_S_eq : ∀ (call : Handle) (k : Nat) (args : List Value) (H : GH), gFunc Try.prog call k Try.f108 args H = f108_S call k args H := sh3_eq f108_eq
noncomputable def f109_S : Sh := sh3 Try.prog Try.f109 f109_sh
theorem f109_S_eq : ∀ (call : Handle) (k : Nat) (args : List Value) (H : GH), gFunc Try.prog call k Try.f109 args H = f109_S call k args H := sh3_eq f109_eq
noncomputable def f112_S : Sh := sh2 Try.prog Try.f112 f112_sh
theorem f112_S_eq : ∀ (call : Handle) (k : Nat) (args : List Value) (H : GH), gFunc Try.prog call k Try.f112 args H = f112_S call k args H := sh2_eq f112_eq
noncomputable def f113_S : Sh := sh1 Try.prog Try.f113 f113_sh
theorem f113_S_eq : ∀ (call : Handle) (k : Nat) (args : List Value) (H : GH), gFunc Try.prog call k Try.f113 args H = f113_S call k args H := sh1_eq f113_eq
noncomputable def f156_S : Sh := sh1 Try.prog Try.f156 f156_sh
theorem f156_S_eq : ∀ (call : Handle) (k : Nat) (args : List Value) (H : GH), gFunc Try.prog call k Try.f156 args H = f156_S call k args H := sh1_eq f156_eq
noncomputable def f157_S : Sh := sh1 Try.prog Try.f157 f157_sh
theorem f157_S_eq : ∀ (call : Handle) (k : Nat) (args : List Value) (H : GH), gFunc Try.prog call k Try.f157 args H = f157_S call k args H := sh1_eq f157_eq
noncomputable def f158_S : Sh := sh1 Try.prog Try.f158 f158_sh
theorem f158_S_eq : ∀ (call : Handle) (k : Nat) (args : List Value) (H : GH), gFunc Try.prog call k Try.f158 args H = f158_S call k args H := sh1_eq f158_eq
noncomputable def f159_S : Sh := sh2 Try.prog Try.f159 f159_sh
theorem f159_S_eq : ∀ (call : Handle) (k : Nat) (args : List Value) (H : GH), gFunc Try.prog call k Try.f159 args H = f159_S call k args H := sh2_eq f159_eq
noncomputable def f162_S : Sh := sh3 Try.prog Try.f162 f162_sh
theorem f162_S_eq : ∀ (call : Handle) (k : Nat) (args : List Value) (H : GH), gFunc Try.prog call k Try.f162 args H = f162_S call k args H := sh3_eq f162_eq
noncomputable def f164_S : Sh := sh1 Try.prog Try.f164 f164_sh
theorem f164_S_eq : ∀ (call : Handle) (k : Nat) (args : List Value) (H : GH), gFunc Try.prog call k Try.f164 args H = f164_S call k args H := sh1_eq f164_eq
noncomputable def shL : List (Nat × Sh) := [(7, f7_S), (34, f34_S), (35, f35_S), (36, f36_S), (37, f37_S), (38, f38_S), (39, f39_S), (40, f40_S), (94, f94_S), (95, f95_S), (96, f96_S), (97, f97_S), (98, f98_S), (99, f99_S), (100, f100_S), (101, f101_S), (102, f102_S), (103, f103_S), (104, f104_S), (105, f105_S), (106, f106_S), (107, f107_S), (108, f108_S), (109, f109_S), (112, f112_S), (113, f113_S), (156, f156_S), (157, f157_S), (158, f158_S), (159, f159_S), (162, f162_S), (164, f164_S)]
noncomputable def shT (f : Nat) : Option Sh := (shL.find? fun x => x.1 == f).map (·.2)
theorem E7 : fnE 7 = some Try.f7 := by kernel_rfl
theorem E34 : fnE 34 = some Try.f34 := by kernel_rfl
theorem E35 : fnE 35 = some Try.f35 := by kernel_rfl
theorem E36 : fnE 36 = some Try.f36 := by kernel_rfl
theorem E37 : fnE 37 = some Try.f37 := by kernel_rfl
theorem E38 : fnE 38 = some Try.f38 := by kernel_rfl
theorem E39 : fnE 39 = some Try.f39 := by kernel_rfl
theorem E40 : fnE 40 = some Try.f40 := by kernel_rfl
theorem E94 : fnE 94 = some Try.f94 := by kernel_rfl
theorem E95 : fnE 95 = some Try.f95 := by kernel_rfl
theorem E96 : fnE 96 = some Try.f96 := by kernel_rfl
theorem E97 : fnE 97 = some Try.f97 := by kernel_rfl
theorem E98 : fnE 98 = some Try.f98 := by kernel_rfl
theorem E99 : fnE 99 = some Try.f99 := by kernel_rfl
theorem E100 : fnE 100 = some Try.f100 := by kernel_rfl
theorem E101 : fnE 101 = some Try.f101 := by kernel_rfl
theorem E102 : fnE 102 = some Try.f102 := by kernel_rfl
theorem E103 : fnE 103 = some Try.f103 := by kernel_rfl
theorem E104 : fnE 104 = some Try.f104 := by kernel_rfl
theorem E105 : fnE 105 = some Try.f105 := by kernel_rfl
theorem E106 : fnE 106 = some Try.f106 := by kernel_rfl
theorem E107 : fnE 107 = some Try.f107 := by kernel_rfl
theorem E108 : fnE 108 = some Try.f108 := by kernel_rfl
theorem E109 : fnE 109 = some Try.f109 := by kernel_rfl
theorem E112 : fnE 112 = some Try.f112 := by kernel_rfl
theorem E113 : fnE 113 = some Try.f113 := by kernel_rfl
theorem E156 : fnE 156 = some Try.f156 := by kernel_rfl
theorem E157 : fnE 157 = some Try.f157 := by kernel_rfl
theorem E158 : fnE 158 = some Try.f158 := by kernel_rfl
theorem E159 : fnE 159 = some Try.f159 := by kernel_rfl
theorem E162 : fnE 162 = some Try.f162 := by kernel_rfl
theorem E164 : fnE 164 = some Try.f164 := by kernel_rfl
theorem shL_ok : ∀ x ∈ shL, ∃ fn, fnE x.1 = some fn ∧ ∀ call k args H, gFunc Try.prog call k fn args H = x.2 call k args H := by
  unfold shL
  simp only [List.forall_mem_cons]
  exact ⟨⟨_, E7, f7_S_eq⟩, ⟨_, E34, f34_S_eq⟩, ⟨_, E35, f35_S_eq⟩, ⟨_, E36, f36_S_eq⟩, ⟨_, E37, f37_S_eq⟩, ⟨_, E38, f38_S_eq⟩, ⟨_, E39, f39_S_eq⟩, ⟨_, E40, f40_S_eq⟩, ⟨_, E94, f94_S_eq⟩, ⟨_, E95, f95_S_eq⟩, ⟨_, E96, f96_S_eq⟩, ⟨_, E97, f97_S_eq⟩, ⟨_, E98, f98_S_eq⟩, ⟨_, E99, f99_S_eq⟩, ⟨_, E100, f100_S_eq⟩, ⟨_, E101, f101_S_eq⟩, ⟨_, E102, f102_S_eq⟩, ⟨_, E103, f103_S_eq⟩, ⟨_, E104, f104_S_eq⟩, ⟨_, E105, f105_S_eq⟩, ⟨_, E106, f106_S_eq⟩, ⟨_, E107, f107_S_eq⟩, ⟨_, E108, f108_S_eq⟩, ⟨_, E109, f109_S_eq⟩, ⟨_, E112, f112_S_eq⟩, ⟨_, E113, f113_S_eq⟩, ⟨_, E156, f156_S_eq⟩, ⟨_, E157, f157_S_eq⟩, ⟨_, E158, f158_S_eq⟩, ⟨_, E159, f159_S_eq⟩, ⟨_, E162, f162_S_eq⟩, ⟨_, E164, f164_S_eq⟩, fun x hx => by cases hx⟩
theorem shT_ok : ShOk Try.prog fnE shT := by
  intro f sh h
  unfold shT at h
  cases hx : shL.find? fun x => x.1 == f with
  | none => rw [hx] at h; cases h
  | some x =>
    rw [hx] at h
    injection h with h
    subst h
    have h1 := List.find?_some hx
    have h2 := shL_ok x (List.mem_of_find?_eq_some hx)
    rw [← (by simpa using h1 : x.1 = f)]
    exact h2
end Go.Proofs.Ythicilkmjamefaa
