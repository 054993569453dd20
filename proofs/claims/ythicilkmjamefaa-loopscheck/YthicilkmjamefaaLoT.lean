/- The functions of the program that the law may enter. -/
import Derived.Test.YthicilkmjamefaaGkTop
import Derived.Test.YthicilkmjamefaaGjCall
import Derived.Test.YthicilkmjamefaaProg
namespace Go.Proofs.Ythicilkmjamefaa
open Go.Gh
theorem ok5 : funcOk Try.f5 = true := by kernel_rfl
theorem ok22 : funcOk Try.f22 = true := by kernel_rfl
theorem ok23 : funcOk Try.f23 = true := by kernel_rfl
theorem ok24 : funcOk Try.f24 = true := by kernel_rfl
theorem ok25 : funcOk Try.f25 = true := by kernel_rfl
theorem ok26 : funcOk Try.f26 = true := by kernel_rfl
theorem ok46 : funcOk Try.f46 = true := by kernel_rfl
theorem ok69 : funcOk Try.f69 = true := by kernel_rfl
theorem ok70 : funcOk Try.f70 = true := by kernel_rfl
theorem ok71 : funcOk Try.f71 = true := by kernel_rfl
theorem ok72 : funcOk Try.f72 = true := by kernel_rfl
theorem ok73 : funcOk Try.f73 = true := by kernel_rfl
theorem ok74 : funcOk Try.f74 = true := by kernel_rfl
theorem ok75 : funcOk Try.f75 = true := by kernel_rfl
theorem ok76 : funcOk Try.f76 = true := by kernel_rfl
theorem ok77 : funcOk Try.f77 = true := by kernel_rfl
theorem ok78 : funcOk Try.f78 = true := by kernel_rfl
theorem ok79 : funcOk Try.f79 = true := by kernel_rfl
theorem ok80 : funcOk Try.f80 = true := by kernel_rfl
theorem ok112 : funcOk Try.f112 = true := by kernel_rfl
theorem ok114 : funcOk Try.f114 = true := by kernel_rfl
theorem ok115 : funcOk Try.f115 = true := by kernel_rfl
theorem ok118 : funcOk Try.f118 = true := by kernel_rfl
theorem ok135 : funcOk Try.f135 = true := by kernel_rfl
theorem ok136 : funcOk Try.f136 = true := by kernel_rfl
theorem ok137 : funcOk Try.f137 = true := by kernel_rfl
theorem ok138 : funcOk Try.f138 = true := by kernel_rfl
theorem ok139 : funcOk Try.f139 = true := by kernel_rfl
theorem ok140 : funcOk Try.f140 = true := by kernel_rfl
theorem ok141 : funcOk Try.f141 = true := by kernel_rfl
theorem ok142 : funcOk Try.f142 = true := by kernel_rfl
theorem ok143 : funcOk Try.f143 = true := by kernel_rfl
theorem ok144 : funcOk Try.f144 = true := by kernel_rfl
theorem ok145 : funcOk Try.f145 = true := by kernel_rfl
theorem ok146 : funcOk Try.f146 = true := by kernel_rfl
theorem ok151 : funcOk Try.f151 = true := by kernel_rfl
theorem ok156 : funcOk Try.f156 = true := by kernel_rfl
theorem ok164 : funcOk Try.f164 = true := by kernel_rfl
theorem ok165 : funcOk Try.f165 = true := by kernel_rfl
theorem ok171 : funcOk Try.f171 = true := by kernel_rfl
theorem ok172 : funcOk Try.f172 = true := by kernel_rfl
theorem ok173 : funcOk Try.f173 = true := by kernel_rfl
theorem ok174 : funcOk Try.f174 = true := by kernel_rfl
theorem ok185 : funcOk Try.f185 = true := by kernel_rfl
theorem ok186 : funcOk Try.f186 = true := by kernel_rfl
theorem ok206 : funcOk Try.f206 = true := by kernel_rfl
theorem ok207 : funcOk Try.f207 = true := by kernel_rfl
theorem ok208 : funcOk Try.f208 = true := by kernel_rfl
theorem ok209 : funcOk Try.f209 = true := by kernel_rfl
theorem ok210 : funcOk Try.f210 = true := by kernel_rfl
theorem ok211 : funcOk Try.f211 = true := by kernel_rfl
theorem ok212 : funcOk Try.f212 = true := by kernel_rfl
theorem ok213 : funcOk Try.f213 = true := by kernel_rfl
theorem ok214 : funcOk Try.f214 = true := by kernel_rfl
theorem ok218 : funcOk Try.f218 = true := by kernel_rfl
theorem ok219 : funcOk Try.f219 = true := by kernel_rfl
theorem ok229 : funcOk Try.f229 = true := by kernel_rfl
theorem ok230 : funcOk Try.f230 = true := by kernel_rfl
theorem ok231 : funcOk Try.f231 = true := by kernel_rfl
theorem ok236 : funcOk Try.f236 = true := by kernel_rfl
noncomputable def fnL : List (Nat × Func) := [(5, Try.f5), (22, Try.f22), (23, Try.f23), (24, Try.f24), (25, Try.f25), (26, Try.f26), (46, Try.f46), (69, Try.f69), (70, Try.f70), (71, Try.f71), (72, Try.f72), (73, Try.f73), (74, Try.f74), (75, Try.f75), (76, Try.f76), (77, Try.f77), (78, Try.f78), (79, Try.f79), (80, Try.f80), (112, Try.f112), (114, Try.f114), (115, Try.f115), (118, Try.f118), (135, Try.f135), (136, Try.f136), (137, Try.f137), (138, Try.f138), (139, Try.f139), (140, Try.f140), (141, Try.f141), (142, Try.f142), (143, Try.f143), (144, Try.f144), (145, Try.f145), (146, Try.f146), (151, Try.f151), (156, Try.f156), (164, Try.f164), (165, Try.f165), (171, Try.f171), (172, Try.f172), (173, Try.f173), (174, Try.f174), (185, Try.f185), (186, Try.f186), (206, Try.f206), (207, Try.f207), (208, Try.f208), (209, Try.f209), (210, Try.f210), (211, Try.f211), (212, Try.f212), (213, Try.f213), (214, Try.f214), (218, Try.f218), (219, Try.f219), (229, Try.f229), (230, Try.f230), (231, Try.f231), (236, Try.f236)]
/-- All of them (for the closed functions' evaluation). -/
noncomputable def fnE (f : Nat) : Option Func := (fnL.find? fun x => x.1 == f).map (·.2)
theorem fnL_ok : ∀ x ∈ fnL, Try.prog.funcs[x.1]? = some x.2 ∧ funcOk x.2 = true := by
  unfold fnL
  simp only [List.forall_mem_cons]
  exact ⟨⟨Try.func5, ok5⟩, ⟨Try.func22, ok22⟩, ⟨Try.func23, ok23⟩, ⟨Try.func24, ok24⟩, ⟨Try.func25, ok25⟩, ⟨Try.func26, ok26⟩, ⟨Try.func46, ok46⟩, ⟨Try.func69, ok69⟩, ⟨Try.func70, ok70⟩, ⟨Try.func71, ok71⟩, ⟨Try.func72, ok72⟩, ⟨Try.func73, ok73⟩, ⟨Try.func74, ok74⟩, ⟨Try.func75, ok75⟩, ⟨Try.func76, ok76⟩, ⟨Try.func77, ok77⟩, ⟨Try.func78, ok78⟩, ⟨Try.func79, ok79⟩, ⟨Try.func80, ok80⟩, ⟨Try.func112, ok112⟩, ⟨Try.func114, ok114⟩, ⟨Try.func115, ok115⟩, ⟨Try.func118, ok118⟩, ⟨Try.func135, ok135⟩, ⟨Try.func136, ok136⟩, ⟨Try.func137, ok137⟩, ⟨Try.func138, ok138⟩, ⟨Try.func139, ok139⟩, ⟨Try.func140, ok140⟩, ⟨Try.func141, ok141⟩, ⟨Try.func142, ok142⟩, ⟨Try.func143, ok143⟩, ⟨Try.func144, ok144⟩, ⟨Try.func145, ok145⟩, ⟨Try.func146, ok146⟩, ⟨Try.func151, ok151⟩, ⟨Try.func156, ok156⟩, ⟨Try.func164, ok164⟩, ⟨Try.func165, ok165⟩, ⟨Try.func171, ok171⟩, ⟨Try.func172, ok172⟩, ⟨Try.func173, ok173⟩, ⟨Try.func174, ok174⟩, ⟨Try.func185, ok185⟩, ⟨Try.func186, ok186⟩, ⟨Try.func206, ok206⟩, ⟨Try.func207, ok207⟩, ⟨Try.func208, ok208⟩, ⟨Try.func209, ok209⟩, ⟨Try.func210, ok210⟩, ⟨Try.func211, ok211⟩, ⟨Try.func212, ok212⟩, ⟨Try.func213, ok213⟩, ⟨Try.func214, ok214⟩, ⟨Try.func218, ok218⟩, ⟨Try.func219, ok219⟩, ⟨Try.func229, ok229⟩, ⟨Try.func230, ok230⟩, ⟨Try.func231, ok231⟩, ⟨Try.func236, ok236⟩, fun x hx => by cases hx⟩
theorem fnE_ok (f : Nat) (fn : Func) (h : fnE f = some fn) : Try.prog.funcs[f]? = some fn ∧ funcOk fn = true := by
  unfold fnE at h
  cases hx : fnL.find? fun x => x.1 == f with
  | none => rw [hx] at h; cases h
  | some x =>
    rw [hx] at h
    injection h with h
    subst h
    have h1 := List.find?_some hx
    have h2 := fnL_ok x (List.mem_of_find?_eq_some hx)
    rw [← (by simpa using h1 : x.1 = f)]
    exact h2
/-- Those that are entered. -/
noncomputable def fnT (f : Nat) : Option Func := bif f == 22 then none else fnE f
/-- What the closed functions answer. -/
def clo (f : Nat) : Option Value := bif f == 22 then some (.bool true) else none
theorem fnT_ok (f : Nat) (fn : Func) (h : fnT f = some fn) : Try.prog.funcs[f]? = some fn ∧ funcOk fn = true := by
  unfold fnT at h
  cases hc : (f == 22) with
  | true => rw [hc] at h; cases h
  | false => rw [hc] at h; exact fnE_ok f fn h
theorem N22 : fnT 22 = none := by kernel_rfl
theorem T5 : fnT 5 = some Try.f5 := by kernel_rfl
theorem T23 : fnT 23 = some Try.f23 := by kernel_rfl
theorem T24 : fnT 24 = some Try.f24 := by kernel_rfl
theorem T25 : fnT 25 = some Try.f25 := by kernel_rfl
theorem T26 : fnT 26 = some Try.f26 := by kernel_rfl
theorem T46 : fnT 46 = some Try.f46 := by kernel_rfl
theorem T69 : fnT 69 = some Try.f69 := by kernel_rfl
theorem T70 : fnT 70 = some Try.f70 := by kernel_rfl
theorem T71 : fnT 71 = some Try.f71 := by kernel_rfl
theorem T72 : fnT 72 = some Try.f72 := by kernel_rfl
theorem T73 : fnT 73 = some Try.f73 := by kernel_rfl
theorem T74 : fnT 74 = some Try.f74 := by kernel_rfl
theorem T75 : fnT 75 = some Try.f75 := by kernel_rfl
theorem T76 : fnT 76 = some Try.f76 := by kernel_rfl
theorem T77 : fnT 77 = some Try.f77 := by kernel_rfl
theorem T78 : fnT 78 = some Try.f78 := by kernel_rfl
theorem T79 : fnT 79 = some Try.f79 := by kernel_rfl
theorem T80 : fnT 80 = some Try.f80 := by kernel_rfl
theorem T112 : fnT 112 = some Try.f112 := by kernel_rfl
theorem T114 : fnT 114 = some Try.f114 := by kernel_rfl
theorem T115 : fnT 115 = some Try.f115 := by kernel_rfl
theorem T118 : fnT 118 = some Try.f118 := by kernel_rfl
theorem T135 : fnT 135 = some Try.f135 := by kernel_rfl
theorem T136 : fnT 136 = some Try.f136 := by kernel_rfl
theorem T137 : fnT 137 = some Try.f137 := by kernel_rfl
theorem T138 : fnT 138 = some Try.f138 := by kernel_rfl
theorem T139 : fnT 139 = some Try.f139 := by kernel_rfl
theorem T140 : fnT 140 = some Try.f140 := by kernel_rfl
theorem T141 : fnT 141 = some Try.f141 := by kernel_rfl
theorem T142 : fnT 142 = some Try.f142 := by kernel_rfl
theorem T143 : fnT 143 = some Try.f143 := by kernel_rfl
theorem T144 : fnT 144 = some Try.f144 := by kernel_rfl
theorem T145 : fnT 145 = some Try.f145 := by kernel_rfl
theorem T146 : fnT 146 = some Try.f146 := by kernel_rfl
theorem T151 : fnT 151 = some Try.f151 := by kernel_rfl
theorem T156 : fnT 156 = some Try.f156 := by kernel_rfl
theorem T164 : fnT 164 = some Try.f164 := by kernel_rfl
theorem T165 : fnT 165 = some Try.f165 := by kernel_rfl
theorem T171 : fnT 171 = some Try.f171 := by kernel_rfl
theorem T172 : fnT 172 = some Try.f172 := by kernel_rfl
theorem T173 : fnT 173 = some Try.f173 := by kernel_rfl
theorem T174 : fnT 174 = some Try.f174 := by kernel_rfl
theorem T185 : fnT 185 = some Try.f185 := by kernel_rfl
theorem T186 : fnT 186 = some Try.f186 := by kernel_rfl
theorem T206 : fnT 206 = some Try.f206 := by kernel_rfl
theorem T207 : fnT 207 = some Try.f207 := by kernel_rfl
theorem T208 : fnT 208 = some Try.f208 := by kernel_rfl
theorem T209 : fnT 209 = some Try.f209 := by kernel_rfl
theorem T210 : fnT 210 = some Try.f210 := by kernel_rfl
theorem T211 : fnT 211 = some Try.f211 := by kernel_rfl
theorem T212 : fnT 212 = some Try.f212 := by kernel_rfl
theorem T213 : fnT 213 = some Try.f213 := by kernel_rfl
theorem T214 : fnT 214 = some Try.f214 := by kernel_rfl
theorem T218 : fnT 218 = some Try.f218 := by kernel_rfl
theorem T219 : fnT 219 = some Try.f219 := by kernel_rfl
theorem T229 : fnT 229 = some Try.f229 := by kernel_rfl
theorem T230 : fnT 230 = some Try.f230 := by kernel_rfl
theorem T231 : fnT 231 = some Try.f231 := by kernel_rfl
theorem T236 : fnT 236 = some Try.f236 := by kernel_rfl
end Go.Proofs.Ythicilkmjamefaa
