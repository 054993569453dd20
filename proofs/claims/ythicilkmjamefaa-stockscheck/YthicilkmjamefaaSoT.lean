/- The functions of the program that the law may enter. -/
import Derived.Test.YthicilkmjamefaaGkTop
import Derived.Test.YthicilkmjamefaaGjCall
import Derived.Test.YthicilkmjamefaaProg
namespace Go.Proofs.Ythicilkmjamefaa
open Go.Gh
theorem ok7 : funcOk Try.f7 = true := by kernel_rfl
theorem ok33 : funcOk Try.f33 = true := by kernel_rfl
theorem ok34 : funcOk Try.f34 = true := by kernel_rfl
theorem ok35 : funcOk Try.f35 = true := by kernel_rfl
theorem ok36 : funcOk Try.f36 = true := by kernel_rfl
theorem ok37 : funcOk Try.f37 = true := by kernel_rfl
theorem ok38 : funcOk Try.f38 = true := by kernel_rfl
theorem ok39 : funcOk Try.f39 = true := by kernel_rfl
theorem ok40 : funcOk Try.f40 = true := by kernel_rfl
theorem ok92 : funcOk Try.f92 = true := by kernel_rfl
theorem ok93 : funcOk Try.f93 = true := by kernel_rfl
theorem ok94 : funcOk Try.f94 = true := by kernel_rfl
theorem ok95 : funcOk Try.f95 = true := by kernel_rfl
theorem ok96 : funcOk Try.f96 = true := by kernel_rfl
theorem ok97 : funcOk Try.f97 = true := by kernel_rfl
theorem ok98 : funcOk Try.f98 = true := by kernel_rfl
theorem ok99 : funcOk Try.f99 = true := by kernel_rfl
theorem ok100 : funcOk Try.f100 = true := by kernel_rfl
theorem ok101 : funcOk Try.f101 = true := by kernel_rfl
theorem ok102 : funcOk Try.f102 = true := by kernel_rfl
theorem ok103 : funcOk Try.f103 = true := by kernel_rfl
theorem ok104 : funcOk Try.f104 = true := by kernel_rfl
theorem ok105 : funcOk Try.f105 = true := by kernel_rfl
theorem ok106 : funcOk Try.f106 = true := by kernel_rfl
theorem ok107 : funcOk Try.f107 = true := by kernel_rfl
theorem ok108 : funcOk Try.f108 = true := by kernel_rfl
theorem ok109 : funcOk Try.f109 = true := by kernel_rfl
theorem ok110 : funcOk Try.f110 = true := by kernel_rfl
theorem ok111 : funcOk Try.f111 = true := by kernel_rfl
theorem ok112 : funcOk Try.f112 = true := by kernel_rfl
theorem ok113 : funcOk Try.f113 = true := by kernel_rfl
theorem ok151 : funcOk Try.f151 = true := by kernel_rfl
theorem ok156 : funcOk Try.f156 = true := by kernel_rfl
theorem ok157 : funcOk Try.f157 = true := by kernel_rfl
theorem ok158 : funcOk Try.f158 = true := by kernel_rfl
theorem ok159 : funcOk Try.f159 = true := by kernel_rfl
theorem ok160 : funcOk Try.f160 = true := by kernel_rfl
theorem ok161 : funcOk Try.f161 = true := by kernel_rfl
theorem ok162 : funcOk Try.f162 = true := by kernel_rfl
theorem ok163 : funcOk Try.f163 = true := by kernel_rfl
theorem ok164 : funcOk Try.f164 = true := by kernel_rfl
theorem ok185 : funcOk Try.f185 = true := by kernel_rfl
theorem ok186 : funcOk Try.f186 = true := by kernel_rfl
theorem ok188 : funcOk Try.f188 = true := by kernel_rfl
theorem ok189 : funcOk Try.f189 = true := by kernel_rfl
theorem ok190 : funcOk Try.f190 = true := by kernel_rfl
theorem ok191 : funcOk Try.f191 = true := by kernel_rfl
theorem ok192 : funcOk Try.f192 = true := by kernel_rfl
theorem ok193 : funcOk Try.f193 = true := by kernel_rfl
theorem ok194 : funcOk Try.f194 = true := by kernel_rfl
theorem ok195 : funcOk Try.f195 = true := by kernel_rfl
theorem ok196 : funcOk Try.f196 = true := by kernel_rfl
theorem ok218 : funcOk Try.f218 = true := by kernel_rfl
theorem ok219 : funcOk Try.f219 = true := by kernel_rfl
theorem ok222 : funcOk Try.f222 = true := by kernel_rfl
theorem ok223 : funcOk Try.f223 = true := by kernel_rfl
theorem ok224 : funcOk Try.f224 = true := by kernel_rfl
theorem ok225 : funcOk Try.f225 = true := by kernel_rfl
theorem ok234 : funcOk Try.f234 = true := by kernel_rfl
noncomputable def fnL : List (Nat × Func) := [(7, Try.f7), (33, Try.f33), (34, Try.f34), (35, Try.f35), (36, Try.f36), (37, Try.f37), (38, Try.f38), (39, Try.f39), (40, Try.f40), (92, Try.f92), (93, Try.f93), (94, Try.f94), (95, Try.f95), (96, Try.f96), (97, Try.f97), (98, Try.f98), (99, Try.f99), (100, Try.f100), (101, Try.f101), (102, Try.f102), (103, Try.f103), (104, Try.f104), (105, Try.f105), (106, Try.f106), (107, Try.f107), (108, Try.f108), (109, Try.f109), (110, Try.f110), (111, Try.f111), (112, Try.f112), (113, Try.f113), (151, Try.f151), (156, Try.f156), (157, Try.f157), (158, Try.f158), (159, Try.f159), (160, Try.f160), (161, Try.f161), (162, Try.f162), (163, Try.f163), (164, Try.f164), (185, Try.f185), (186, Try.f186), (188, Try.f188), (189, Try.f189), (190, Try.f190), (191, Try.f191), (192, Try.f192), (193, Try.f193), (194, Try.f194), (195, Try.f195), (196, Try.f196), (218, Try.f218), (219, Try.f219), (222, Try.f222), (223, Try.f223), (224, Try.f224), (225, Try.f225), (234, Try.f234)]
/-- All of them (for the closed functions' evaluation). -/
noncomputable def fnE (f : Nat) : Option Func := (fnL.find? fun x => x.1 == f).map (·.2)
theorem fnL_ok : ∀ x ∈ fnL, Try.prog.funcs[x.1]? = some x.2 ∧ funcOk x.2 = true := by
  unfold fnL
  simp only [List.forall_mem_cons]
  exact ⟨⟨Try.func7, ok7⟩, ⟨Try.func33, ok33⟩, ⟨Try.func34, ok34⟩, ⟨Try.func35, ok35⟩, ⟨Try.func36, ok36⟩, ⟨Try.func37, ok37⟩, ⟨Try.func38, ok38⟩, ⟨Try.func39, ok39⟩, ⟨Try.func40, ok40⟩, ⟨Try.func92, ok92⟩, ⟨Try.func93, ok93⟩, ⟨Try.func94, ok94⟩, ⟨Try.func95, ok95⟩, ⟨Try.func96, ok96⟩, ⟨Try.func97, ok97⟩, ⟨Try.func98, ok98⟩, ⟨Try.func99, ok99⟩, ⟨Try.func100, ok100⟩, ⟨Try.func101, ok101⟩, ⟨Try.func102, ok102⟩, ⟨Try.func103, ok103⟩, ⟨Try.func104, ok104⟩, ⟨Try.func105, ok105⟩, ⟨Try.func106, ok106⟩, ⟨Try.func107, ok107⟩, ⟨Try.func108, ok108⟩, ⟨Try.func109, ok109⟩, ⟨Try.func110, ok110⟩, ⟨Try.func111, ok111⟩, ⟨Try.func112, ok112⟩, ⟨Try.func113, ok113⟩, ⟨Try.func151, ok151⟩, ⟨Try.func156, ok156⟩, ⟨Try.func157, ok157⟩, ⟨Try.func158, ok158⟩, ⟨Try.func159, ok159⟩, ⟨Try.func160, ok160⟩, ⟨Try.func161, ok161⟩, ⟨Try.func162, ok162⟩, ⟨Try.func163, ok163⟩, ⟨Try.func164, ok164⟩, ⟨Try.func185, ok185⟩, ⟨Try.func186, ok186⟩, ⟨Try.func188, ok188⟩, ⟨Try.func189, ok189⟩, ⟨Try.func190, ok190⟩, ⟨Try.func191, ok191⟩, ⟨Try.func192, ok192⟩, ⟨Try.func193, ok193⟩, ⟨Try.func194, ok194⟩, ⟨Try.func195, ok195⟩, ⟨Try.func196, ok196⟩, ⟨Try.func218, ok218⟩, ⟨Try.func219, ok219⟩, ⟨Try.func222, ok222⟩, ⟨Try.func223, ok223⟩, ⟨Try.func224, ok224⟩, ⟨Try.func225, ok225⟩, ⟨Try.func234, ok234⟩, fun x hx => by cases hx⟩
theorem fnE_ok (f : Nat) (fn : Func) (h : fnE f = some fn) : Try.prog.funcs[f]? = some fn ∧ funcOk fn = true := by
  unfold fnE at h
  cases hx : fnL.find? fun x => x.1 == f with
  | none => rw [hx] at h; cases h
  | some x =>
    rw [hx] at h
    injection h with h
    subst h
    have h1 := List.find?_some hx
    have h2 := fnL_ok x (List.mem_of_find?_eq_some hx)
    rw [← (by simpa using h1 : x.1 = f)]
    exact h2
/-- Those that are entered. -/
noncomputable def fnT (f : Nat) : Option Func := bif f == 33 then none else fnE f
/-- What the closed functions answer. -/
def clo (f : Nat) : Option Value := bif f == 33 then some (.bool true) else none
theorem fnT_ok (f : Nat) (fn : Func) (h : fnT f = some fn) : Try.prog.funcs[f]? = some fn ∧ funcOk fn = true := by
  unfold fnT at h
  cases hc : (f == 33) with
  | true => rw [hc] at h; cases h
  | false => rw [hc] at h; exact fnE_ok f fn h
theorem N33 : fnT 33 = none := by kernel_rfl
theorem T7 : fnT 7 = some Try.f7 := by kernel_rfl
theorem T34 : fnT 34 = some Try.f34 := by kernel_rfl
theorem T35 : fnT 35 = some Try.f35 := by kernel_rfl
theorem T36 : fnT 36 = some Try.f36 := by kernel_rfl
theorem T37 : fnT 37 = some Try.f37 := by kernel_rfl
theorem T38 : fnT 38 = some Try.f38 := by kernel_rfl
theorem T39 : fnT 39 = some Try.f39 := by kernel_rfl
theorem T40 : fnT 40 = some Try.f40 := by kernel_rfl
theorem T92 : fnT 92 = some Try.f92 := by kernel_rfl
theorem T93 : fnT 93 = some Try.f93 := by kernel_rfl
theorem T94 : fnT 94 = some Try.f94 := by kernel_rfl
theorem T95 : fnT 95 = some Try.f95 := by kernel_rfl
theorem T96 : fnT 96 = some Try.f96 := by kernel_rfl
theorem T97 : fnT 97 = some Try.f97 := by kernel_rfl
theorem T98 : fnT 98 = some Try.f98 := by kernel_rfl
theorem T99 : fnT 99 = some Try.f99 := by kernel_rfl
theorem T100 : fnT 100 = some Try.f100 := by kernel_rfl
theorem T101 : fnT 101 = some Try.f101 := by kernel_rfl
theorem T102 : fnT 102 = some Try.f102 := by kernel_rfl
theorem T103 : fnT 103 = some Try.f103 := by kernel_rfl
theorem T104 : fnT 104 = some Try.f104 := by kernel_rfl
theorem T105 : fnT 105 = some Try.f105 := by kernel_rfl
theorem T106 : fnT 106 = some Try.f106 := by kernel_rfl
theorem T107 : fnT 107 = some Try.f107 := by kernel_rfl
theorem T108 : fnT 108 = some Try.f108 := by kernel_rfl
theorem T109 : fnT 109 = some Try.f109 := by kernel_rfl
theorem T110 : fnT 110 = some Try.f110 := by kernel_rfl
theorem T111 : fnT 111 = some Try.f111 := by kernel_rfl
theorem T112 : fnT 112 = some Try.f112 := by kernel_rfl
theorem T113 : fnT 113 = some Try.f113 := by kernel_rfl
theorem T151 : fnT 151 = some Try.f151 := by kernel_rfl
theorem T156 : fnT 156 = some Try.f156 := by kernel_rfl
theorem T157 : fnT 157 = some Try.f157 := by kernel_rfl
theorem T158 : fnT 158 = some Try.f158 := by kernel_rfl
theorem T159 : fnT 159 = some Try.f159 := by kernel_rfl
theorem T160 : fnT 160 = some Try.f160 := by kernel_rfl
theorem T161 : fnT 161 = some Try.f161 := by kernel_rfl
theorem T162 : fnT 162 = some Try.f162 := by kernel_rfl
theorem T163 : fnT 163 = some Try.f163 := by kernel_rfl
theorem T164 : fnT 164 = some Try.f164 := by kernel_rfl
theorem T185 : fnT 185 = some Try.f185 := by kernel_rfl
theorem T186 : fnT 186 = some Try.f186 := by kernel_rfl
theorem T188 : fnT 188 = some Try.f188 := by kernel_rfl
theorem T189 : fnT 189 = some Try.f189 := by kernel_rfl
theorem T190 : fnT 190 = some Try.f190 := by kernel_rfl
theorem T191 : fnT 191 = some Try.f191 := by kernel_rfl
theorem T192 : fnT 192 = some Try.f192 := by kernel_rfl
theorem T193 : fnT 193 = some Try.f193 := by kernel_rfl
theorem T194 : fnT 194 = some Try.f194 := by kernel_rfl
theorem T195 : fnT 195 = some Try.f195 := by kernel_rfl
theorem T196 : fnT 196 = some Try.f196 := by kernel_rfl
theorem T218 : fnT 218 = some Try.f218 := by kernel_rfl
theorem T219 : fnT 219 = some Try.f219 := by kernel_rfl
theorem T222 : fnT 222 = some Try.f222 := by kernel_rfl
theorem T223 : fnT 223 = some Try.f223 := by kernel_rfl
theorem T224 : fnT 224 = some Try.f224 := by kernel_rfl
theorem T225 : fnT 225 = some Try.f225 := by kernel_rfl
theorem T234 : fnT 234 = some Try.f234 := by kernel_rfl
end Go.Proofs.Ythicilkmjamefaa
