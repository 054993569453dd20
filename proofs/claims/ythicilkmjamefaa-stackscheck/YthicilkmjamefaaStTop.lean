/- StacksCheck: for every input the law answers true, and the input reads as it did. The law's own examples (lives) are evaluated by the kernel; all else is shown for any beds.
   No condition is asked. -/
import Derived.Test.YthicilkmjamefaaStI
import Derived.Test.YthicilkmjamefaaStLives
import Derived.Test.YthicilkmjamefaaGoArgs
import Derived.Test.YthicilkmjamefaaRows
import Derived.WalkKit
import Derived.ProofKit
import Derived.OpenShut
import Derived.ShutString
import Derived.ChangeOld
import Derived.Below
import Derived.SizedLaws
namespace Go.Proofs.Ythicilkmjamefaa
open Go.Gh
set_option linter.unusedVariables false
set_option linter.unusedSimpArgs false
set_option maxRecDepth 100000

theorem clo_ok : ClOk Try.prog clo := by
  intro f v h
  unfold clo at h
  cases hf : (f == 8) with
  | false => rw [hf] at h; cases h
  | true =>
    rw [hf] at h
    have hf : f = 8 := by simpa using hf
    subst hf
    have h : some (Value.bool true) = some v := h
    injection h with h
    subst h
    obtain ⟨l, h1, h2⟩ := allT_spec lives8
    exact ⟨rfl, fnE, 300, l, fun f fn h => fnE_ok f fn h, h1, h2⟩

theorem list2 {l : List Value} (h : l.length = 2) : ∃ a b, l = [a, b] := by
  match l, h with
  | [a, b], _ => exact ⟨a, b, rfl⟩
theorem opens_id : Opens Try.prog tyId 29 := by
  intro D enc W fuel cs x h m H hR
  obtain ⟨xs, n, _, rfl, hl, hxl, hget⟩ := DataW.trod_struct Try.underlying29 h
  have hc : Try.prog.cellsOf 29 = 2 := by kernel_rfl
  have hc5 : Try.prog.cellsOf 5 = 1 := by kernel_rfl
  have hc3 : Try.prog.cellsOf 3 = 1 := by kernel_rfl
  rw [hc] at hl
  obtain ⟨c0, c1, rfl⟩ := list2 hl
  have hxl : xs.length = 2 := hxl
  have h0 : DataW.trod enc Try.prog W 0 (fun _ => true) true n 5 (([c0, c1].drop 0).take (Try.prog.cellsOf 5)) = xs[0]? := hget 0 _ rfl
  have h1 : DataW.trod enc Try.prog W 0 (fun _ => true) true n 3 (([c0, c1].drop 1).take (Try.prog.cellsOf 3)) = xs[1]? := hget 1 _ rfl
  rw [List.getElem?_eq_getElem (by omega), hc5] at h0
  rw [List.getElem?_eq_getElem (by omega), hc3] at h1
  obtain ⟨y, e0, _, _⟩ := DataW.trod_int Try.underlying5 h0
  obtain ⟨k, e1, _, _⟩ := DataW.trod_int Try.underlying3 h1
  simp only [List.drop_zero, List.take_succ_cons, List.take_zero, List.drop_succ_cons, List.cons.injEq, and_true] at e0 e1
  subst e0; subst e1
  exact ⟨m, H, _, (y, k), .refl m, .refl H, hR, .cons (.int _ _) (.cons (.int _ _) .nil), rfl⟩
theorem opens_stack : Opens Try.prog (tySl tyId) 26 := opens_slice (A := tyId) (B := tySl tyId) u26 (by kernel_rfl) gs29 (by decide) opens_id fun H v xs h => ⟨v, rfl, h⟩
theorem opens_bed : Opens Try.prog (tySl (tySl tyId)) 22 := opens_slice (A := tySl tyId) (B := tySl (tySl tyId)) u22 (by kernel_rfl) gs26 (by decide) opens_stack fun H v xs h => ⟨v, rfl, h⟩
theorem open_beds {D : Type} {enc : TypeId × Value → D} {W : World} {fuel : Nat} {cs : List Value} {x : DataW D × List MemPlace} (h : DataW.trod enc Try.prog W 0 (fun _ => true) true fuel 24 cs = some x) :
    ∃ m H vF vB front back, Rel Try.prog W.heap.size m H W ∧ VRs m [vF, vB] cs ∧ SlR (tySl tyId) H vF front ∧ SlR (tySl tyId) H vB back := by
  obtain ⟨xs, n, _, rfl, hl, hxl, hget⟩ := DataW.trod_struct Try.underlying24 h
  have hc : Try.prog.cellsOf 24 = 2 := by kernel_rfl
  have hc22 : Try.prog.cellsOf 22 = 1 := by kernel_rfl
  rw [hc] at hl
  obtain ⟨c0, c1, rfl⟩ := list2 hl
  have hxl : xs.length = 2 := hxl
  have h0 : DataW.trod enc Try.prog W 0 (fun _ => true) true n 22 (([c0, c1].drop 0).take (Try.prog.cellsOf 22)) = xs[0]? := hget 0 _ rfl
  have h1 : DataW.trod enc Try.prog W 0 (fun _ => true) true n 22 (([c0, c1].drop 1).take (Try.prog.cellsOf 22)) = xs[1]? := hget 1 _ rfl
  rw [List.getElem?_eq_getElem (by omega), hc22] at h0 h1
  simp only [List.drop_zero, List.take_succ_cons, List.take_zero, List.drop_succ_cons] at h0 h1
  obtain ⟨m1, H1, g1, y1, a1, a2, a3, a4, a5⟩ := opens_bed enc W n _ _ h0 (fun _ => none) GH.empty (Rel.empty _ _)
  obtain ⟨m2, H2, g2, y2, b1, b2, b3, b4, b5⟩ := opens_bed enc W n _ _ h1 m1 H1 a3
  obtain ⟨v1, rfl, s1⟩ := tySl_rep a5
  obtain ⟨v2, rfl, s2⟩ := tySl_rep b5
  exact ⟨m2, H2, v1, v2, y1, y2, b3, (a4.mono b1).append b4, s1.mono b2, s2⟩

namespace stacksCheck
open Go.ChangeShapes Go.WideShapes Go.ChangeAt Go.RowKit
theorem own : ownKnob Try.prog.godebug = none := by kernel_rfl
theorem laidOut : laidOutB Try.prog = true := by kernel_rfl
theorem okWide_agg {P : Program} {t : TypeId} {fs : Array Field} {W : World} {r : Reach} {base : Nat} {v : Value} (hu : P.underlying t = some (.struct fs)) (hv : Value.okWide P W r base t v) : ∃ cs, v = .agg cs := by
  unfold Value.okWide at hv
  rw [hu] at hv
  obtain ⟨cs, h, _⟩ := hv
  exact ⟨cs, h⟩
theorem walk_k {k : Nat} (hk : 3000 ≤ k) {D : Type} {enc : TypeId × Value → D} {W : World} {v : Value} {d : DataW D} {ps : List MemPlace} {base : Nat} (hv : Value.okWide Try.prog W .any base 24 v) (h : DataW.Trod enc Try.prog W 0 (fun _ => true) true 24 v d ps) :
    Calls Try.prog 3 #[v] W fun e w' => e = .returned (.bool true) ∧ Below W.heap.size W w' := by
  obtain ⟨fuel, hf⟩ := h
  obtain ⟨cs, rfl⟩ := okWide_agg Try.underlying24 hv
  obtain ⟨m, H, vF, vB, front, back, hR, hV, hF, hB⟩ := open_beds hf
  obtain ⟨x, hx, hy⟩ := law_ok (k := k) hF hB hk
  have hx : gCallC Try.prog fnT clo (k + 11) (.func (.func 3) #[] #[]) [.agg #[vF, vB]] H = some [x] := hx
  have hmix : Try.prog.follows .mixedOrders = true := by kernel_rfl
  refine top_callsC hmix (fun f fn h => fnT_ok f fn h) clo_ok hx (fun z hz => by rw [List.mem_singleton] at hz; subst hz; exact hy) (m := m) (.cons (VR.aggA hV) .nil) hR
theorem walk {D : Type} {enc : TypeId × Value → D} {W : World} {v : Value} {d : DataW D} {ps : List MemPlace} {base : Nat} (hv : Value.okWide Try.prog W .any base 24 v) (h : DataW.Trod enc Try.prog W 0 (fun _ => true) true 24 v d ps) :
    Calls Try.prog 3 #[v] W fun e w' => e = .returned (.bool true) ∧ Below W.heap.size W w' := walk_k (Nat.le_refl 3000) hv h
set_option maxRecDepth 100000 in
theorem lifted (os : Os) (started : os.Started) (H : Type) (enc : TypeId × Value → H) :
    ReturnsInHanded {} Try.checked os 3 .any (Rows.stacksCheckSpec.pre6 enc Try.prog Try.f3 Rows.stacksCheckRow.domain false) (Rows.stacksCheckSpec.post enc Try.prog Try.f3 false true false false) := by
  refine returnsInHanded_of_change_sized (C := Try.checked) own started (by kernel_rfl) Try.func3
    (ChangeSpec.witness6 (enc := enc) (C := Try.checked) false ⟨#[], #[.agg #[.slice none 0 0, .slice none 0 0]], []⟩ 8 (by kernel_rfl) (by kernel_rfl) (by kernel_rfl) (by kernel_rfl)) ?_
  intro W base args ds gs before hval0 hW hcnd hsz0 _
  have hval : ∀ (j : Nat) t v, Try.f3.params[j]? = some t → args[j]? = some v → Value.okWide Try.prog W .any base t v := hval0
  have hW' := hW
  obtain ⟨p, q, hA0, hV, rfl, hfz, hnd⟩ := hW
  have hA : DataW.TrodAll enc Try.prog W 0 (fun _ => true) true Try.f3.params.toList args.toList ds p := hA0
  rw [Try.params3] at hA hval
  obtain ⟨v0, vs0, d0, ds0, p0, q0, hargs, rfl, rfl, h0, r0⟩ := trodAll_cons hA
  obtain ⟨rfl, rfl, rfl⟩ := trodAll_nil r0
  obtain rfl : args = #[v0] := by cases args; simp_all
  obtain ⟨rfl, rfl⟩ := trodVars_none hV
  have lt0 : ∀ x ∈ p0, x.block < W.heap.size := by
    obtain ⟨m, hm⟩ := h0
    exact DataW.trod_lt m _ _ _ hm
  clear hA0 hval0 hsz0
  refine (walk (hval 0 24 v0 rfl rfl) h0).mono fun e W' ⟨he, bel⟩ => ?_
  subst he
  exact ⟨_, rfl, _, _, _, [], _, [], hW', trodAll_mk1 (shut_bool Try.underlying4 _), (trodAll_cons_mk (Below.trod laidOut (by kernel_rfl) (of_decide_eq_true (by kernel_rfl)) h0 bel lt0) trodAll_mk0), rfl, bel.frame _, fun h => by cases h⟩
theorem over : Rows.stacksCheckRow.holds Try.pinned (OpenSpec.ofChange Rows.stacksCheckSpec) :=
  OpenClaim.holds_of_wide 3 Try.f3 rfl rfl rfl rfl rfl rfl rfl ⟨rfl, rfl, rfl, rfl, rfl⟩ rfl rfl rfl rfl rfl (by kernel_rfl) Try.func3 (by kernel_rfl)
    (of_decide_eq_true (by kernel_rfl)) (by unfold Func.isWrapper; first | (rw [if_pos (by decide +kernel)]; kernel_rfl) | (rw [if_neg (by decide +kernel)]; exact ⟨rfl, rfl⟩))
    (fun os started H enc _ => lifted os started H enc)
theorem proved : Rows.StacksCheckSaid := over
end stacksCheck
/-- The row, under a short name, for the claim. -/
theorem stacksCheck_holds : Rows.StacksCheckSaid := stacksCheck.proved
#print axioms stacksCheck_holds
end Go.Proofs.Ythicilkmjamefaa
