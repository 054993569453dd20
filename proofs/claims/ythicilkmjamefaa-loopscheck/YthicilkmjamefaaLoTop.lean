/- LoopsCheck: for every input the law answers true, and the input reads as it did. The law's own examples (lives) are evaluated by the kernel; all else is shown for any table.
   No condition is asked. -/
import Derived.Test.YthicilkmjamefaaLoQ
import Derived.Test.YthicilkmjamefaaLoLives
import Derived.Test.YthicilkmjamefaaGnData
import Derived.Test.YthicilkmjamefaaRows
import Derived.WalkKit
import Derived.ProofKit
import Derived.OpenShut
import Derived.ShutString
import Derived.ChangeOld
import Derived.Below
import Derived.SizedLaws
namespace Go.Proofs.Ythicilkmjamefaa
open Go.Gh
set_option linter.unusedVariables false
set_option linter.unusedSimpArgs false
set_option maxRecDepth 100000

theorem clo_ok : ClOk Try.prog clo := by
  intro f v h
  unfold clo at h
  cases hf : (f == 22) with
  | false => rw [hf] at h; cases h
  | true =>
    rw [hf] at h
    have hf : f = 22 := by simpa using hf
    subst hf
    have h : some (Value.bool true) = some v := h
    injection h with h
    subst h
    obtain ⟨l, h1, h2⟩ := allT_spec lives22
    exact ⟨rfl, fnE, 300, l, fun f fn h => fnE_ok f fn h, h1, h2⟩

theorem wf_u8 {n : Int} (h : (Lit.int .u8 n).wf = true) : 0 ≤ n ∧ n ≤ 255 := by
  unfold Lit.wf at h
  simp [IntKind.min, IntKind.max, IntKind.signed, IntKind.bits] at h
  omega
theorem opens_id : Opens Try.prog tyId 29 := by
  intro D enc W fuel cs x h m H hR
  obtain ⟨xs, n, _, rfl, hl, hxl, hget⟩ := DataW.trod_struct Try.underlying29 h
  have hc : Try.prog.cellsOf 29 = 2 := by kernel_rfl
  have hc5 : Try.prog.cellsOf 5 = 1 := by kernel_rfl
  have hc3 : Try.prog.cellsOf 3 = 1 := by kernel_rfl
  rw [hc] at hl
  obtain ⟨c0, c1, rfl⟩ := list2 hl
  have hxl : xs.length = 2 := hxl
  have h0 : DataW.trod enc Try.prog W 0 (fun _ => true) true n 5 (([c0, c1].drop 0).take (Try.prog.cellsOf 5)) = xs[0]? := hget 0 _ rfl
  have h1 : DataW.trod enc Try.prog W 0 (fun _ => true) true n 3 (([c0, c1].drop 1).take (Try.prog.cellsOf 3)) = xs[1]? := hget 1 _ rfl
  rw [List.getElem?_eq_getElem (by omega), hc5] at h0
  rw [List.getElem?_eq_getElem (by omega), hc3] at h1
  obtain ⟨y, e0, _, w0⟩ := DataW.trod_int Try.underlying5 h0
  obtain ⟨k, e1, _, _⟩ := DataW.trod_int Try.underlying3 h1
  simp only [List.drop_zero, List.take_succ_cons, List.take_zero, List.drop_succ_cons, List.cons.injEq, and_true] at e0 e1
  subst e0; subst e1
  exact ⟨m, H, _, (y, k), .refl m, .refl H, hR, .cons (.int _ _) (.cons (.int _ _) .nil), rfl, wf_u8 w0⟩
theorem opens_pa : Opens Try.prog tyPa 157 := by
  intro D enc W fuel cs x h m H hR
  obtain ⟨xs, n, _, rfl, hl, hxl, hget⟩ := DataW.trod_struct Try.underlying157 h
  have hc : Try.prog.cellsOf 157 = 4 := by kernel_rfl
  have hc29 : Try.prog.cellsOf 29 = 2 := by kernel_rfl
  have hc4 : Try.prog.cellsOf 4 = 1 := by kernel_rfl
  have hc155 : Try.prog.cellsOf 155 = 1 := by kernel_rfl
  rw [hc] at hl
  obtain ⟨c0, c1, c2, c3, rfl⟩ := list4 hl
  have hxl : xs.length = 3 := hxl
  have h0 : DataW.trod enc Try.prog W 0 (fun _ => true) true n 29 (([c0, c1, c2, c3].drop 0).take (Try.prog.cellsOf 29)) = xs[0]? := hget 0 _ rfl
  have h1 : DataW.trod enc Try.prog W 0 (fun _ => true) true n 4 (([c0, c1, c2, c3].drop 2).take (Try.prog.cellsOf 4)) = xs[1]? := hget 1 _ rfl
  have h2 : DataW.trod enc Try.prog W 0 (fun _ => true) true n 155 (([c0, c1, c2, c3].drop 3).take (Try.prog.cellsOf 155)) = xs[2]? := hget 2 _ rfl
  rw [List.getElem?_eq_getElem (by omega), hc29] at h0
  rw [List.getElem?_eq_getElem (by omega), hc4] at h1
  rw [List.getElem?_eq_getElem (by omega), hc155] at h2
  obtain ⟨m1, H1, gs, id, g1, g2, g3, g4, g5, g6⟩ := opens_id enc W n _ _ h0 m H hR
  obtain ⟨b, e1, _⟩ := DataW.trod_bool Try.underlying4 h1
  obtain ⟨d, e2, _, w2⟩ := DataW.trod_int Try.underlying155 h2
  simp only [List.drop_zero, List.take_succ_cons, List.take_zero, List.drop_succ_cons, List.cons.injEq, and_true] at e1 e2 g4
  subst e1; subst e2
  refine ⟨m1, H1, gs ++ [.bool b, .int .u8 d], ⟨id, b, d⟩, g1, g2, g3, g4.append (.cons (.bool _) (.cons (.int _ _) .nil)), ?_, g6, (wf_u8 w2).1⟩
  rw [g5]
  rfl
theorem opens_ids : Opens Try.prog (tySl tyId) 26 := opens_slice (A := tyId) (B := tySl tyId) u26 (by kernel_rfl) (elemOk_size el29) (by decide) opens_id fun H v xs h => ⟨v, rfl, h⟩
theorem opens_pas : Opens Try.prog (tySl tyPa) 60 := opens_slice (A := tyPa) (B := tySl tyPa) u60 (by kernel_rfl) (elemOk_size el157) (by decide) opens_pa fun H v xs h => ⟨v, rfl, h⟩
theorem opens_lp : Opens Try.prog tyLp 62 := by
  intro D enc W fuel cs x h m H hR
  obtain ⟨xs, n, _, rfl, hl, hxl, hget⟩ := DataW.trod_struct Try.underlying62 h
  have hc : Try.prog.cellsOf 62 = 4 := by kernel_rfl
  have hc33 : Try.prog.cellsOf 33 = 1 := by kernel_rfl
  have hc4 : Try.prog.cellsOf 4 = 1 := by kernel_rfl
  have hc26 : Try.prog.cellsOf 26 = 1 := by kernel_rfl
  have hc60 : Try.prog.cellsOf 60 = 1 := by kernel_rfl
  rw [hc] at hl
  obtain ⟨c0, c1, c2, c3, rfl⟩ := list4 hl
  have hxl : xs.length = 4 := hxl
  have h0 : DataW.trod enc Try.prog W 0 (fun _ => true) true n 33 (([c0, c1, c2, c3].drop 0).take (Try.prog.cellsOf 33)) = xs[0]? := hget 0 _ rfl
  have h1 : DataW.trod enc Try.prog W 0 (fun _ => true) true n 4 (([c0, c1, c2, c3].drop 1).take (Try.prog.cellsOf 4)) = xs[1]? := hget 1 _ rfl
  have h2 : DataW.trod enc Try.prog W 0 (fun _ => true) true n 26 (([c0, c1, c2, c3].drop 2).take (Try.prog.cellsOf 26)) = xs[2]? := hget 2 _ rfl
  have h3 : DataW.trod enc Try.prog W 0 (fun _ => true) true n 60 (([c0, c1, c2, c3].drop 3).take (Try.prog.cellsOf 60)) = xs[3]? := hget 3 _ rfl
  rw [List.getElem?_eq_getElem (by omega), hc33] at h0
  rw [List.getElem?_eq_getElem (by omega), hc4] at h1
  rw [List.getElem?_eq_getElem (by omega), hc26] at h2
  rw [List.getElem?_eq_getElem (by omega), hc60] at h3
  obtain ⟨bd, e0, _, _⟩ := DataW.trod_int Try.underlying33 h0
  obtain ⟨b, e1, _⟩ := DataW.trod_bool Try.underlying4 h1
  obtain ⟨m1, H1, gs, thr, g1, g2, g3, g4, vT, rfl, g5⟩ := opens_ids enc W n _ _ h2 m H hR
  obtain ⟨m2, H2, gs2, past, k1, k2, k3, k4, vP, rfl, k5⟩ := opens_pas enc W n _ _ h3 m1 H1 g3
  simp only [List.drop_zero, List.take_succ_cons, List.take_zero, List.drop_succ_cons, List.cons.injEq, and_true] at e0 e1 g4 k4
  subst e0; subst e1
  exact ⟨m2, H2, [.int .u8 bd, .bool b, vT, vP], ⟨bd, b, thr, past⟩, g1.trans k1, g2.trans k2, k3, VRs.append (.cons (.int _ _) (.cons (.bool _) .nil)) ((g4.mono k1).append k4), vT, vP, rfl, g5.mono k2, k5⟩
theorem opens_row : Opens Try.prog tyTab 59 := opens_slice (A := tyLp) (B := tyTab) u59 (by kernel_rfl) (elemOk_size el62) (by decide) opens_lp fun H v xs h => ⟨v, rfl, h⟩
theorem opens_tab : Opens Try.prog (tySl tyTab) 58 := opens_slice (A := tyTab) (B := tySl tyTab) u58 (by kernel_rfl) (elemOk_size el59) (by decide) opens_row fun H v xs h => ⟨v, rfl, h⟩

namespace loopsCheck
open Go.ChangeShapes Go.WideShapes Go.ChangeAt Go.RowKit
theorem own : ownKnob Try.prog.godebug = none := by kernel_rfl
theorem laidOut : laidOutB Try.prog = true := by kernel_rfl
theorem slice_cells {W : World} {r : Go.Reach} {base : Nat} {v : Value} (h : Value.okWide Try.prog W r base 58 v) : v.cells.toList = [v] := by
  unfold Value.okWide at h
  rw [u58] at h
  cases v with
  | agg cs =>
    exfalso
    unfold Cell.okWide at h
    rw [u58] at h
    exact h
  | _ => rfl
theorem walk_k {k : Nat} (hk : 6000 ≤ k) {D : Type} {enc : TypeId × Value → D} {W : World} {v : Value} {d : DataW D} {ps : List MemPlace} {base : Nat} (hval : Value.okWide Try.prog W .any base 58 v) (h : DataW.Trod enc Try.prog W 0 (fun _ => true) true 58 v d ps) :
    Calls Try.prog 5 #[v] W fun e w' => e = .returned (.bool true) ∧ Below W.heap.size W w' := by
  obtain ⟨fuel, hf⟩ := h
  obtain ⟨m, H, gs, t, _, _, hR, hV, u, rfl, hs⟩ := opens_tab enc W fuel _ _ hf (fun _ => none) GH.empty (Rel.empty _ _)
  have hv : v.cells.toList = [v] := slice_cells hval
  rw [hv] at hV
  obtain ⟨outs, hx, hy⟩ := law_ok (k := k) hk hs
  have hx : gCallC Try.prog fnT clo (k + 10) (.func (.func 5) #[] #[]) [u] H = some outs := hx
  have hmix : Try.prog.follows .mixedOrders = true := by kernel_rfl
  refine top_callsC hmix (fun f fn h => fnT_ok f fn h) clo_ok hx hy (m := m) hV hR
theorem walk {D : Type} {enc : TypeId × Value → D} {W : World} {v : Value} {d : DataW D} {ps : List MemPlace} {base : Nat} (hval : Value.okWide Try.prog W .any base 58 v) (h : DataW.Trod enc Try.prog W 0 (fun _ => true) true 58 v d ps) :
    Calls Try.prog 5 #[v] W fun e w' => e = .returned (.bool true) ∧ Below W.heap.size W w' := walk_k (Nat.le_refl 6000) hval h
set_option maxRecDepth 100000 in
theorem lifted (os : Os) (started : os.Started) (H : Type) (enc : TypeId × Value → H) :
    ReturnsInHanded {} Try.checked os 5 .any (Rows.loopsCheckSpec.pre6 enc Try.prog Try.f5 Rows.loopsCheckRow.domain false) (Rows.loopsCheckSpec.post enc Try.prog Try.f5 false true false false) := by
  refine returnsInHanded_of_change_sized (C := Try.checked) own started (by kernel_rfl) Try.func5
    (ChangeSpec.witness6 (enc := enc) (C := Try.checked) false ⟨#[], #[.slice none 0 0], []⟩ 8 (by kernel_rfl) (by kernel_rfl) (by kernel_rfl) (by kernel_rfl)) ?_
  intro W base args ds gs before hval0 hW hcnd hsz0 _
  have hval : ∀ (j : Nat) t v, Try.f5.params[j]? = some t → args[j]? = some v → Value.okWide Try.prog W .any base t v := hval0
  have hW' := hW
  obtain ⟨p, q, hA0, hV, rfl, hfz, hnd⟩ := hW
  have hA : DataW.TrodAll enc Try.prog W 0 (fun _ => true) true Try.f5.params.toList args.toList ds p := hA0
  rw [Try.params5] at hA hval
  obtain ⟨v0, vs0, d0, ds0, p0, q0, hargs, rfl, rfl, h0, r0⟩ := trodAll_cons hA
  obtain ⟨rfl, rfl, rfl⟩ := trodAll_nil r0
  obtain rfl : args = #[v0] := by cases args; simp_all
  obtain ⟨rfl, rfl⟩ := trodVars_none hV
  have lt0 : ∀ x ∈ p0, x.block < W.heap.size := by
    obtain ⟨m, hm⟩ := h0
    exact DataW.trod_lt m _ _ _ hm
  clear hA0 hval0 hsz0
  refine (walk (hval 0 58 v0 rfl rfl) h0).mono fun e W' ⟨he, bel⟩ => ?_
  subst he
  exact ⟨_, rfl, _, _, _, [], _, [], hW', trodAll_mk1 (shut_bool Try.underlying4 _), (trodAll_cons_mk (Below.trod laidOut (by kernel_rfl) (of_decide_eq_true (by kernel_rfl)) h0 bel lt0) trodAll_mk0), rfl, bel.frame _, fun h => by cases h⟩
theorem over : Rows.loopsCheckRow.holds Try.pinned (OpenSpec.ofChange Rows.loopsCheckSpec) :=
  OpenClaim.holds_of_wide 5 Try.f5 rfl rfl rfl rfl rfl rfl rfl ⟨rfl, rfl, rfl, rfl, rfl⟩ rfl rfl rfl rfl rfl (by kernel_rfl) Try.func5 (by kernel_rfl)
    (of_decide_eq_true (by kernel_rfl)) (by unfold Func.isWrapper; first | (rw [if_pos (by decide +kernel)]; kernel_rfl) | (rw [if_neg (by decide +kernel)]; exact ⟨rfl, rfl⟩))
    (fun os started H enc _ => lifted os started H enc)
theorem proved : Rows.LoopsCheckSaid := over
end loopsCheck
/-- The row, under a short name, for the claim. -/
theorem loopsCheck_holds : Rows.LoopsCheckSaid := loopsCheck.proved
#print axioms loopsCheck_holds
end Go.Proofs.Ythicilkmjamefaa
