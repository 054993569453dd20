/- StocksCheck: for every input the law answers true, and the input reads as it did. The law's own examples (lives) are evaluated by the kernel; all else is shown for any stock, any number of times, and any hold.
   No condition is asked. -/
import Derived.Test.YthicilkmjamefaaSoO
import Derived.Test.YthicilkmjamefaaSoLives
import Derived.Test.YthicilkmjamefaaGnData
import Derived.Test.YthicilkmjamefaaRows
import Derived.WalkKit
import Derived.ProofKit
import Derived.OpenShut
import Derived.ShutString
import Derived.ChangeOld
import Derived.Below
import Derived.SizedLaws
namespace Go.Proofs.Ythicilkmjamefaa
open Go.Gh
set_option linter.unusedVariables false
set_option linter.unusedSimpArgs false
set_option maxRecDepth 100000

theorem clo_ok : ClOk Try.prog clo := by
  intro f v h
  unfold clo at h
  cases hf : (f == 33) with
  | false => rw [hf] at h; cases h
  | true =>
    rw [hf] at h
    have hf : f = 33 := by simpa using hf
    subst hf
    have h : some (Value.bool true) = some v := h
    injection h with h
    subst h
    obtain ⟨l, h1, h2⟩ := allT_spec lives33
    exact ⟨rfl, fnE, 300, l, fun f fn h => fnE_ok f fn h, h1, h2⟩

theorem wf_u16 {n : Int} (h : (Lit.int .u16 n).wf = true) : 0 ≤ n := by
  unfold Lit.wf at h
  simp [IntKind.min, IntKind.max, IntKind.signed, IntKind.bits] at h
  omega
theorem list2 {α : Type} {l : List α} (h : l.length = 2) : ∃ a b, l = [a, b] := by
  match l, h with
  | [a, b], _ => exact ⟨a, b, rfl⟩
theorem list3 {α : Type} {l : List α} (h : l.length = 3) : ∃ a b c, l = [a, b, c] := by
  match l, h with
  | [a, b, c], _ => exact ⟨a, b, c, rfl⟩
theorem opens_co : Opens Try.prog tyCo 93 := by
  intro D enc W fuel cs x h m H hR
  obtain ⟨xs, n, _, rfl, hl, hxl, hget⟩ := DataW.trod_struct Try.underlying93 h
  have hc : Try.prog.cellsOf 93 = 2 := by kernel_rfl
  have hc3 : Try.prog.cellsOf 3 = 1 := by kernel_rfl
  rw [hc] at hl
  obtain ⟨c0, c1, rfl⟩ := list2 hl
  have hxl : xs.length = 2 := hxl
  have h0 : DataW.trod enc Try.prog W 0 (fun _ => true) true n 3 (([c0, c1].drop 0).take (Try.prog.cellsOf 3)) = xs[0]? := hget 0 _ rfl
  have h1 : DataW.trod enc Try.prog W 0 (fun _ => true) true n 3 (([c0, c1].drop 1).take (Try.prog.cellsOf 3)) = xs[1]? := hget 1 _ rfl
  rw [List.getElem?_eq_getElem (by omega), hc3] at h0 h1
  obtain ⟨y, e0, _, _⟩ := DataW.trod_int Try.underlying3 h0
  obtain ⟨z, e1, _, _⟩ := DataW.trod_int Try.underlying3 h1
  simp only [List.drop_zero, List.take_succ_cons, List.take_zero, List.drop_succ_cons, List.cons.injEq, and_true] at e0 e1
  subst e0; subst e1
  exact ⟨m, H, _, ⟨y, z⟩, .refl m, .refl H, hR, .cons (.int _ _) (.cons (.int _ _) .nil), rfl⟩
theorem opens_ho : Opens Try.prog tyHo 91 := by
  intro D enc W fuel cs x h m H hR
  obtain ⟨xs, n, _, rfl, hl, hxl, hget⟩ := DataW.trod_struct Try.underlying91 h
  have hc : Try.prog.cellsOf 91 = 3 := by kernel_rfl
  have hc3 : Try.prog.cellsOf 3 = 1 := by kernel_rfl
  rw [hc] at hl
  obtain ⟨c0, c1, c2, rfl⟩ := list3 hl
  have hxl : xs.length = 3 := hxl
  have h0 : DataW.trod enc Try.prog W 0 (fun _ => true) true n 3 (([c0, c1, c2].drop 0).take (Try.prog.cellsOf 3)) = xs[0]? := hget 0 _ rfl
  have h1 : DataW.trod enc Try.prog W 0 (fun _ => true) true n 3 (([c0, c1, c2].drop 1).take (Try.prog.cellsOf 3)) = xs[1]? := hget 1 _ rfl
  have h2 : DataW.trod enc Try.prog W 0 (fun _ => true) true n 3 (([c0, c1, c2].drop 2).take (Try.prog.cellsOf 3)) = xs[2]? := hget 2 _ rfl
  rw [List.getElem?_eq_getElem (by omega), hc3] at h0 h1 h2
  obtain ⟨x0, e0, _, _⟩ := DataW.trod_int Try.underlying3 h0
  obtain ⟨y, e1, _, _⟩ := DataW.trod_int Try.underlying3 h1
  obtain ⟨z, e2, _, _⟩ := DataW.trod_int Try.underlying3 h2
  simp only [List.drop_zero, List.take_succ_cons, List.take_zero, List.drop_succ_cons, List.cons.injEq, and_true] at e0 e1 e2
  subst e0; subst e1; subst e2
  exact ⟨m, H, _, ⟨x0, y, z⟩, .refl m, .refl H, hR, .cons (.int _ _) (.cons (.int _ _) (.cons (.int _ _) .nil)), rfl⟩
def tyCs : Ty (List ConeD) where
  sz := 1
  rep H cs x := ∃ v, cs = [v] ∧ SlR tyCo H v x
  len h := by obtain ⟨v, rfl, _⟩ := h; rfl
  one h := by obtain ⟨v, rfl, h⟩ := h; obtain ⟨a, c, rfl⟩ := h.val; rfl
  mono hE h := by obtain ⟨v, rfl, h⟩ := h; exact ⟨v, rfl, h.mono hE⟩
def tyHs : Ty (List HoldD) where
  sz := 1
  rep H cs x := ∃ v, cs = [v] ∧ SlR tyHo H v x
  len h := by obtain ⟨v, rfl, _⟩ := h; rfl
  one h := by obtain ⟨v, rfl, h⟩ := h; obtain ⟨a, c, rfl⟩ := h.val; rfl
  mono hE h := by obtain ⟨v, rfl, h⟩ := h; exact ⟨v, rfl, h.mono hE⟩
theorem opens_cs : Opens Try.prog tyCs 85 := opens_slice (A := tyCo) (B := tyCs) u85 (by kernel_rfl) (elemOk_size el93) (by decide) opens_co fun H v xs h => ⟨v, rfl, h⟩
theorem opens_hs : Opens Try.prog tyHs 86 := opens_slice (A := tyHo) (B := tyHs) u86 (by kernel_rfl) (elemOk_size el91) (by decide) opens_ho fun H v xs h => ⟨v, rfl, h⟩
theorem open_stock {D : Type} {enc : TypeId × Value → D} {W : World} {fuel : Nat} {cs : List Value} {x : DataW D × List MemPlace} (h : DataW.trod enc Try.prog W 0 (fun _ => true) true fuel 88 cs = some x) :
    ∃ m H vC vH xs ys, Rel Try.prog W.heap.size m H W ∧ VRs m [vC, vH] cs ∧ StI H vC vH xs ys := by
  obtain ⟨xs, n, _, rfl, hl, hxl, hget⟩ := DataW.trod_struct Try.underlying88 h
  have hc : Try.prog.cellsOf 88 = 2 := by kernel_rfl
  have hc85 : Try.prog.cellsOf 85 = 1 := by kernel_rfl
  have hc86 : Try.prog.cellsOf 86 = 1 := by kernel_rfl
  rw [hc] at hl
  obtain ⟨c0, c1, rfl⟩ := list2 hl
  have hxl : xs.length = 2 := hxl
  have h0 : DataW.trod enc Try.prog W 0 (fun _ => true) true n 85 (([c0, c1].drop 0).take (Try.prog.cellsOf 85)) = xs[0]? := hget 0 _ rfl
  have h1 : DataW.trod enc Try.prog W 0 (fun _ => true) true n 86 (([c0, c1].drop 1).take (Try.prog.cellsOf 86)) = xs[1]? := hget 1 _ rfl
  rw [List.getElem?_eq_getElem (by omega), hc85] at h0
  rw [List.getElem?_eq_getElem (by omega), hc86] at h1
  simp only [List.drop_zero, List.take_succ_cons, List.take_zero, List.drop_succ_cons] at h0 h1
  obtain ⟨m1, H1, g1, y1, a1, a2, a3, a4, v1, rfl, a5⟩ := opens_cs enc W n _ _ h0 (fun _ => none) GH.empty (Rel.empty _ _)
  obtain ⟨m2, H2, g2, y2, b1, b2, b3, b4, v2, rfl, b5⟩ := opens_hs enc W n _ _ h1 m1 H1 a3
  exact ⟨m2, H2, v1, v2, y1, y2, b3, (a4.mono b1).append b4, a5.mono b2, b5⟩

namespace stocksCheck
open Go.ChangeShapes Go.WideShapes Go.ChangeAt Go.RowKit
theorem own : ownKnob Try.prog.godebug = none := by kernel_rfl
theorem laidOut : laidOutB Try.prog = true := by kernel_rfl
theorem okWide_agg {P : Program} {t : TypeId} {fs : Array Field} {W : World} {r : Reach} {base : Nat} {v : Value} (hu : P.underlying t = some (.struct fs)) (hv : Value.okWide P W r base t v) : ∃ cs, v = .agg cs := by
  unfold Value.okWide at hv
  rw [hu] at hv
  obtain ⟨cs, h, _⟩ := hv
  exact ⟨cs, h⟩
theorem num_cells {W : World} {r : Go.Reach} {base : Nat} {v : Value} (h : Value.okWide Try.prog W r base 89 v) : v.cells.toList = [v] := by
  unfold Value.okWide at h
  rw [Try.underlying89] at h
  cases v with
  | agg cs =>
    exfalso
    unfold Cell.okWide at h
    rw [Try.underlying89] at h
    exact h
  | _ => rfl
theorem walk_k {k : Nat} (hk : 5001 ≤ k) {D : Type} {enc : TypeId × Value → D} {W : World} {v0 v1 v2 : Value} {d0 d1 d2 : DataW D} {p0 p1 p2 : List MemPlace} {base : Nat}
    (hv0 : Value.okWide Try.prog W .any base 88 v0) (h0 : DataW.Trod enc Try.prog W 0 (fun _ => true) true 88 v0 d0 p0)
    (hv1 : Value.okWide Try.prog W .any base 89 v1) (h1 : DataW.Trod enc Try.prog W 0 (fun _ => true) true 89 v1 d1 p1)
    (hv2 : Value.okWide Try.prog W .any base 91 v2) (h2 : DataW.Trod enc Try.prog W 0 (fun _ => true) true 91 v2 d2 p2) :
    Calls Try.prog 7 #[v0, v1, v2] W fun e w' => e = .returned (.bool true) ∧ Below W.heap.size W w' := by
  obtain ⟨fuel0, h0⟩ := h0
  obtain ⟨fuel1, h1⟩ := h1
  obtain ⟨fuel2, h2⟩ := h2
  obtain ⟨cs0, rfl⟩ := okWide_agg Try.underlying88 hv0
  obtain ⟨cs2, rfl⟩ := okWide_agg Try.underlying91 hv2
  obtain ⟨m, H, vC, vH, xs, ys, hR, hV, hS⟩ := open_stock h0
  obtain ⟨t, e1, _, w1⟩ := DataW.trod_int Try.underlying89 h1
  rw [num_cells hv1] at e1
  injection e1 with e1 _
  subst e1
  obtain ⟨m2, H2, g2, h, k1, k2, k3, k4, k5⟩ := opens_ho enc W fuel2 _ _ h2 m H hR
  have k5 : g2 = hoC h := k5
  subst k5
  obtain ⟨outs, hx, hy⟩ := law_ok (k := k) (h := h) hk (wf_u16 w1) (hS.mono k2)
  have hx : gCallC Try.prog fnT clo (k + 7) (.func (.func 7) #[] #[]) [.agg #[vC, vH], .int .u16 t, .agg #[.int .i64 h.ord, .int .i64 h.art, .int .i64 h.len]] H2 = some outs := hx
  have hmix : Try.prog.follows .mixedOrders = true := by kernel_rfl
  refine top_callsC hmix (fun f fn h => fnT_ok f fn h) clo_ok hx hy (m := m2) (.cons (VR.aggA (hV.mono k1)) (.cons (.int _ _) (.cons (VR.aggA k4) .nil))) k3
theorem walk {D : Type} {enc : TypeId × Value → D} {W : World} {v0 v1 v2 : Value} {d0 d1 d2 : DataW D} {p0 p1 p2 : List MemPlace} {base : Nat}
    (hv0 : Value.okWide Try.prog W .any base 88 v0) (h0 : DataW.Trod enc Try.prog W 0 (fun _ => true) true 88 v0 d0 p0)
    (hv1 : Value.okWide Try.prog W .any base 89 v1) (h1 : DataW.Trod enc Try.prog W 0 (fun _ => true) true 89 v1 d1 p1)
    (hv2 : Value.okWide Try.prog W .any base 91 v2) (h2 : DataW.Trod enc Try.prog W 0 (fun _ => true) true 91 v2 d2 p2) :
    Calls Try.prog 7 #[v0, v1, v2] W fun e w' => e = .returned (.bool true) ∧ Below W.heap.size W w' := walk_k (Nat.le_refl 5001) hv0 h0 hv1 h1 hv2 h2
set_option maxRecDepth 100000 in
theorem lifted (os : Os) (started : os.Started) (H : Type) (enc : TypeId × Value → H) :
    ReturnsInHanded {} Try.checked os 7 .any (Rows.stocksCheckSpec.pre6 enc Try.prog Try.f7 Rows.stocksCheckRow.domain false) (Rows.stocksCheckSpec.post enc Try.prog Try.f7 false true false false) := by
  refine returnsInHanded_of_change_sized (C := Try.checked) own started (by kernel_rfl) Try.func7
    (ChangeSpec.witness6 (enc := enc) (C := Try.checked) false ⟨#[], #[.agg #[.slice none 0 0, .slice none 0 0], .int .u16 0, .agg #[.int .i64 0, .int .i64 0, .int .i64 0]], []⟩ 8 (by kernel_rfl) (by kernel_rfl) (by kernel_rfl) (by kernel_rfl)) ?_
  intro W base args ds gs before hval0 hW hcnd hsz0 _
  have hval : ∀ (j : Nat) t v, Try.f7.params[j]? = some t → args[j]? = some v → Value.okWide Try.prog W .any base t v := hval0
  have hW' := hW
  obtain ⟨p, q, hA0, hV, rfl, hfz, hnd⟩ := hW
  have hA : DataW.TrodAll enc Try.prog W 0 (fun _ => true) true Try.f7.params.toList args.toList ds p := hA0
  rw [Try.params7] at hA hval
  obtain ⟨v0, vs0, d0, ds0, p0, q0, hargs, rfl, rfl, h0, r0⟩ := trodAll_cons hA
  obtain ⟨v1, vs1, d1, ds1, p1, q1, rfl, rfl, rfl, h1, r1⟩ := trodAll_cons r0
  obtain ⟨v2, vs2, d2, ds2, p2, q2, rfl, rfl, rfl, h2, r2⟩ := trodAll_cons r1
  obtain ⟨rfl, rfl, rfl⟩ := trodAll_nil r2
  obtain rfl : args = #[v0, v1, v2] := by cases args; simp_all
  obtain ⟨rfl, rfl⟩ := trodVars_none hV
  have lt0 : ∀ x ∈ p0, x.block < W.heap.size := by
    obtain ⟨m, hm⟩ := h0
    exact DataW.trod_lt m _ _ _ hm
  have lt1 : ∀ x ∈ p1, x.block < W.heap.size := by
    obtain ⟨m, hm⟩ := h1
    exact DataW.trod_lt m _ _ _ hm
  have lt2 : ∀ x ∈ p2, x.block < W.heap.size := by
    obtain ⟨m, hm⟩ := h2
    exact DataW.trod_lt m _ _ _ hm
  clear hA0 hval0 hsz0
  refine (walk (hval 0 88 v0 rfl rfl) h0 (hval 1 89 v1 rfl rfl) h1 (hval 2 91 v2 rfl rfl) h2).mono fun e W' ⟨he, bel⟩ => ?_
  subst he
  exact ⟨_, rfl, _, _, _, [], _, [], hW', trodAll_mk1 (shut_bool Try.underlying4 _), (trodAll_cons_mk (Below.trod laidOut (by kernel_rfl) (of_decide_eq_true (by kernel_rfl)) h0 bel lt0) (trodAll_cons_mk (Below.trod laidOut (by kernel_rfl) (of_decide_eq_true (by kernel_rfl)) h1 bel lt1) (trodAll_cons_mk (Below.trod laidOut (by kernel_rfl) (of_decide_eq_true (by kernel_rfl)) h2 bel lt2) trodAll_mk0))), rfl, bel.frame _, fun h => by cases h⟩
theorem over : Rows.stocksCheckRow.holds Try.pinned (OpenSpec.ofChange Rows.stocksCheckSpec) :=
  OpenClaim.holds_of_wide 7 Try.f7 rfl rfl rfl rfl rfl rfl rfl ⟨rfl, rfl, rfl, rfl, rfl⟩ rfl rfl rfl rfl rfl (by kernel_rfl) Try.func7 (by kernel_rfl)
    (of_decide_eq_true (by kernel_rfl)) (by unfold Func.isWrapper; first | (rw [if_pos (by decide +kernel)]; kernel_rfl) | (rw [if_neg (by decide +kernel)]; exact ⟨rfl, rfl⟩))
    (fun os started H enc _ => lifted os started H enc)
theorem proved : Rows.StocksCheckSaid := over
end stocksCheck
/-- The row, under a short name, for the claim. -/
theorem stocksCheck_holds : Rows.StocksCheckSaid := stocksCheck.proved
#print axioms stocksCheck_holds
end Go.Proofs.Ythicilkmjamefaa
