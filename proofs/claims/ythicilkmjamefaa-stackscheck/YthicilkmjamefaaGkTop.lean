/- The ghost machine: from an evaluation to the call that a law asks for. -/
import Derived.Test.YthicilkmjamefaaGjCallB
namespace Go.Gh
open Go.RowKit
set_option linter.unusedVariables false
set_option linter.unusedSimpArgs false

/-- An evaluation all of whose outcomes are true: the call returns true, and nothing that was there has been turned. -/
theorem top_calls {P : Program} (hmix : P.follows .mixedOrders = true) {T : Nat → Option Func} (hT : ∀ f fn, T f = some fn → P.funcs[f]? = some fn ∧ funcOk fn = true) {k : Nat} {f : FuncId} {args : List Value} {H : GH} {outs : List (Value × GH)}
    (h : gCall P T k (.func (.func f) #[] #[]) args H = some outs) (hall : ∀ x ∈ outs, x.1 = .bool true) {m : PM} {W : World} {args' : Array Value} (ha : VRs m args args'.toList) (hR : Rel P W.heap.size m H W) :
    Calls P f args' W fun e w' => e = .returned (.bool true) ∧ Below W.heap.size W w' := by
  have h1 := gCall_ok hmix hT k _ _ _ _ h W.heap.size m W (.func (.func f) #[] #[]) args'.toList
    (.func f #[] #[] #[] #[] rfl (fun i hi => absurd hi (by simp)) rfl (fun i hi => absurd hi (by simp))) ha hR (Nat.le_refl _)
  rcases h1 with ⟨f', fn, fs, cs, e, h2, h3, h4, h5⟩ | ⟨L, f', tmps, as, bd, e, _⟩
  · injection e with e1 e2 e3
    injection e1 with e1
    subst e1; subst e2; subst e3
    have h6 := callsIn_wide.1 (h5 0)
    have e : (#[] ++ args'.toList.toArray ++ #[] : Array Value) = args' := by simp
    rw [e] at h6
    refine h6.mono fun e w' he => ?_
    cases e with
    | returned v =>
      obtain ⟨x, hx, m', hv, _, hG⟩ := he
      rw [hall x hx] at hv
      cases hv
      exact ⟨rfl, hG.below⟩
    | panicked _ => exact he.elim
    | outgrown => exact he.elim
  · cases e
end Go.Gh
