/- The chapter's examples of tapes: the law's 'lives', evaluated over the functions' shallow forms. -/
import Derived.Test.YtdhadannleldiaaDoorTaLS
namespace Go.Proofs.YtdhadannleldiaaDoor
open Go.Gh
def isT : Value → Bool | .bool b => b | _ => false
def allT (x : M (Value × GH)) : Bool := match x with | some l => l.all fun x => isT x.1 && decide (glN ≤ x.2.lo) | none => false
theorem allT_spec {x : M (Value × GH)} (h : allT x = true) : ∃ l, x = some l ∧ ∀ y ∈ l, y.1 = .bool true ∧ glN ≤ y.2.lo := by
  cases x with
  | none => cases h
  | some l =>
    refine ⟨l, rfl, fun y hy => ?_⟩
    have := List.all_eq_true.1 h y hy
    simp only [Bool.and_eq_true, decide_eq_true_eq] at this
    refine ⟨?_, this.2⟩
    have := this.1
    cases hv : y.1 <;> rw [hv] at this <;> first | (cases this; done) | (exact congrArg Value.bool this)
theorem livesS4 : allT (sCall Tryd.prog fnE shT 300 (.func (.func 4) #[] #[]) [] GH.start) = true := by kernel_rfl
theorem lives4 : allT (gCall Tryd.prog fnE 300 (.func (.func 4) #[] #[]) [] GH.start) = true := by
  rw [← sCall_eq shT_ok]
  exact livesS4
end Go.Proofs.YtdhadannleldiaaDoor
