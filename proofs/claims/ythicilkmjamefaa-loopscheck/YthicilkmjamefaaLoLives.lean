/- The chapter's examples of loops: the law's 'lives', evaluated over the functions' shallow forms. -/
import Derived.Test.YthicilkmjamefaaLoS
namespace Go.Proofs.Ythicilkmjamefaa
open Go.Gh
def isT : Value → Bool | .bool b => b | _ => false
def allT (x : M (Value × GH)) : Bool := match x with | some l => l.all fun x => isT x.1 | none => false
theorem allT_spec {x : M (Value × GH)} (h : allT x = true) : ∃ l, x = some l ∧ ∀ y ∈ l, y.1 = .bool true := by
  cases x with
  | none => cases h
  | some l =>
    refine ⟨l, rfl, fun y hy => ?_⟩
    have := List.all_eq_true.1 h y hy
    cases hv : y.1 <;> rw [hv] at this <;> first | (cases this; done) | (exact congrArg Value.bool this)
theorem livesS22 : allT (sCall Try.prog fnE shT 300 (.func (.func 22) #[] #[]) [] GH.empty) = true := by kernel_rfl
theorem lives22 : allT (gCall Try.prog fnE 300 (.func (.func 22) #[] #[]) [] GH.empty) = true := by
  rw [← sCall_eq shT_ok]
  exact livesS22
end Go.Proofs.Ythicilkmjamefaa
