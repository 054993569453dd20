/- The chapter's examples of stocks: the law's 'lives', evaluated over the functions' shallow forms. -/
import Derived.Test.YthicilkmjamefaaSoS
namespace Go.Proofs.Ythicilkmjamefaa
open Go.Gh
def isT : Value → Bool | .bool b => b | _ => false
def allT (x : M (Value × GH)) : Bool := match x with | some l => l.all fun x => isT x.1 | none => false
theorem allT_spec {x : M (Value × GH)} (h : allT x = true) : ∃ l, x = some l ∧ ∀ y ∈ l, y.1 = .bool true := by
  cases x with
  | none => cases h
  | some l =>
    refine ⟨l, rfl, fun y hy => ?_⟩
    have := List.all_eq_true.1 h y hy
    cases hv : y.1 <;> rw [hv] at this <;> first | (cases this; done) | (exact congrArg Value.bool this)
theorem livesS33 : allT (sCall Try.prog fnE shT 300 (.func (.func 33) #[] #[]) [] GH.empty) = true := by kernel_rfl
theorem lives33 : allT (gCall Try.prog fnE 300 (.func (.func 33) #[] #[]) [] GH.empty) = true := by
  rw [← sCall_eq shT_ok]
  exact livesS33
end Go.Proofs.Ythicilkmjamefaa
