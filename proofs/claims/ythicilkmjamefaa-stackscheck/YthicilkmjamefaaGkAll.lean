/- The ghost machine: what is shown of evaluations: every outcome is such. Plain laws for sequences, conditions, loops. -/
import Derived.Test.YthicilkmjamefaaGkTop
namespace Go.Gh
set_option linter.unusedVariables false

/-- It comes to outcomes, and each is such. -/
def All {β : Type} (x : M β) (Q : β → Prop) : Prop := ∃ l, x = some l ∧ ∀ y ∈ l, Q y
section
variable {β α : Type} {Q Q' : β → Prop}
theorem All.ret {v : β} (h : Q v) : All (ret v) Q := ⟨[v], rfl, fun y hy => by rw [List.mem_singleton] at hy; subst hy; exact h⟩
theorem All.one {v : β} (h : Q v) : All (some [v]) Q := All.ret h
theorem All.mono {x : M β} (h : All x Q) (hq : ∀ y, Q y → Q' y) : All x Q' := by
  obtain ⟨l, h1, h2⟩ := h
  exact ⟨l, h1, fun y hy => hq y (h2 y hy)⟩
theorem joinM_all {f : α → M β} : ∀ l : List α, (∀ a ∈ l, All (f a) Q) → All (joinM (l.map f)) Q := by
  intro l
  induction l with
  | nil => intro _; exact ⟨[], rfl, fun y hy => by cases hy⟩
  | cons a l ih =>
    intro h
    obtain ⟨l1, h1, h2⟩ := h a (by simp)
    obtain ⟨l2, h3, h4⟩ := ih fun b hb => h b (by simp [hb])
    refine ⟨l1 ++ l2, by simp [joinM, h1, h3], fun y hy => ?_⟩
    rcases List.mem_append.1 hy with hy | hy
    · exact h2 y hy
    · exact h4 y hy
theorem All.bind {x : M α} {f : α → M β} (h : All x fun a => All (f a) Q) : All (bindM x f) Q := by
  obtain ⟨l, rfl, h⟩ := h
  unfold bindM
  split
  · next h' => cases h'
  · next a h' => injection h' with h'; subst h'; exact h a (by simp)
  · next l' _ h' => injection h' with h'; subst h'; exact joinM_all _ h
theorem All.onV {x : Option Value} {f : Value → M β} {v : Value} (hx : x = some v) (h : All (f v) Q) : All (onV x f) Q := by subst hx; exact h
theorem All.onH {x : Option GH} {f : GH → M β} {v : GH} (hx : x = some v) (h : All (f v) Q) : All (onH x f) Q := by subst hx; exact h
theorem All.onVH {x : Option (Value × GH)} {f : Value → GH → M β} {v : Value} {H : GH} (hx : x = some (v, H)) (h : All (f v H) Q) : All (onVH x f) Q := by subst hx; exact h
theorem All.onBool {b : Bool} {p q : M β} (hp : b = true → All p Q) (hq : b = false → All q Q) : All (onBool (some b) p q) Q := by
  cases b
  · exact hq rfl
  · exact hp rfl
end

/-- A loop: I i a H: so many rounds at most are left. -/
theorem All.loop {β : Type} {Q : β → Prop} {f : GA → GH → Kont β → M β} {K : Kont β} (I : Nat → GA → GH → Prop) (R : GExit → GA → GH → Prop) (hK : ∀ e a H, R e a H → All (K e a H) Q)
    (step : ∀ (i : Nat) (a : GA) (H : GH) (K' : Kont β), I i a H → (∀ a' H' j, j < i → I j a' H' → All (K' .normal a' H') Q) → (∀ e a' H', e ≠ .normal → R e a' H' → All (K' e a' H') Q) → All (f a H K') Q) :
    ∀ (k i : Nat) (a : GA) (H : GH), I i a H → i < k → All (gLoop f K k a H) Q := by
  intro k
  induction k with
  | zero => intro i a H _ h; omega
  | succ k ih =>
    intro i a H hI hi
    unfold gLoop
    refine step i a H _ hI (fun a' H' j hj hI' => ih j a' H' hI' (by omega)) fun e a' H' he hR => ?_
    cases e with
    | normal => exact absurd rfl he
    | exit id => exact hK (.exit id) a' H' hR
    | ret => exact hK .ret a' H' hR

/-! ### The heap, looked at -/
theorem GH.push_get (H : GH) (o : GObj) (b : Nat) : (H.push o).get b = if b = H.n then some o else H.get b := by
  rcases Nat.lt_trichotomy b H.n with h | h | h
  · rw [if_neg (by omega), GH.get_push_old h]
  · subst h; rw [if_pos rfl, GH.get_push_new]
  · rw [if_neg (by omega), GH.get_push_ge h]
    unfold GH.get
    rw [if_neg (by omega)]
theorem GH.set_get (H : GH) (b : Nat) (o : GObj) (c : Nat) {o' : GObj} (hb : H.get b = some o') : (H.set b o).get c = if c = b then some o else H.get c := by
  by_cases h : c = b
  · subst h; rw [if_pos rfl, GH.get_set_same hb]
  · rw [if_neg h, GH.get_set_other (Ne.symm h) (GH.get_lt hb)]

/-- A place in a piece of code. -/
def cAt : Code → List Nat → Code
  | .seq x _, 0 :: p => cAt x p
  | .seq _ y, _ :: p => cAt y p
  | .cond _ x _, 0 :: p => cAt x p
  | .cond _ _ y, _ :: p => cAt y p
  | .block _ c, _ :: p => cAt c p
  | .scope c, _ :: p => cAt c p
  | .loop c, _ :: p => cAt c p
  | .rangeFunc _ _ x _, 0 :: p => cAt x p
  | .rangeFunc _ _ _ y, _ :: p => cAt y p
  | c, _ => c
def opsAt : Code → List Oper
  | .region _ ops _ => ops.toList
  | _ => []
def onFunc {β : Type} (v : Value) (f : Value → M β) : M β := match v with | .func (.func g) fs cs => f (.func (.func g) fs cs) | _ => none
def fAt (f : Func) (p : List Nat) : Code := match f.body with | some c => cAt c p | none => .skip
end Go.Gh
