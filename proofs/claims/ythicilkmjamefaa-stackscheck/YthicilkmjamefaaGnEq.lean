/- The ghost machine: what comparisons of structs come to. -/
import Derived.Test.YthicilkmjamefaaGnData
import Derived.Laws.StructEq
namespace Go.Gh
set_option linter.unusedVariables false
set_option linter.unusedSimpArgs false
section
variable {P : Program}
theorem quick_bind {α β : Type} (s : Sem α) (f : α → Sem β) : quick P (s >>= f) = (quick P s).bind fun a => quick P (f a) := by
  show quick P (Sem.bind s f) = _
  have : ∀ (P' : Program), quick P' (Sem.bind s f) = (quick P' s).bind fun a => quick P' (f a) := by
    induction s with
    | pure a => intro P'; rfl
    | program k ih => intro P'; exact ih P' P'
    | mark m k ih => intro P'; exact ih P'
    | _ => intro P'; rfl
  exact this P
theorem quick_pure {α : Type} (a : α) : quick P (Pure.pure a : Sem α) = some a := rfl
theorem quick_program : quick P Go.program = some P := rfl
theorem quick_underlying {t : TypeId} {d : TypeDesc} (h : P.underlying t = some d) : quick P (Go.underlying t) = some d := by
  unfold Go.underlying
  rw [quick_bind]
  simp only [quick_program, Option.bind_some, h]
  rfl
theorem quick_eqFields (d : Nat) (t : TypeId) (xs ys : Array Value) (ht : P.underlying t = some (.struct (P.fieldsOf t))) (hp : P.stoodInHeld t = false) :
    quick P (Op.equalIn (d + 1) t (.agg xs) (.agg ys)) = quick P (Op.eqFields d xs ys (P.fieldsOf t).toList) := by
  simp only [Op.equalIn, quick_bind, quick_underlying ht, Option.bind_some, quick_program, hp, Bool.false_eq_true, if_false]
  rw [← Array.forIn_toList]
  generalize (P.fieldsOf t).toList = fs
  clear ht
  induction fs with
  | nil => rfl
  | cons f fs ih =>
    simp only [List.forIn_cons, Op.eqFields]
    split
    · simp only [quick_bind]
      cases quick P (part f.type xs f.offset) with
      | none => rfl
      | some a =>
        simp only [Option.bind_some]
        cases quick P (part f.type ys f.offset) with
        | none => rfl
        | some b =>
          simp only [Option.bind_some]
          cases quick P (Op.equalIn d f.type a b) with
          | none => rfl
          | some r =>
            cases r
            · rfl
            · simp only [Option.bind_some, Bool.not_true, Bool.false_eq_true, if_false, quick_pure]
              exact ih
    · simp only [quick_bind, quick_pure, Option.bind_some]
      exact ih
theorem quick_eqInt (d : Nat) (t : TypeId) (k k' : IntKind) (a b : Int) (h : P.underlying t = some (.int k')) : quick P (Op.equalIn (d + 1) t (.int k a) (.int k b)) = some (a == b) := by
  simp only [Op.equalIn, quick_bind, quick_underlying h, Option.bind_some, if_true]
  rfl
theorem quick_eqBool (d : Nat) (t : TypeId) (a b : Bool) (h : P.underlying t = some .bool) : quick P (Op.equalIn (d + 1) t (.bool a) (.bool b)) = some (a == b) := by
  simp only [Op.equalIn, quick_bind, quick_underlying h, Option.bind_some]
  rfl
theorem quick_eqInt' {d : Nat} (hd : 0 < d) {t : TypeId} {k k' : IntKind} {a b : Int} (h : P.underlying t = some (.int k')) : quick P (Op.equalIn d t (.int k a) (.int k b)) = some (a == b) := by
  obtain ⟨d, rfl⟩ : ∃ e, d = e + 1 := ⟨d - 1, by omega⟩
  exact quick_eqInt d t k k' a b h
theorem quick_eqBool' {d : Nat} (hd : 0 < d) {t : TypeId} {a b : Bool} (h : P.underlying t = some .bool) : quick P (Op.equalIn d t (.bool a) (.bool b)) = some (a == b) := by
  obtain ⟨d, rfl⟩ : ∃ e, d = e + 1 := ⟨d - 1, by omega⟩
  exact quick_eqBool d t a b h
theorem quick_equal_struct (t : TypeId) (xs ys : Array Value) (ht : P.underlying t = some (.struct (P.fieldsOf t))) (hp : P.stoodInHeld t = false) :
    quick P (Op.equal t (.agg xs) (.agg ys)) = quick P (Op.eqFields 9999 xs ys (P.fieldsOf t).toList) := quick_eqFields 9999 t xs ys ht hp
theorem quick_eqCons {d : Nat} {xs ys : Array Value} {f : Field} {fs : List Field} {a b : Value} {r s : Bool} (hn : f.name ≠ "_") (ha : quick P (part f.type xs f.offset) = some a) (hb : quick P (part f.type ys f.offset) = some b)
    (he : quick P (Op.equalIn d f.type a b) = some r) (hr : quick P (Op.eqFields d xs ys fs) = some s) : quick P (Op.eqFields d xs ys (f :: fs)) = some (r && s) := by
  rw [Op.eqFields, if_pos hn]
  simp only [quick_bind, ha, hb, he, Option.bind_some]
  cases r
  · rfl
  · simpa using hr
theorem quick_eqNil {d : Nat} {xs ys : Array Value} : quick P (Op.eqFields d xs ys []) = some true := rfl
end
end Go.Gh
