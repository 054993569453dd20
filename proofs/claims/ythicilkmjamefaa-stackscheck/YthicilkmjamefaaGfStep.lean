/- The ghost machine: one operation goes on together with the model's. -/
import Derived.Test.YthicilkmjamefaaGeMapsC
namespace Go.Gh
open Go.RowKit
set_option linter.unusedVariables false
set_option linter.unusedSimpArgs false

/-! ### Continuations -/
def gRet : Value → GH → M (Value × GH) := fun v H => ret (v, H)

theorem joinM_some {α β : Type} {f : α → M β} : ∀ {l : List α} {outs : List β}, joinM (l.map f) = some outs → ∀ x ∈ l, ∃ o, f x = some o ∧ o ⊆ outs := by
  intro l
  induction l with
  | nil => intro outs h x hx; cases hx
  | cons a l ih =>
    intro outs h x hx
    simp only [List.map_cons, joinM] at h
    split at h
    · next o1 o2 h1 h2 =>
      injection h with h
      subst h
      rcases List.mem_cons.1 hx with rfl | hx
      · exact ⟨o1, h1, List.subset_append_left _ _⟩
      · obtain ⟨o, ho, hs⟩ := ih h2 x hx
        exact ⟨o, ho, fun y hy => List.mem_append_right _ (hs hy)⟩
    · cases h
theorem bindM_some {α β : Type} {x : M α} {f : α → M β} {outs : List β} (h : bindM x f = some outs) : ∃ l, x = some l ∧ ∀ a ∈ l, ∃ o, f a = some o ∧ o ⊆ outs := by
  unfold bindM at h
  split at h
  · cases h
  · next a => exact ⟨[a], rfl, fun b hb => by rw [List.mem_singleton] at hb; subst hb; exact ⟨outs, h, fun _ hx => hx⟩⟩
  · next l _ => exact ⟨l, rfl, joinM_some h⟩
theorem joinM_ret {α : Type} : ∀ l : List α, joinM (l.map ret) = some l := by
  intro l
  induction l with
  | nil => rfl
  | cons a l ih => simp [joinM, ret, ih]
theorem bindM_ret {α : Type} (l : List α) : bindM (some l) ret = some l := by
  unfold bindM
  split
  · next h => cases h
  · next a h => injection h with h; subst h; rfl
  · next l' _ h => injection h with h; subst h; exact joinM_ret _

/-- An evaluation goes on as its continuation does, in each of its outcomes. -/
def Nat1 (d : Nat) (G : (β : Type) → (Value → GH → M β) → M β) : Prop :=
  ∀ (β : Type) (K : Value → GH → M β) (outs : List β), G β K = some outs → ∃ l, G _ gRet = some l ∧ (d ≠ 0 → ∃ x, l = [x]) ∧ ∀ x ∈ l, ∃ o, K x.1 x.2 = some o ∧ o ⊆ outs
theorem Nat1.here {d : Nat} (v : Value) (H : GH) : Nat1 d fun β K => K v H := fun β K outs h =>
  ⟨[(v, H)], rfl, fun _ => ⟨_, rfl⟩, fun x hx => by rw [List.mem_singleton] at hx; subst hx; exact ⟨outs, h, fun _ hy => hy⟩⟩
theorem Nat1.none {d : Nat} : Nat1 d fun β K => (Option.none : M β) := fun β K outs h => by cases h
theorem Nat1.onV {d : Nat} (x : Option Value) (H : GH) : Nat1 d fun β K => Gh.onV x fun v => K v H := by
  cases x with
  | none => exact Nat1.none
  | some v => exact Nat1.here v H
theorem Nat1.onH {d : Nat} (x : Option GH) (v : Value) : Nat1 d fun β K => Gh.onH x fun H => K v H := by
  cases x with
  | none => exact Nat1.none
  | some H => exact Nat1.here v H
theorem Nat1.onVH {d : Nat} (x : Option (Value × GH)) : Nat1 d fun β K => Gh.onVH x fun v H => K v H := by
  cases x with
  | none => exact Nat1.none
  | some x => exact Nat1.here x.1 x.2
theorem Nat1.bind (x : M (Value × GH)) : Nat1 0 fun β K => bindM x fun x => K x.1 x.2 := fun β K outs h => by
  obtain ⟨l, hl, hf⟩ := bindM_some h
  refine ⟨l, ?_, fun h => absurd rfl h, hf⟩
  rw [hl]
  exact bindM_ret l
theorem Nat1.one {d : Nat} (x : M (Value × GH)) : Nat1 d fun β K => match x with
    | some [(v, H1)] => K v H1
    | _ => Option.none := by
  intro β K outs h
  simp only at h
  split at h
  · next v H1 => exact ⟨[(v, H1)], rfl, fun _ => ⟨_, rfl⟩, fun x hx => by rw [List.mem_singleton] at hx; subst hx; exact ⟨outs, h, fun _ hy => hy⟩⟩
  · cases h
theorem Nat1.onCall (d : Nat) (call : Handle) (f : Value) (args : List Value) (H : GH) : Nat1 d fun β K => Gh.onCall d call f args H K := by
  unfold Gh.onCall
  match d with
  | 0 => exact Nat1.bind _
  | 1 =>
    intro β K outs h
    simp only at h
    split at h
    · next v H1 hc =>
      split at h
      · next hlo =>
        refine ⟨[(v, H1)], by simp only [hc, if_pos hlo, gRet, ret], fun _ => ⟨_, rfl⟩, fun x hx => ?_⟩
        rw [List.mem_singleton] at hx; subst hx; exact ⟨outs, h, fun _ hy => hy⟩
      · cases h
    · cases h
  | d + 2 =>
    intro β K outs h
    simp only at h
    split at h
    · next v H1 hc =>
      split at h
      · next hlo =>
        refine ⟨[(v, { objs := H1.objs.take (H1.n - H.n) ++ H.objs, n := H1.n, lo := min H.lo H1.lo })], by simp only [hc, if_pos hlo, gRet, ret], fun _ => ⟨_, rfl⟩, fun x hx => ?_⟩
        rw [List.mem_singleton] at hx; subst hx; exact ⟨outs, h, fun _ hy => hy⟩
      · cases h
    · cases h
theorem Nat1.onNext (d : Nat) (x : M (Value × GH)) : Nat1 d fun β K => Gh.onNext d x K := by
  unfold Gh.onNext
  match d with
  | 0 => exact Nat1.bind _
  | d + 1 => exact Nat1.one _

section
variable (P : Program)
theorem Nat1.gBuiltin (d : Nat) (b : Builtin) (tys : List TypeId) (args : List Value) (H : GH) : Nat1 d fun β K => Gh.gBuiltin P b tys args H K := by
  unfold Gh.gBuiltin
  split
  · split
    · exact Nat1.onV _ _
    · exact Nat1.onV _ _
  · exact Nat1.onV _ _
  · exact Nat1.onVH _
  · exact Nat1.onVH _
  · exact Nat1.onH _ _
  · exact Nat1.onH _ _
  · exact Nat1.onV _ _
  · exact Nat1.onV _ _
  · exact Nat1.none
theorem Nat1.gBuiltinQ (d : Nat) (tys : List TypeId) (args : List Value) (H : GH) : Nat1 d fun β K => Gh.gBuiltinQ P tys args H K := by
  unfold Gh.gBuiltinQ
  split
  · exact Nat1.onVH _
  · exact Nat1.none
theorem Nat1.box {d : Nat} (e : TypeId) (v : Value) (H : GH) : Nat1 d fun β K => match gSize P e with
    | some _ => K (.pointer (some ⟨H.n, 0, Option.none⟩)) (H.push (.row v.cells.toList e false))
    | Option.none => Option.none := by
  cases gSize P e with
  | none => exact Nat1.none
  | some _ => exact Nat1.here _ _
theorem Nat1.gStep (d : Nat) (call : Handle) (ρ : Operand → Value) (o : Oper) (H : GH) : Nat1 d fun β K => Gh.gStep P d call ρ o H K := by
  unfold Gh.gStep
  cases o.op
  case box => exact Nat1.box P _ _ _
  case alloc e =>
    show Nat1 d fun β K => Gh.onV (gZero P e) fun z => K (.pointer (some ⟨H.n, 0, Option.none⟩)) (H.push (.row z.cells.toList e false))
    cases gZero P e with
    | none => exact Nat1.none
    | some z => exact Nat1.here _ _
  case makeFunc f a b => cases f <;> first | exact Nat1.here _ _ | exact Nat1.none
  case makeMap t r => cases r <;> first | exact Nat1.here _ _ | exact Nat1.none
  case call c =>
    show Nat1 d fun β K => match c.callee with
      | .value f => Gh.onCall d call (ρ f) (c.args.toList.map ρ) H K
      | .builtin b => if decide (3 ≤ d) && maskHit (d - 3) c then Gh.gBuiltinQ P c.argTypes.toList (c.args.toList.map ρ) H K else Gh.gBuiltin P b c.argTypes.toList (c.args.toList.map ρ) H K
      | _ => Option.none
    cases c.callee with
    | value f => exact Nat1.onCall _ _ _ _ _
    | builtin b =>
      show Nat1 d fun β K => if decide (3 ≤ d) && maskHit (d - 3) c then Gh.gBuiltinQ P c.argTypes.toList (c.args.toList.map ρ) H K else Gh.gBuiltin P b c.argTypes.toList (c.args.toList.map ρ) H K
      by_cases hm : (decide (3 ≤ d) && maskHit (d - 3) c) = true
      · simp only [if_pos hm]; exact Nat1.gBuiltinQ P _ _ _ _
      · simp only [if_neg hm]; exact Nat1.gBuiltin P _ _ _ _ _
    | invoke r s => exact Nat1.none
  all_goals first
    | exact Nat1.onV _ _
    | exact Nat1.onVH _
    | exact Nat1.onH _ _
    | exact Nat1.here _ _
    | exact Nat1.onNext _ _
    | exact Nat1.none
end
end Go.Gh
