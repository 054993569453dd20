/- The ghost machine: one operation goes on together with the model's. -/
import Derived.Test.YtdhadannleldiaaDoorGeMaps
namespace Go.Gh
open Go.RowKit
set_option linter.unusedVariables false
set_option linter.unusedSimpArgs false

/-! ### Continuations -/
def gRet : Value → GH → M (Value × GH) := fun v H => ret (v, H)

theorem joinM_some {α β : Type} {f : α → M β} : ∀ {l : List α} {outs : List β}, joinM (l.map f) = some outs → ∀ x ∈ l, ∃ o, f x = some o ∧ o ⊆ outs := by
  intro l
  induction l with
  | nil => intro outs h x hx; cases hx
  | cons a l ih =>
    intro outs h x hx
    simp only [List.map_cons, joinM] at h
    split at h
    · next o1 o2 h1 h2 =>
      injection h with h
      subst h
      rcases List.mem_cons.1 hx with rfl | hx
      · exact ⟨o1, h1, List.subset_append_left _ _⟩
      · obtain ⟨o, ho, hs⟩ := ih h2 x hx
        exact ⟨o, ho, fun y hy => List.mem_append_right _ (hs hy)⟩
    · cases h
theorem bindM_some {α β : Type} {x : M α} {f : α → M β} {outs : List β} (h : bindM x f = some outs) : ∃ l, x = some l ∧ ∀ a ∈ l, ∃ o, f a = some o ∧ o ⊆ outs := by
  unfold bindM at h
  split at h
  · cases h
  · next a => exact ⟨[a], rfl, fun b hb => by rw [List.mem_singleton] at hb; subst hb; exact ⟨outs, h, fun _ hx => hx⟩⟩
  · next l _ => exact ⟨l, rfl, joinM_some h⟩
theorem joinM_ret {α : Type} : ∀ l : List α, joinM (l.map ret) = some l := by
  intro l
  induction l with
  | nil => rfl
  | cons a l ih => simp [joinM, ret, ih]
theorem bindM_ret {α : Type} (l : List α) : bindM (some l) ret = some l := by
  unfold bindM
  split
  · next h => cases h
  · next a h => injection h with h; subst h; rfl
  · next l' _ h => injection h with h; subst h; exact joinM_ret _

/-! ### Equal outcomes -/
theorem eqI_eq : ∀ {a b : Int}, eqI a b = true → a = b
  | .ofNat _, .ofNat _, h => by rw [Nat.eq_of_beq_eq_true h]
  | .negSucc _, .negSucc _, h => by rw [Nat.eq_of_beq_eq_true h]
  | .ofNat _, .negSucc _, h => by cases h
  | .negSucc _, .ofNat _, h => by cases h
theorem eqOA_eq {a b : Option Addr} (h : eqOA a b = true) : a = b := by
  unfold eqOA at h
  split at h
  · rfl
  · simp only [Bool.and_eq_true] at h
    rw [Nat.eq_of_beq_eq_true h.1, Nat.eq_of_beq_eq_true h.2]
  · cases h
theorem eqON_eq {a b : Option Nat} (h : eqON a b = true) : a = b := by
  unfold eqON at h
  split at h
  · rfl
  · rw [Nat.eq_of_beq_eq_true h]
  · cases h
theorem eqL_eq {α : Type} {f : α → α → Bool} (hf : ∀ a b, f a b = true → a = b) : ∀ {l r : List α}, eqL f l r = true → l = r := by
  intro l
  induction l with
  | nil => intro r h; cases r with | nil => rfl | cons _ _ => cases h
  | cons x xs ih =>
    intro r h
    cases r with
    | nil => cases h
    | cons y ys =>
      simp only [eqL, Bool.and_eq_true] at h
      rw [hf _ _ h.1, ih h.2]
theorem toList_eq {α : Type} {a b : Array α} (h : a.toList = b.toList) : a = b := Array.ext' h
theorem eqV_eq : ∀ n a b, eqV n a b = true → a = b := by
  intro n
  induction n with
  | zero => intro a b h; cases h
  | succ n ih =>
    intro a b h
    unfold eqV at h
    split at h
    · rw [eq_of_beq h]
    · simp only [Bool.and_eq_true, decide_eq_true_eq] at h
      rw [eqI_eq h.1, h.2]
    · rw [eqOA_eq h]
    · simp only [Bool.and_eq_true] at h
      rw [eqOA_eq h.1.1, Nat.eq_of_beq_eq_true h.1.2, Nat.eq_of_beq_eq_true h.2]
    · rw [eqON_eq h]
    · rfl
    · rfl
    · rw [toList_eq (eqL_eq ih h)]
    · rw [toList_eq (eqL_eq ih h)]
    · simp only [Bool.and_eq_true] at h
      rw [Nat.eq_of_beq_eq_true h.1.1, toList_eq (eqL_eq ih h.1.2), toList_eq (eqL_eq ih h.2)]
    · cases h
theorem eqE_eq (x y : MapEntry) (h : eqE x y = true) : x = y := by
  cases x; cases y
  simp only [eqE, Bool.and_eq_true] at h
  rw [eqV_eq _ _ _ h.1.1, eqV_eq _ _ _ h.1.2, Nat.eq_of_beq_eq_true h.2]
theorem eqO_eq (x y : GObj) (h : eqO x y = true) : x = y := by
  unfold eqO at h
  split at h
  · simp only [Bool.and_eq_true] at h
    rw [eqL_eq (eqV_eq _) h.1.1, Nat.eq_of_beq_eq_true h.1.2, eq_of_beq h.2]
  · simp only [Bool.and_eq_true] at h
    rw [eqL_eq eqE_eq h.1, Nat.eq_of_beq_eq_true h.2]
  · rfl
  · cases h
theorem eqX_eq (x y : Value × GH) (h : eqX x y = true) : x = y := by
  obtain ⟨v, objs, n, lo⟩ := x
  obtain ⟨v', objs', n', lo'⟩ := y
  simp only [eqX, Bool.and_eq_true] at h
  rw [Nat.eq_of_beq_eq_true h.1.1.1, eqV_eq _ _ _ h.1.1.2, Nat.eq_of_beq_eq_true h.1.2, eqL_eq eqO_eq h.2]
theorem ddL_mem : ∀ (l : List (Value × GH)) (x : Value × GH), x ∈ ddL l ↔ x ∈ l := by
  intro l
  induction l with
  | nil => intro x; exact Iff.rfl
  | cons y r ih =>
    intro x
    unfold ddL
    split
    · next h =>
      rw [ih x, List.mem_cons]
      refine ⟨.inr, fun h' => ?_⟩
      rcases h' with rfl | h'
      · obtain ⟨z, hz, he⟩ := List.any_eq_true.1 h
        rw [eqX_eq _ _ he]; exact hz
      · exact h'
    · rw [List.mem_cons, List.mem_cons, ih x]
theorem dd_some {x : M (Value × GH)} {l : List (Value × GH)} (h : dd x = some l) : ∃ l', x = some l' ∧ ∀ y, y ∈ l ↔ y ∈ l' := by
  unfold dd at h
  split at h
  · cases h
  · next a => injection h with h; subst h; exact ⟨_, rfl, fun _ => Iff.rfl⟩
  · next l' _ => injection h with h; subst h; exact ⟨l', rfl, ddL_mem l'⟩
theorem dd_of {l' : List (Value × GH)} : ∃ l, dd (some l') = some l ∧ ∀ y, y ∈ l ↔ y ∈ l' := by
  unfold dd
  split
  · next h => cases h
  · next a h => injection h with h; subst h; exact ⟨_, rfl, fun _ => Iff.rfl⟩
  · next l _ h => injection h with h; subst h; exact ⟨_, rfl, ddL_mem l'⟩

/-- An evaluation goes on as its continuation does, in each of its outcomes. -/
def Nat1 (d : Nat) (G : (β : Type) → (Value → GH → M β) → M β) : Prop :=
  ∀ (β : Type) (K : Value → GH → M β) (outs : List β), G β K = some outs → ∃ l, G _ gRet = some l ∧ (d ≠ 0 → ∃ x, l = [x]) ∧ ∀ x ∈ l, ∃ o, K x.1 x.2 = some o ∧ o ⊆ outs
theorem Nat1.here {d : Nat} (v : Value) (H : GH) : Nat1 d fun β K => K v H := fun β K outs h =>
  ⟨[(v, H)], rfl, fun _ => ⟨_, rfl⟩, fun x hx => by rw [List.mem_singleton] at hx; subst hx; exact ⟨outs, h, fun _ hy => hy⟩⟩
theorem Nat1.none {d : Nat} : Nat1 d fun β K => (Option.none : M β) := fun β K outs h => by cases h
theorem Nat1.onV {d : Nat} (x : Option Value) (H : GH) : Nat1 d fun β K => Gh.onV x fun v => K v H := by
  cases x with
  | none => exact Nat1.none
  | some v => exact Nat1.here v H
theorem Nat1.onH {d : Nat} (x : Option GH) (v : Value) : Nat1 d fun β K => Gh.onH x fun H => K v H := by
  cases x with
  | none => exact Nat1.none
  | some H => exact Nat1.here v H
theorem Nat1.onVH {d : Nat} (x : Option (Value × GH)) : Nat1 d fun β K => Gh.onVH x fun v H => K v H := by
  cases x with
  | none => exact Nat1.none
  | some x => exact Nat1.here x.1 x.2
theorem Nat1.bind (x : M (Value × GH)) : Nat1 0 fun β K => bindM x fun x => K x.1 x.2 := fun β K outs h => by
  obtain ⟨l, hl, hf⟩ := bindM_some h
  refine ⟨l, ?_, fun h => absurd rfl h, hf⟩
  rw [hl]
  exact bindM_ret l
theorem Nat1.one {d : Nat} (x : M (Value × GH)) : Nat1 d fun β K => match x with
    | some [(v, H1)] => K v H1
    | _ => Option.none := by
  intro β K outs h
  simp only at h
  split at h
  · next v H1 => exact ⟨[(v, H1)], rfl, fun _ => ⟨_, rfl⟩, fun x hx => by rw [List.mem_singleton] at hx; subst hx; exact ⟨outs, h, fun _ hy => hy⟩⟩
  · cases h
theorem Nat1.onCall (d : Nat) (call : Handle) (f : Value) (args : List Value) (H : GH) : Nat1 d fun β K => Gh.onCall d call f args H K := by
  unfold Gh.onCall
  match d with
  | 0 => exact Nat1.bind _
  | 1 =>
    intro β K outs h
    simp only at h
    split at h
    · next v H1 hc =>
      split at h
      · next hlo =>
        refine ⟨[(v, H1)], by simp only [hc, if_pos hlo, gRet, ret], fun _ => ⟨_, rfl⟩, fun x hx => ?_⟩
        rw [List.mem_singleton] at hx; subst hx; exact ⟨outs, h, fun _ hy => hy⟩
      · cases h
    · cases h
  | d + 2 =>
    intro β K outs h
    simp only at h
    split at h
    · next v H1 hc =>
      split at h
      · next hlo =>
        refine ⟨[(v, { objs := H1.objs.take (H1.n - H.n) ++ H.objs, n := H1.n, lo := min H.lo H1.lo })], by simp only [hc, if_pos hlo, gRet, ret], fun _ => ⟨_, rfl⟩, fun x hx => ?_⟩
        rw [List.mem_singleton] at hx; subst hx; exact ⟨outs, h, fun _ hy => hy⟩
      · cases h
    · cases h
theorem Nat1.onNext (d : Nat) (x : M (Value × GH)) : Nat1 d fun β K => Gh.onNext d x K := by
  unfold Gh.onNext
  match d with
  | 0 => exact Nat1.bind _
  | d + 1 => exact Nat1.one _

section
variable (P : Program)
theorem Nat1.gBuiltin (d : Nat) (b : Builtin) (tys : List TypeId) (args : List Value) (H : GH) : Nat1 d fun β K => Gh.gBuiltin P b tys args H K := by
  unfold Gh.gBuiltin
  split
  · split
    · exact Nat1.onV _ _
    · exact Nat1.onV _ _
  · exact Nat1.onV _ _
  · exact Nat1.onVH _
  · exact Nat1.onVH _
  · exact Nat1.onH _ _
  · exact Nat1.onH _ _
  · exact Nat1.onV _ _
  · exact Nat1.onV _ _
  · exact Nat1.none
theorem Nat1.gBuiltinQ (d : Nat) (tys : List TypeId) (args : List Value) (H : GH) : Nat1 d fun β K => Gh.gBuiltinQ P tys args H K := by
  unfold Gh.gBuiltinQ
  split
  · exact Nat1.onVH _
  · exact Nat1.none
theorem Nat1.box {d : Nat} (e : TypeId) (v : Value) (H : GH) : Nat1 d fun β K => match gSize P e with
    | some _ => K (.pointer (some ⟨H.n, 0, Option.none⟩)) (H.push (.row v.cells.toList e false))
    | Option.none => Option.none := by
  cases gSize P e with
  | none => exact Nat1.none
  | some _ => exact Nat1.here _ _
theorem Nat1.gStep (d : Nat) (call : Handle) (ρ : Operand → Value) (o : Oper) (H : GH) : Nat1 d fun β K => Gh.gStep P d call ρ o H K := by
  unfold Gh.gStep
  cases o.op
  case box => exact Nat1.box P _ _ _
  case alloc e =>
    show Nat1 d fun β K => Gh.onV (gZero P e) fun z => K (.pointer (some ⟨H.n, 0, Option.none⟩)) (H.push (.row z.cells.toList e false))
    cases gZero P e with
    | none => exact Nat1.none
    | some z => exact Nat1.here _ _
  case makeFunc f a b => cases f <;> first | exact Nat1.here _ _ | exact Nat1.none
  case convert src dst x =>
    show Nat1 d fun β K => if isSelf P src dst then Gh.onVH (gMark (ρ x) H) K else Gh.onV (gConvert P src dst (ρ x) H) fun v => K v H
    by_cases hm : isSelf P src dst = true
    · simp only [if_pos hm]; exact Nat1.onVH _
    · simp only [if_neg hm]; exact Nat1.onV _ _
  case mapEntry t x k =>
    show Nat1 d fun β K => if decide (3 ≤ d) then Gh.onVH (gMapEntryQ P t (ρ x) (ρ k) H) K else Gh.onVH (gMapEntry P t (ρ x) (ρ k) H) K
    by_cases hm : decide (3 ≤ d) = true
    · simp only [if_pos hm]; exact Nat1.onVH _
    · simp only [if_neg hm]; exact Nat1.onVH _
  case makeMap t r => cases r <;> first | exact Nat1.here _ _ | exact Nat1.none
  case call c =>
    show Nat1 d fun β K => match c.callee with
      | .value f => Gh.onCall d call (ρ f) (c.args.toList.map ρ) H K
      | .builtin b => if decide (3 ≤ d) && maskHit (d - 3) c then Gh.gBuiltinQ P c.argTypes.toList (c.args.toList.map ρ) H K else Gh.gBuiltin P b c.argTypes.toList (c.args.toList.map ρ) H K
      | _ => Option.none
    cases c.callee with
    | value f => exact Nat1.onCall _ _ _ _ _
    | builtin b =>
      show Nat1 d fun β K => if decide (3 ≤ d) && maskHit (d - 3) c then Gh.gBuiltinQ P c.argTypes.toList (c.args.toList.map ρ) H K else Gh.gBuiltin P b c.argTypes.toList (c.args.toList.map ρ) H K
      by_cases hm : (decide (3 ≤ d) && maskHit (d - 3) c) = true
      · simp only [if_pos hm]; exact Nat1.gBuiltinQ P _ _ _ _
      · simp only [if_neg hm]; exact Nat1.gBuiltin P _ _ _ _ _
    | invoke r s => exact Nat1.none
  all_goals first
    | exact Nat1.onV _ _
    | exact Nat1.onVH _
    | exact Nat1.onH _ _
    | exact Nat1.here _ _
    | exact Nat1.onNext _ _
    | exact Nat1.none
end
end Go.Gh
/- The ghost machine: one operation that is no call goes on together with the model's. -/
namespace Go.Gh
open Go.RowKit
set_option linter.unusedVariables false
set_option linter.unusedSimpArgs false
section
variable {P : Program} {base : Nat} {m : PM} {H : GH} {w : World}

/-- What an operation comes to: one of the outcomes. -/
def NextOk (P : Program) (base : Nat) (m : PM) (H : GH) (w : World) (s : Sem Next) (l : List (Value × GH)) : Prop :=
  ∃ x ∈ l, ∃ v' w' m', (s.run P w = .ok (.value v') w' ∨ (s.run P w = .ok .skip w' ∧ v' = undef)) ∧ VR m' x.1 v' ∧ Rel P base m' x.2 w' ∧ Go1 base m m' H x.2 w w'

theorem NextOk.pure {s : Sem Value} {v v' : Value} (hs : s.run P w = .ok v' w) (hv : VR m v v') (hR : Rel P base m H w) : NextOk P base m H w (do Pure.pure (Next.value (← s))) [(v, H)] :=
  ⟨_, List.mem_singleton.2 rfl, v', w, m, .inl (by simp [hs]), hv, hR, .refl _ _ _ _⟩
theorem NextOk.ofV {s : Sem Value} {v : Value} {H' : GH} (h : StepV P base m H w s v H') : NextOk P base m H w (do Pure.pure (Next.value (← s))) [(v, H')] := by
  obtain ⟨v', w', m', h1, h2, h3, h4⟩ := h
  exact ⟨_, List.mem_singleton.2 rfl, v', w', m', .inl (by simp [h1]), h2, h3, h4⟩
theorem NextOk.ofU {s : Sem Unit} {H' : GH} (h : StepU P base m H w s H') : NextOk P base m H w (do s; Pure.pure Next.skip) [(undef, H')] := by
  obtain ⟨w', m', h1, h3, h4⟩ := h
  exact ⟨_, List.mem_singleton.2 rfl, undef, w', m', .inr ⟨by simp [h1], rfl⟩, VR.undef, h3, h4⟩
theorem NextOk.ofO {s : Sem Value} {l : List (Value × GH)} (h : StepO P base m H w s l) : NextOk P base m H w (do Pure.pure (Next.value (← s))) l := by
  obtain ⟨x, hx, v', w', m', h1, h2, h3, h4⟩ := h
  exact ⟨x, hx, v', w', m', .inl (by simp [h1]), h2, h3, h4⟩

theorem onV_ret {x : Option Value} {l : List (Value × GH)} (h : (onV x fun v => gRet v H) = some l) : ∃ v, x = some v ∧ l = [(v, H)] := by
  cases x with
  | none => cases h
  | some v => injection h with h; exact ⟨v, rfl, h.symm⟩
theorem onVH_ret {x : Option (Value × GH)} {l : List (Value × GH)} (h : onVH x gRet = some l) : ∃ v H', x = some (v, H') ∧ l = [(v, H')] := by
  cases x with
  | none => cases h
  | some v => injection h with h; exact ⟨v.1, v.2, rfl, h.symm⟩
theorem onH_ret {x : Option GH} {v : Value} {l : List (Value × GH)} (h : (onH x fun H => gRet v H) = some l) : ∃ H', x = some H' ∧ l = [(v, H')] := by
  cases x with
  | none => cases h
  | some v => injection h with h; exact ⟨v, rfl, h.symm⟩
theorem onNext_ret {d : Nat} {x : M (Value × GH)} {l : List (Value × GH)} (h : onNext d x gRet = some l) : x = some l := by
  unfold onNext at h
  split at h
  · obtain ⟨l', hl, hf⟩ := bindM_some h
    rw [hl] at h ⊢
    have e : bindM (some l') (fun x => gRet x.1 x.2) = some l' := bindM_ret l'
    rw [e] at h
    exact h
  · split at h
    · injection h with h; rw [← h]
    · cases h
theorem filter_closed {x : Option Value} {v : Value} (h : x.filter closed = some v) : x = some v ∧ closed v = true := by
  cases x with
  | none => cases h
  | some u =>
    simp only [Option.filter] at h
    split at h
    · next hc => injection h with h; subst h; exact ⟨rfl, hc⟩
    · cases h
theorem mapA_VRs {ρ ρ' : Operand → Value} {xs : Array Operand} (h : ∀ x ∈ xs.toList, VR m (ρ x) (ρ' x)) : VRs m (mapA ρ xs).toList (xs.map ρ').toList := by
  simp only [mapA, Array.toList_map]
  exact VRs.map h
theorem oMinMax_VR {mx : Bool} {xs ys : List Value} {r : Value} (h : oMinMax P mx xs = some r) (hv : VRs m xs ys) (tys : Array TypeId) (ty : TypeId) :
    (if mx then Builtin.max_ tys ty ys.toArray else Builtin.min_ tys ty ys.toArray).run P w = .ok r w := by
  unfold oMinMax at h
  split at h
  · next hc =>
    have e := VRs.eq_of (p := closed) (fun h hc => h.closed_eq hc) hv hc
    subst e
    have := quick_run _ _ h w
    cases mx <;> exact this
  · cases h
theorem VRs.list1 {x : Value} {ys : List Value} (h : VRs m [x] ys) : ∃ y, ys = [y] ∧ VR m x y := by
  match ys, h with
  | [y], h => exact ⟨y, rfl, h.head⟩
  | [], h => exact absurd h.1 (by simp)
  | _ :: _ :: _, h => exact absurd h.1 (by simp)
theorem VRs.list2 {x x2 : Value} {ys : List Value} (h : VRs m [x, x2] ys) : ∃ y y2, ys = [y, y2] ∧ VR m x y ∧ VR m x2 y2 := by
  match ys, h with
  | [y, y2], h => exact ⟨y, y2, rfl, h.head, h.tail.head⟩
  | [], h => exact absurd h.1 (by simp)
  | [_], h => exact absurd h.1 (by simp)
  | _ :: _ :: _ :: _, h => exact absurd h.1 (by simp)
theorem list_toArray {α : Type} {xs : Array α} {l : List α} (h : xs.toList = l) : xs = l.toArray := by rw [← h]

theorem gBuiltin_run {b : Builtin} {tys : Array TypeId} {ty : TypeId} {cs : Array Bool} {xs : List Value} {ys : Array Value} {l : List (Value × GH)} (h : gBuiltin P b tys.toList xs H gRet = some l)
    (hv : VRs m xs ys.toList) (hR : Rel P base m H w) (hb : base ≤ w.heap.size) : NextOk P base m H w (builtin b tys ty cs ys) l := by
  unfold gBuiltin at h
  split at h
  · next t x ht =>
    have et := list_toArray ht
    subst et
    obtain ⟨y, hy, hx⟩ := hv.list1
    have ey := list_toArray hy
    subst ey
    split at h
    · next kt et hu =>
      obtain ⟨v, hv', rfl⟩ := onV_ret h
      obtain ⟨⟨r, es, clock⟩, hg, rfl⟩ := Option.map_eq_some_iff.1 hv'
      exact NextOk.pure (gMapLen_run hu hg hx hR) (.int _ _) hR
    · obtain ⟨v, hv', rfl⟩ := onV_ret h
      exact NextOk.pure (oLen_VR hv' hx ty) (by unfold oLen at hv'; split at hv' <;> first | (injection hv' with hv'; subst hv'; exact .int _ _) | cases hv') hR
  · next t x ht =>
    have et := list_toArray ht
    subst et
    obtain ⟨y, hy, hx⟩ := hv.list1
    have ey := list_toArray hy
    subst ey
    obtain ⟨v, hv', rfl⟩ := onV_ret h
    refine NextOk.pure (oCap_VR hv' hx ty) ?_ hR
    unfold oCap at hv'
    split at hv'
    · split at hv'
      · injection hv' with hv'; subst hv'; exact .int _ _
      · cases hv'
    · injection hv' with hv'; subst hv'; exact .int _ _
    · cases hv'
  · next st xt s x ht =>
    have et := list_toArray ht
    subst et
    obtain ⟨y, y2, hy, hx, hx2⟩ := hv.list2
    have ey := list_toArray hy
    subst ey
    obtain ⟨v, H', hv', rfl⟩ := onVH_ret h
    exact NextOk.ofV (gAppend_step hv' hx hx2 hR hb)
  · next dt rest d s ht =>
    have et : tys[0]? = some dt := by rw [← Array.getElem?_toList, ht]; rfl
    obtain ⟨y, y2, hy, hx, hx2⟩ := hv.list2
    have ey := list_toArray hy
    subst ey
    obtain ⟨v, H', hv', rfl⟩ := onVH_ret h
    exact NextOk.ofV (gCopy_step (s0 := ty) hv' hx hx2 hR tys et)
  · next t x ht =>
    have et := list_toArray ht
    subst et
    obtain ⟨y, hy, hx⟩ := hv.list1
    have ey := list_toArray hy
    subst ey
    obtain ⟨H', hv', rfl⟩ := onH_ret h
    exact NextOk.ofV (gClear_step hv' hx hR)
  · next t rest x k ht =>
    have et : tys[0]? = some t := by rw [← Array.getElem?_toList, ht]; rfl
    obtain ⟨y, y2, hy, hx, hx2⟩ := hv.list2
    have ey := list_toArray hy
    subst ey
    obtain ⟨H', hv', rfl⟩ := onH_ret h
    exact NextOk.ofV (gDelete_step hv' hx hx2 hR tys et)
  · obtain ⟨v, hv', rfl⟩ := onV_ret h
    obtain ⟨h1, h2⟩ := filter_closed hv'
    have := oMinMax_VR (w := w) h1 hv tys ty
    exact NextOk.pure (by simpa using this) (closed_VR h2) hR
  · obtain ⟨v, hv', rfl⟩ := onV_ret h
    obtain ⟨h1, h2⟩ := filter_closed hv'
    have := oMinMax_VR (w := w) h1 hv tys ty
    exact NextOk.pure (by simpa using this) (closed_VR h2) hR
  · cases h
theorem Go1.requiet {m' : PM} {H1 : GH} {w' : World} (hR : Rel P base m H w) (h : Go1 base m m' { H with lo := H.n } H1 w w') (hl : H1.lo = H.n) : Go1 base m m' H { H1 with lo := H.lo } w w' where
  le := h.le
  newId := h.newId
  fresh b p hb h0 := by
    rcases h.fresh b p hb h0 with hs | ⟨c, q, hc, hq, hlo⟩
    · exact .inl hs
    · have := hR.id_lt hc; omega
  frame B hB hf := h.frame B hB fun b p hb hp => by have := hR.id_lt hb; omega
  below := h.below
  keep := h.keep
  n := h.n
  lo := Nat.le_refl _
  same b hb _ := h.same b hb (by omega)
theorem gAppendQ_step {st xt ty : TypeId} {s s' x x' v : Value} {H' : GH} (h : gAppendQ P st xt s x H = some (v, H')) (hs : VR m s s') (hx : VR m x x') (hR : Rel P base m H w) (hb : base ≤ w.heap.size) :
    StepV P base m H w (Builtin.append_ #[st, xt] ty #[s', x']) v H' := by
  unfold gAppendQ at h
  split at h
  · next v1 H1 h1 =>
    split at h
    · next hl =>
      simp only [Option.some.injEq, Prod.mk.injEq] at h
      obtain ⟨rfl, rfl⟩ := h
      obtain ⟨v', w', m', h2, h3, h4, h5⟩ := gAppend_step (ty := ty) h1 hs hx (hR.lo H.n) hb
      exact ⟨v', w', m', h2, h3, h4.lo _, Go1.requiet hR h5 hl⟩
    · cases h
  · cases h
theorem gBuiltinQ_run {tys : Array TypeId} {ty : TypeId} {cs : Array Bool} {xs : List Value} {ys : Array Value} {l : List (Value × GH)} (h : gBuiltinQ P tys.toList xs H gRet = some l)
    (hv : VRs m xs ys.toList) (hR : Rel P base m H w) (hb : base ≤ w.heap.size) : NextOk P base m H w (builtin .append tys ty cs ys) l := by
  unfold gBuiltinQ at h
  split at h
  · next st xt s x ht =>
    have et := list_toArray ht
    subst et
    obtain ⟨y, y2, hy, hx, hx2⟩ := hv.list2
    have ey := list_toArray hy
    subst ey
    obtain ⟨v, H', hv', rfl⟩ := onVH_ret h
    exact NextOk.ofV (gAppendQ_step hv' hx hx2 hR hb)
  · cases h
end
end Go.Gh
/- The ghost machine: one operation that calls no function goes on together with the model's. -/
namespace Go.Gh
open Go.RowKit
set_option linter.unusedVariables false
set_option linter.unusedSimpArgs false
section
variable {P : Program} {base : Nat} {m : PM} {H : GH} {w : World}

/-- Is the operation a call of a function? -/
def isCall (o : Oper) : Bool := match o.op with
  | .call c => match c.callee with | .value _ => true | _ => false
  | _ => false

theorem opnd_of {ρ ρ' : Operand → Value} {xs : Array Operand} (h : ∀ y ∈ xs.toList, VR m (ρ y) (ρ' y)) {y : Operand} (hy : y ∈ xs) : VR m (ρ y) (ρ' y) := h y (Array.mem_toList_iff.2 hy)

theorem gStep_run {d : Nat} {call : Handle} {ρ ρ' : Operand → Value} {o : Oper} {l : List (Value × GH)} (hnc : isCall o = false) (h : gStep P d call ρ o H gRet = some l)
    (hρ : ∀ y ∈ o.op.operands.toList, VR m (ρ y) (ρ' y)) (hR : Rel P base m H w) (hb : base ≤ w.heap.size) : NextOk P base m H w (execOp ρ' o) l := by
  unfold gStep at h
  unfold execOp
  split at h
  case h_1 x hop =>
    injection h with h; subst h
    rw [hop] at hρ ⊢
    exact ⟨_, List.mem_singleton.2 rfl, ρ' x, w, m, .inl rfl, hρ x (by simp [Op.operands]), hR, .refl _ _ _ _⟩
  case h_2 x hop =>
    injection h with h; subst h
    rw [hop] at hρ ⊢
    exact ⟨_, List.mem_singleton.2 rfl, ρ' x, w, m, .inl rfl, hρ x (by simp [Op.operands]), hR, .refl _ _ _ _⟩
  case h_3 c a b hop =>
    rw [hop] at hρ ⊢
    obtain ⟨v, hv, rfl⟩ := onV_ret h
    obtain ⟨v', h1, h2⟩ := oPick_VR (w := w) hv (hρ c (by simp [Op.operands])) (hρ a (by simp [Op.operands])) (hρ b (by simp [Op.operands]))
    refine ⟨_, List.mem_singleton.2 rfl, v', w, m, .inl ?_, h2, hR, .refl _ _ _ _⟩
    simp only [Sem.run_bind] at h1 ⊢
    revert h1
    cases (asBool (ρ' c)).run P w with
    | ok t w1 => intro h1; simp at h1 ⊢; exact h1
    | halt e w1 => intro h1; simp at h1
  case h_4 x hop =>
    rw [hop] at hρ ⊢
    obtain ⟨v, hv, rfl⟩ := onV_ret h
    have hx := hρ x (by simp [Op.operands])
    obtain ⟨rfl, h1, h2, h3, h4⟩ := oNilCheck_VR hv hx
    refine ⟨_, List.mem_singleton.2 rfl, ρ' x, w, m, .inl ?_, hx, hR, .refl _ _ _ _⟩
    simp only
    rfl
  case h_5 f first captured hop =>
    injection h with h; subst h
    rw [hop] at hρ ⊢
    have h1 := mapA_VRs (m := m) (ρ := ρ) (ρ' := ρ') (xs := first) fun x hx => hρ x (by simp [Op.operands]; left; exact Array.mem_toList_iff.1 hx)
    have h2 := mapA_VRs (m := m) (ρ := ρ) (ρ' := ρ') (xs := captured) fun x hx => hρ x (by simp [Op.operands]; right; exact Array.mem_toList_iff.1 hx)
    exact ⟨_, List.mem_singleton.2 rfl, _, w, m, .inl rfl, .func f _ _ _ _ h1.size h1.arr h2.size h2.arr, hR, .refl _ _ _ _⟩
  case h_6 t i hop =>
    rw [hop] at hρ ⊢
    obtain ⟨v, hv, rfl⟩ := onV_ret h
    obtain ⟨v', h1, h2⟩ := oExtract_VR (P := P) (w := w) hv (hρ t (by simp [Op.operands]))
    exact NextOk.pure h1 h2 hR
  case h_7 t x hop =>
    rw [hop] at hρ ⊢
    obtain ⟨v, hv, rfl⟩ := onV_ret h
    obtain ⟨v', h1, h2⟩ := oIface_VR (P := P) (w := w) hv (hρ x (by simp [Op.operands]))
    exact NextOk.pure h1 h2 hR
  case h_8 s x f hop =>
    rw [hop] at hρ ⊢
    obtain ⟨v, hv, rfl⟩ := onV_ret h
    obtain ⟨v', h1, h2⟩ := oFieldAddr_VR (w := w) hv (hρ x (by simp [Op.operands]))
    exact NextOk.pure h1 h2 hR
  case h_9 t x f hop =>
    rw [hop] at hρ ⊢
    obtain ⟨v, hv, rfl⟩ := onV_ret h
    obtain ⟨v', h1, h2⟩ := oField_VR (w := w) hv (hρ x (by simp [Op.operands]))
    exact NextOk.pure h1 h2 hR
  case h_10 t x i hop =>
    rw [hop] at hρ ⊢
    obtain ⟨v, hv, rfl⟩ := onV_ret h
    obtain ⟨v', h1, h2⟩ := oIndexAddr_VR (w := w) hv (hρ x (by simp [Op.operands])) (hρ i (by simp [Op.operands]))
    exact NextOk.pure h1 h2 hR
  case h_11 t x i hop =>
    rw [hop] at hρ ⊢
    obtain ⟨v, hv, rfl⟩ := onV_ret h
    obtain ⟨hv, hc⟩ := filter_closed hv
    obtain ⟨v', h1, h2⟩ := oIndex_VR (w := w) hv (hρ x (by simp [Op.operands])) (hρ i (by simp [Op.operands])) hc
    exact NextOk.pure h1 h2 hR
  case h_12 t x lo hi mx hop =>
    rw [hop] at hρ ⊢
    obtain ⟨v, hv, rfl⟩ := onV_ret h
    obtain ⟨v', h1, h2⟩ := oSlice_VR (w := w) hv (hρ x (by simp [Op.operands])) (OptVR.map (ρ' := ρ') fun y hy => hρ y (by simp [Op.operands, hy])) (OptVR.map (ρ' := ρ') fun y hy => hρ y (by simp [Op.operands, hy]))
      (OptVR.map (ρ' := ρ') fun y hy => hρ y (by simp [Op.operands, hy]))
    exact NextOk.pure h1 h2 hR
  case h_13 t parts hop =>
    rw [hop] at hρ ⊢
    obtain ⟨v, hv, rfl⟩ := onV_ret h
    obtain ⟨v', h1, h2⟩ := oBuild_VR (w := w) (ρ' := ρ') hv fun x hx => hρ x.2 (by simp only [Op.operands]; exact List.mem_map.2 ⟨x, hx, rfl⟩)
    exact NextOk.pure h1 h2 hR
  case h_14 op t x y ty hop =>
    rw [hop] at hρ ⊢
    obtain ⟨v, hv, rfl⟩ := onV_ret h
    obtain ⟨hv, hc⟩ := filter_closed hv
    have h1 := oBin_VR (w := w) hv (hρ x (by simp [Op.operands])) (hρ y (by simp [Op.operands])) hc x y
    exact NextOk.pure h1 (closed_VR hc) hR
  case h_15 op ty x hop =>
    rw [hop] at hρ ⊢
    obtain ⟨v, hv, rfl⟩ := onV_ret h
    obtain ⟨hv, hc⟩ := filter_closed hv
    exact NextOk.pure (oUn_VR hv (hρ x (by simp [Op.operands]))) (closed_VR hc) hR
  case h_16 src dst x hop =>
    rw [hop] at hρ ⊢
    split at h
    · next hs =>
      obtain ⟨v, H', hv, rfl⟩ := onVH_ret h
      exact NextOk.ofV (gMark_step hs hv (hρ x (by simp [Op.operands])) hR)
    obtain ⟨v, hv, rfl⟩ := onV_ret h
    obtain ⟨h1, hc⟩ := gConvert_VR hv (hρ x (by simp [Op.operands])) hR
    exact NextOk.pure h1 (closed_VR hc) hR
  case h_17 e hop =>
    rw [hop] at hρ ⊢
    cases hz : gZero P e with
    | none => rw [hz] at h; cases h
    | some z =>
      rw [hz] at h
      injection h with h; subst h
      exact NextOk.ofV (gAlloc_step hz hR hb)
  case h_18 e x hop =>
    rw [hop] at hρ ⊢
    split at h
    · next s hs =>
      injection h with h; subst h
      exact NextOk.ofV (gBox_step hs (hρ x (by simp [Op.operands])) hR hb)
    · cases h
  case h_19 t len parts hop =>
    rw [hop] at hρ ⊢
    obtain ⟨v, H', hv, rfl⟩ := onVH_ret h
    exact NextOk.ofV (gBuildSlice_step (ρ' := ρ') hv (fun x hx => hρ x.2 (by simp only [Op.operands]; exact List.mem_map.2 ⟨x, hx, rfl⟩)) hR hb)
  case h_20 t a hop =>
    rw [hop] at hρ ⊢
    obtain ⟨v, hv, rfl⟩ := onV_ret h
    obtain ⟨v', h1, h2⟩ := gLoad_VR hv (hρ a (by simp [Op.operands])) hR
    exact NextOk.pure h1 h2 hR
  case h_21 t a x hop =>
    rw [hop] at hρ ⊢
    obtain ⟨H', hv, rfl⟩ := onH_ret h
    obtain ⟨w', h1, h2, h3⟩ := gStore_VR hv (hρ a (by simp [Op.operands])) (hρ x (by simp [Op.operands])) hR
    exact NextOk.ofU ⟨w', m, h1, h2, h3⟩
  case h_22 t l c hop =>
    rw [hop] at hρ ⊢
    obtain ⟨v, H', hv, rfl⟩ := onVH_ret h
    exact NextOk.ofV (gMakeSlice_step hv (hρ l (by simp [Op.operands])) (hρ c (by simp [Op.operands])) hR hb)
  case h_23 t hop =>
    rw [hop] at hρ ⊢
    injection h with h; subst h
    exact NextOk.ofV (gMakeMap_step hR hb t)
  case h_24 t x k ok hop =>
    rw [hop] at hρ ⊢
    obtain ⟨v, hv, rfl⟩ := onV_ret h
    obtain ⟨v', h1, h2⟩ := gLookup_VR hv (hρ x (by simp [Op.operands])) (hρ k (by simp [Op.operands])) hR
    exact NextOk.pure h1 h2 hR
  case h_25 t x k v hop =>
    rw [hop] at hρ ⊢
    obtain ⟨H', hv, rfl⟩ := onH_ret h
    exact NextOk.ofU (gMapUpdate_step hv (hρ x (by simp [Op.operands])) (hρ k (by simp [Op.operands])) (hρ v (by simp [Op.operands])) hR)
  case h_26 t x k v hop =>
    rw [hop] at hρ ⊢
    obtain ⟨H', hv, rfl⟩ := onH_ret h
    exact NextOk.ofU (gMapUpdate_step hv (hρ x (by simp [Op.operands])) (hρ k (by simp [Op.operands])) (hρ v (by simp [Op.operands])) hR)
  case h_27 t x k hop =>
    rw [hop] at hρ ⊢
    have h : onVH (gMapEntry P t (ρ x) (ρ k) H) gRet = some l := by
      split at h
      · obtain ⟨v, H', hv, rfl⟩ := onVH_ret h
        rw [(gMapEntryQ_some hv).1]; rfl
      · exact h
    obtain ⟨v, H', hv, rfl⟩ := onVH_ret h
    exact NextOk.ofV (gMapEntry_step hv (hρ x (by simp [Op.operands])) (hρ k (by simp [Op.operands])) hR)
  case h_28 t x k v hop =>
    rw [hop] at hρ ⊢
    obtain ⟨H', hv, rfl⟩ := onH_ret h
    exact NextOk.ofU (gEntryStore_step hv (hρ x (by simp [Op.operands])) (hρ k (by simp [Op.operands])) (hρ v (by simp [Op.operands])) hR)
  case h_29 t x hop =>
    rw [hop] at hρ ⊢
    obtain ⟨v, H', hv, rfl⟩ := onVH_ret h
    exact NextOk.ofV (gRange_step hv (hρ x (by simp [Op.operands])) hR hb)
  case h_30 it s hop =>
    rw [hop] at hρ ⊢
    exact NextOk.ofO (gNext_step (onNext_ret h) (hρ it (by simp [Op.operands])) hR)
  case h_31 it hop =>
    rw [hop] at hρ ⊢
    obtain ⟨v, hv, rfl⟩ := onV_ret h
    obtain ⟨v', h1, h2⟩ := gEntry_VR hv (hρ it (by simp [Op.operands])) hR
    exact NextOk.pure h1 h2 hR
  case h_32 c hop =>
    rw [hop] at hρ ⊢
    split at h
    · next f hf => rw [isCall, hop] at hnc; simp [hf] at hnc
    · next b hf =>
      have hargs : VRs m (c.args.toList.map ρ) (c.args.map ρ').toList := by
        rw [Array.toList_map]
        exact VRs.map fun x hx => hρ x (by simp [Op.operands, Call.operands, hf]; exact Array.mem_toList_iff.1 hx)
      split at h
      · next hm =>
        have hb' : b = .append := by
          simp only [Bool.and_eq_true] at hm
          have h2 := hm.2
          unfold maskHit at h2
          rw [hf] at h2
          cases b <;> first | rfl | (simp at h2)
        subst hb'
        have := gBuiltinQ_run (ty := o.type) (cs := c.args.map fun | .const _ => true | _ => false) h hargs hR hb
        simp only [resolve, hf]
        exact this
      · have := gBuiltin_run (ty := o.type) (cs := c.args.map fun | .const _ => true | _ => false) h hargs hR hb
        simp only [resolve, hf]
        exact this
    · cases h
  case h_33 => cases h
end
end Go.Gh
/- The ghost machine: one operation, walked. -/
namespace Go.Gh
open Go.RowKit
set_option linter.unusedVariables false
set_option linter.unusedSimpArgs false

/-- The fences within which it is walked: none; a round's. -/
def FenceOk (F : Fence) : Prop := F = Fence.wide ∨ ∃ l, F = Fence.wide.inRound l
theorem FenceOk.fn {F : Fence} (h : FenceOk F) (f : FuncId) : F.fn f := by
  rcases h with rfl | ⟨l, rfl⟩ <;> trivial
theorem FenceOk.depth {F : Fence} (h : FenceOk F) : F.depth = none := by
  rcases h with rfl | ⟨l, rfl⟩ <;> rfl
theorem FenceOk.calls {F : Fence} (h : FenceOk F) {n : Nat} {P : Program} {f : FuncId} {args : Array Value} {w : World} {R : Ending → World → Prop} (k : CallsIn Fence.wide n P f args w R) : CallsIn F n P f args w R := by
  rcases h with rfl | ⟨l, rfl⟩ <;> exact k
theorem FenceOk.rounds {F : Fence} (h : FenceOk F) {n : Nat} {P : Program} {l : Nat} {f : FuncId} {tmps : Array Value} {as bd : Code} {w : World} {R : Ending → World → Prop} (k : RoundIn Fence.wide n P l f tmps as bd w R) : RoundIn F n P l f tmps as bd w R := by
  rcases h with rfl | ⟨l, rfl⟩ <;> exact k

/-- It returns, and so. -/
def Ret (R : Value → World → Prop) : Ending → World → Prop
  | .returned v, w => R v w
  | _, _ => False

/-- What a call of a function value does. -/
def Enters (P : Program) (fv : Value) (args : List Value) (w : World) (R : Value → World → Prop) : Prop :=
  (∃ f fn fs cs, fv = .func (.func f) fs cs ∧ P.funcs[f]? = some fn ∧ fn.body.isSome = true ∧ fn.name ≠ "runtime.NumGoroutine" ∧ ∀ n, CallsIn Fence.wide n P f (fs ++ args.toArray ++ cs) w (Ret R)) ∨
  (∃ L f tmps as bd, fv = .func (.yield L) #[] #[] ∧ (Instr.yield L args.toArray).run P w = .ok (.round L f tmps as bd) w ∧ ∀ n, RoundIn Fence.wide n P L f tmps as bd w (Ret R))

theorem Enters.mono {P : Program} {fv : Value} {args : List Value} {w : World} {R R' : Value → World → Prop} (h : Enters P fv args w R) (hr : ∀ v w', R v w' → R' v w') : Enters P fv args w R' := by
  have hm : ∀ e w', Ret R e w' → Ret R' e w' := fun e w' he => by cases e <;> first | exact hr _ _ he | exact he
  rcases h with ⟨f, fn, fs, cs, h1, h2, h3, h4, h5⟩ | ⟨L, f, tmps, as, bd, h1, h2, h3⟩
  · exact .inl ⟨f, fn, fs, cs, h1, h2, h3, h4, fun n => (h5 n).mono hm⟩
  · exact .inr ⟨L, f, tmps, as, bd, h1, h2, fun n => (h3 n).mono hm⟩

/-- A handle may be trusted. -/
def HOk (P : Program) (call : Handle) : Prop :=
  ∀ (fv : Value) (args : List Value) (H : GH) (outs : List (Value × GH)), call fv args H = some outs →
    ∀ (base : Nat) (m : PM) (w : World) (fv' : Value) (args' : List Value), VR m fv fv' → VRs m args args' → Rel P base m H w → base ≤ w.heap.size →
      Enters P fv' args' w fun v' w' => ∃ x ∈ outs, ∃ m', VR m' x.1 v' ∧ Rel P base m' x.2 w' ∧ Go1 base m m' H x.2 w w'

section
variable {P : Program} {base : Nat} {m : PM} {H : GH} {w : World}

theorem Go1.lowered {m' : PM} {H' : GH} {w' : World} {l : Nat} (h : Go1 base m m' { H with lo := l } H' w w') : Go1 base m m' H { H' with lo := min H.lo H'.lo } w w' where
  le := h.le
  newId := h.newId
  fresh b p hb h0 := by
    rcases h.fresh b p hb h0 with hs | ⟨c, q, h1, h2, h3⟩
    · exact .inl hs
    · exact .inr ⟨c, q, h1, h2, by show min H.lo H'.lo ≤ c; omega⟩
  frame B hB hf := h.frame B hB fun b p hb hp => by
    have : b < min H.lo H'.lo := hf b p hb hp
    omega
  below := h.below
  keep := h.keep
  n := h.n
  lo := by show min H.lo H'.lo ≤ H.lo; omega
  same b hb hl := h.same b hb (by have : b < min H.lo H'.lo := hl; omega)

theorem Rel.regot (h : Rel P base m H w) {H' : GH} (hn : H'.n = H.n) (hg : ∀ b, b < H.n → H'.get b = H.get b) : Rel P base m H' w :=
  ⟨fun b p hb => by rw [hg b (h.id_lt hb)]; exact h.obj b p hb, fun b c p q hne hb hc => by rw [hg b (h.id_lt hb), hg c (h.id_lt hc)]; exact h.inj b c p q hne hb hc, h.glob⟩
theorem Go1.regot {m' : PM} {H' H2 : GH} {w' : World} (h : Go1 base m m' H H' w w') (hn : H2.n = H'.n) (hl : H2.lo = H'.lo) (hg : ∀ b, b < H'.n → H2.get b = H'.get b) : Go1 base m m' H H2 w w' :=
  ⟨h.le, h.newId, by rw [hl]; exact h.fresh, by rw [hl]; exact h.frame, h.below, h.keep, by rw [hn]; exact h.n, by rw [hl]; exact h.lo, fun b hb hlo => by rw [hg b (Nat.lt_of_lt_of_le hb h.n)]; exact h.same b hb (hl ▸ hlo)⟩

/-- A call as an operation makes it. -/
theorem onCall_enters {call : Handle} (hc : HOk P call) {d : Nat} {f f' : Value} {args args' : List Value} {l : List (Value × GH)} (h : onCall d call f args H gRet = some l)
    (hf : VR m f f') (ha : VRs m args args') (hR : Rel P base m H w) (hb : base ≤ w.heap.size) :
    Enters P f' args' w fun v' w' => ∃ x ∈ l, ∃ m', VR m' x.1 v' ∧ Rel P base m' x.2 w' ∧ Go1 base m m' H x.2 w w' := by
  unfold onCall at h
  split at h
  · obtain ⟨l1, hl, _⟩ := bindM_some h
    rw [hl] at h
    have e : bindM (some l1) (fun x => gRet x.1 x.2) = some l1 := bindM_ret l1
    rw [e] at h
    injection h with h
    subst h
    obtain ⟨l', hl', hm⟩ := dd_some hl
    exact (hc f args H l' hl' base m w f' args' hf ha hR hb).mono fun v' w' ⟨x, hx, r⟩ => ⟨x, (hm x).2 hx, r⟩
  · split at h
    · next v H1 hl =>
      split at h
      · injection h with h
        subst h
        exact hc f args H _ hl base m w f' args' hf ha hR hb
      · cases h
    · cases h
  · split at h
    · next v H1 hl =>
      split at h
      · next hlo =>
        injection h with h
        subst h
        refine (hc f args _ _ hl base m w f' args' hf ha (hR.lo H.n) hb).mono fun v' w' ⟨x, hx, m', h1, h2, h3⟩ => ?_
        rw [List.mem_singleton] at hx
        subst hx
        obtain ⟨hl1, hl2, hl3⟩ := hlo
        have hget : ∀ b, b < H1.n → GH.get { objs := H1.objs.take (H1.n - H.n) ++ H.objs, n := H1.n, lo := min H.lo H1.lo } b = H1.get b := by
          intro b hb
          rcases Nat.lt_or_ge b H.n with hlt | hge
          · have e := h3.same b hlt (by show b < H1.lo; omega)
            rw [e]
            unfold GH.get
            simp only
            rw [if_pos hb, if_pos hlt, List.getElem?_append_right (by rw [hl3]; omega), hl3]
            congr 1
            omega
          · unfold GH.get
            simp only
            rw [if_pos hb, if_pos hb, List.getElem?_append_left (by rw [hl3]; omega), List.getElem?_take_of_lt (by omega)]
        exact ⟨_, List.mem_singleton.2 rfl, m', h1, Rel.regot (H := H1) h2 rfl hget, Go1.regot (H' := { H1 with lo := min H.lo H1.lo }) h3.lowered rfl rfl hget⟩
      · cases h
    · cases h

theorem isCall_inv {o : Oper} (h : isCall o = true) : ∃ c f, o.op = .call c ∧ c.callee = .value f := by
  unfold isCall at h
  split at h
  · next c hc =>
    split at h
    · next f hf => exact ⟨c, f, hc, hf⟩
    · cases h
  · cases h

theorem op_wpIn {F : Fence} (hF : FenceOk F) {call : Handle} (hc : HOk P call) {n d : Nat} {ρ : Operand → Value} {o : Oper} {l : List (Value × GH)} {a : Act} {K : Act → World → Prop} {Q : Exit → Act → World → Prop}
    (h : gStep P d call ρ o H gRet = some l) (hρ : ∀ y ∈ o.op.operands.toList, VR m (ρ y) (a.eval y)) (hR : Rel P base m H w) (hb : base ≤ w.heap.size)
    (hK : ∀ x ∈ l, ∀ v' w' m', VR m' x.1 v' → Rel P base m' x.2 w' → Go1 base m m' H x.2 w w' → K (a.put o.dst v') w') : o.wpIn F n P a w K Q := by
  have hnd : ∀ c, o.op ≠ .defer c := fun c e => by unfold gStep at h; rw [e] at h; cases h
  have hsem : o.semAt F.round a.eval = execOp a.eval o := by
    cases F.round with
    | none => exact Oper.semAt_none ..
    | some l => exact Oper.semAt_some l _ o hnd
  refine ⟨fun f _ => hF.fn f, ?_⟩
  rw [hsem]
  cases hcall : isCall o with
  | false =>
    obtain ⟨x, hx, v', w', m', hrun, h1, h2, h3⟩ := gStep_run hcall h hρ hR hb
    rcases hrun with hrun | ⟨hrun, rfl⟩
    · rw [hrun]; exact hK x hx v' w' m' h1 h2 h3
    · rw [hrun]; exact hK x hx _ w' m' h1 h2 h3
  | true =>
    obtain ⟨c, f, hop, hcl⟩ := isCall_inv hcall
    unfold gStep at h
    rw [hop] at h hρ
    simp only [hcl] at h
    have hargs : VRs m (c.args.toList.map ρ) (c.args.map a.eval).toList := by
      rw [Array.toList_map]
      exact VRs.map fun x hx => hρ x (by simp [Op.operands, Call.operands, hcl]; right; exact Array.mem_toList_iff.1 hx)
    have hent := onCall_enters hc h (hρ f (by simp [Op.operands, Call.operands, hcl])) hargs hR hb
    have hdep : F.depth.isSome = true → 1 ≤ n := by rw [hF.depth]; intro h; cases h
    rcases hent with ⟨g, fn, fs, cs, hv, hfn, hbd, hnm, hcalls⟩ | ⟨L, g, tmps, as, bd, hv, hy, hrounds⟩
    · have hrun : (execOp a.eval o).run P w = .ok (.enter g (fs ++ (c.args.map a.eval) ++ cs)) w := by
        have hbd' : fn.body.isNone = false := by
          cases hb' : fn.body with
          | none => rw [hb'] at hbd; cases hbd
          | some _ => rfl
        have hnm' : (fn.name == "runtime.NumGoroutine") = false := by simpa using hnm
        unfold execOp
        simp only [hop, resolve, hcl, hv, Deferred.ofValue, Sem.run_bind, Sem.run_pure, Result.andThen_ok, invoke, callFunc, run_program, hfn, hnm', hbd', if_false, Bool.false_eq_true]
      rw [hrun]
      refine ⟨hdep, hF.calls ?_⟩
      have := hcalls (n - 1)
      simp only [Array.toArray_toList] at this
      refine this.mono fun e w' he => ?_
      cases e with
      | returned v' =>
        obtain ⟨x, hx, m', h1, h2, h3⟩ := he
        exact hK x hx v' w' m' h1 h2 h3
      | panicked _ => exact he.elim
      | outgrown => exact he.elim
    · have hrun : (execOp a.eval o).run P w = .ok (.round L g tmps as bd) w := by
        simp only [Array.toArray_toList] at hy
        unfold execOp
        simp only [hop, resolve, hcl, hv, Deferred.ofValue, Sem.run_bind, Sem.run_pure, Result.andThen_ok, invoke, Array.empty_append, hy]
      rw [hrun]
      refine ⟨hdep, hF.rounds ?_⟩
      refine (hrounds (n - 1)).mono fun e w' he => ?_
      cases e with
      | returned v' =>
        obtain ⟨x, hx, m', h1, h2, h3⟩ := he
        exact hK x hx v' w' m' h1 h2 h3
      | panicked _ => exact he.elim
      | outgrown => exact he.elim
end
end Go.Gh
/- The ghost machine: a region's operations, one after the other. -/
namespace Go.Gh
open Go.RowKit
set_option linter.unusedVariables false
set_option linter.unusedSimpArgs false
section
variable {P : Program} {base : Nat} {m : PM} {H : GH} {w : World}

theorem eval_VR {a : GA} {act : Act} (hG : GlobOk m) (h : VRs m a act.tmps.toList) {y : Operand} (hy : opndOk y = true) : VR m (a.eval y) (act.eval y) := by
  cases y with
  | tmp t =>
    have := h.getD t VR.undef
    simp only [GA.eval, Act.eval]
    have e : act.tmps.getD t undef = act.tmps.toList.getD t undef := by rw [List.getD_eq_getElem?_getD, Array.getElem?_toList, Array.getD_eq_getD_getElem?]
    rw [e]
    exact this
  | const v => exact closed_VR hy
  | global g =>
    obtain ⟨p, h1, h2, h3⟩ := hG g hy
    have := VR.ptr (m := m) 0 h1
    rw [h2, h3] at this
    exact this
  | func f => exact .func f #[] #[] #[] #[] rfl (fun i hi => absurd hi (by simp)) rfl (fun i hi => absurd hi (by simp))
theorem put_VRs {a : GA} {act : Act} (h : VRs m a act.tmps.toList) (dst : Option Tmp) {v v' : Value} (hv : VR m v v') : VRs m (a.put dst v) (act.put dst v').tmps.toList := by
  cases dst with
  | none => exact h
  | some d =>
    simp only [GA.put, Act.put, Array.toList_setIfInBounds]
    exact h.set d hv
theorem put_defers (act : Act) (dst : Option Tmp) (v : Value) : (act.put dst v).defers = act.defers := by cases dst <;> rfl
theorem wanted_eq {ops : Array Oper} {a : GA} {tmps : Array Value} {o : Oper} {b : Bool} (hg : gWanted ops.toList a o = some b)
    (h : ∀ g want d, o.guard = some (g, want) → (ops[g]?).bind (·.dst) = some d → ∀ v, a[d]? = some v → ∃ v', tmps[d]? = some v' ∧ VR m v v') : Region.wanted o (yielded ops tmps) = b := by
  unfold gWanted at hg
  unfold Region.wanted
  split at hg
  · next e => injection hg with hg; rw [e]; exact hg
  · next j want e =>
    rw [e]
    simp only
    split at hg
    · next c hc =>
      injection hg with hcb
      unfold gYield at hc
      split at hc
      · next o' ho' =>
        split at hc
        · next d hd =>
          split at hc
          · next b' hb' =>
            injection hc with hc
            subst hc
            rw [Array.getElem?_toList] at ho'
            obtain ⟨v', h1, h2⟩ := h j want d e (by rw [ho']; exact hd) _ hb'
            cases h2
            have : yielded ops tmps j = some b' := by
              unfold yielded
              rw [ho']
              simp [hd, h1]
            rw [this, ← hcb]
            simp
          · cases hc
        · cases hc
      · cases hc
    · split at hg
      · next hp =>
        injection hg with hcb
        unfold gPassed at hp
        split at hp
        · next o' ho' =>
          split at hp
          · next d hd =>
            split at hp
            · next vs hb' =>
              rw [Array.getElem?_toList] at ho'
              obtain ⟨v', h1, h2⟩ := h j want d e (by rw [ho']; exact hd) _ hb'
              cases h2
              have : yielded ops tmps j = none := by
                unfold yielded
                rw [ho']
                simp [hd, h1]
              rw [this, ← hcb]
              simp
            · cases hp
          · cases hp
        · cases hp
      · cases hg

theorem onGrd_some {β : Type} {g : Bool} {v : Value} {m : M β} {o : List β} (h : onGrd g v m = some o) : m = some o := by
  unfold onGrd at h
  cases g with
  | false => exact h
  | true => cases v <;> first | exact h | cases h

theorem gOps_sound {F : Fence} (hF : FenceOk F) {call : Handle} (hc : HOk P call) {n : Nat} {ops : Array Oper} {Q : Exit → Act → World → Prop} {β : Type} : ∀ (rest : List Oper) {i : Nat} {K : GA → GH → M β} {outs : List β} {a : GA} {m : PM} {H : GH} {w : World} {act : Act},
    (∀ o ∈ rest, opOk o = true) → gOps P 0 call ops.toList i rest a H K = some outs → VRs m a act.tmps.toList → Rel P base m H w → base ≤ w.heap.size →
    (∀ a' H' m' act' w' o, K a' H' = some o → o ⊆ outs → VRs m' a' act'.tmps.toList → Rel P base m' H' w' → Go1 base m m' H H' w w' → act'.defers = act.defers → Q .normal act' w') →
    wpListIn F n P ops Q rest act w := by
  intro rest
  induction rest with
  | nil =>
    intro i K outs a m H w act _ h hA hR hb hK
    exact hK a H m act w outs h (fun _ hx => hx) hA hR (.refl _ _ _ _) rfl
  | cons o rest ih =>
    intro i K outs a m H w act hok h hA hR hb hK
    unfold gOps at h
    have hw : ∃ b, gWanted ops.toList a o = some b := by
      cases hg : gWanted ops.toList a o with
      | none => rw [hg] at h; cases h
      | some b => exact ⟨b, rfl⟩
    obtain ⟨b, hw⟩ := hw
    have hwr : Region.wanted o (yielded ops act.tmps) = b := wanted_eq (m := m) hw fun g want d _ _ v hv => by
      obtain ⟨v', h1, h2⟩ := hA.get? hv
      rw [Array.getElem?_toList] at h1
      exact ⟨v', h1, h2⟩
    rw [hw] at h
    unfold wpListIn
    rw [hwr]
    cases b with
    | true =>
      simp only [onBool] at h
      simp only [if_true]
      obtain ⟨l, hl, _, hout⟩ := Nat1.gStep P 0 call a.eval o H _ _ _ h
      have hoo := hok o (by simp)
      refine op_wpIn hF hc hl (fun y hy => eval_VR hR.glob hA (List.all_eq_true.1 hoo y hy)) hR hb fun x hx v' w' m' h1 h2 h3 => ?_
      obtain ⟨o2, ho2, hs2⟩ := hout x hx
      refine ih (fun o ho => hok o (by simp [ho])) (onGrd_some ho2) (put_VRs (hA.mono h3.le) _ h1) h2 (Nat.le_trans hb h3.keep.size) fun a' H' m2 act' w2 o3 hk hs hA' hR' hG hdf => ?_
      exact hK a' H' m2 act' w2 o3 hk (fun z hz => hs2 (hs hz)) hA' hR' (h3.trans hG) (hdf.trans (put_defers _ _ _))
    | false =>
      simp only [onBool] at h
      simp only [Bool.false_eq_true, if_false]
      refine ⟨fun f _ => hF.fn f, ih (fun o ho => hok o (by simp [ho])) h (put_VRs hA _ VR.undef) hR hb fun a' H' m2 act' w2 o3 hk hs hA' hR' hG hdf => ?_⟩
      exact hK a' H' m2 act' w2 o3 hk hs hA' hR' hG (hdf.trans (put_defers _ _ _))
end
end Go.Gh
