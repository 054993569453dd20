/- The ghost machine: one operation that is no call goes on together with the model's. -/
import Derived.Test.YthicilkmjamefaaGfStep
namespace Go.Gh
open Go.RowKit
set_option linter.unusedVariables false
set_option linter.unusedSimpArgs false
section
variable {P : Program} {base : Nat} {m : PM} {H : GH} {w : World}

/-- What an operation comes to: one of the outcomes. -/
def NextOk (P : Program) (base : Nat) (m : PM) (H : GH) (w : World) (s : Sem Next) (l : List (Value × GH)) : Prop :=
  ∃ x ∈ l, ∃ v' w' m', (s.run P w = .ok (.value v') w' ∨ (s.run P w = .ok .skip w' ∧ v' = undef)) ∧ VR m' x.1 v' ∧ Rel P base m' x.2 w' ∧ Go1 base m m' H x.2 w w'

theorem NextOk.pure {s : Sem Value} {v v' : Value} (hs : s.run P w = .ok v' w) (hv : VR m v v') (hR : Rel P base m H w) : NextOk P base m H w (do Pure.pure (Next.value (← s))) [(v, H)] :=
  ⟨_, List.mem_singleton.2 rfl, v', w, m, .inl (by simp [hs]), hv, hR, .refl _ _ _ _⟩
theorem NextOk.ofV {s : Sem Value} {v : Value} {H' : GH} (h : StepV P base m H w s v H') : NextOk P base m H w (do Pure.pure (Next.value (← s))) [(v, H')] := by
  obtain ⟨v', w', m', h1, h2, h3, h4⟩ := h
  exact ⟨_, List.mem_singleton.2 rfl, v', w', m', .inl (by simp [h1]), h2, h3, h4⟩
theorem NextOk.ofU {s : Sem Unit} {H' : GH} (h : StepU P base m H w s H') : NextOk P base m H w (do s; Pure.pure Next.skip) [(undef, H')] := by
  obtain ⟨w', m', h1, h3, h4⟩ := h
  exact ⟨_, List.mem_singleton.2 rfl, undef, w', m', .inr ⟨by simp [h1], rfl⟩, VR.undef, h3, h4⟩
theorem NextOk.ofO {s : Sem Value} {l : List (Value × GH)} (h : StepO P base m H w s l) : NextOk P base m H w (do Pure.pure (Next.value (← s))) l := by
  obtain ⟨x, hx, v', w', m', h1, h2, h3, h4⟩ := h
  exact ⟨x, hx, v', w', m', .inl (by simp [h1]), h2, h3, h4⟩

theorem onV_ret {x : Option Value} {l : List (Value × GH)} (h : (onV x fun v => gRet v H) = some l) : ∃ v, x = some v ∧ l = [(v, H)] := by
  cases x with
  | none => cases h
  | some v => injection h with h; exact ⟨v, rfl, h.symm⟩
theorem onVH_ret {x : Option (Value × GH)} {l : List (Value × GH)} (h : onVH x gRet = some l) : ∃ v H', x = some (v, H') ∧ l = [(v, H')] := by
  cases x with
  | none => cases h
  | some v => injection h with h; exact ⟨v.1, v.2, rfl, h.symm⟩
theorem onH_ret {x : Option GH} {v : Value} {l : List (Value × GH)} (h : (onH x fun H => gRet v H) = some l) : ∃ H', x = some H' ∧ l = [(v, H')] := by
  cases x with
  | none => cases h
  | some v => injection h with h; exact ⟨v, rfl, h.symm⟩
theorem onNext_ret {d : Nat} {x : M (Value × GH)} {l : List (Value × GH)} (h : onNext d x gRet = some l) : x = some l := by
  unfold onNext at h
  split at h
  · obtain ⟨l', hl, hf⟩ := bindM_some h
    rw [hl] at h ⊢
    have e : bindM (some l') (fun x => gRet x.1 x.2) = some l' := bindM_ret l'
    rw [e] at h
    exact h
  · split at h
    · injection h with h; rw [← h]
    · cases h
theorem filter_closed {x : Option Value} {v : Value} (h : x.filter closed = some v) : x = some v ∧ closed v = true := by
  cases x with
  | none => cases h
  | some u =>
    simp only [Option.filter] at h
    split at h
    · next hc => injection h with h; subst h; exact ⟨rfl, hc⟩
    · cases h
theorem mapA_VRs {ρ ρ' : Operand → Value} {xs : Array Operand} (h : ∀ x ∈ xs.toList, VR m (ρ x) (ρ' x)) : VRs m (mapA ρ xs).toList (xs.map ρ').toList := by
  simp only [mapA, Array.toList_map]
  exact VRs.map h
theorem oMinMax_VR {mx : Bool} {xs ys : List Value} {r : Value} (h : oMinMax P mx xs = some r) (hv : VRs m xs ys) (tys : Array TypeId) (ty : TypeId) :
    (if mx then Builtin.max_ tys ty ys.toArray else Builtin.min_ tys ty ys.toArray).run P w = .ok r w := by
  unfold oMinMax at h
  split at h
  · next hc =>
    have e := VRs.eq_of (p := closed) (fun h hc => h.closed_eq hc) hv hc
    subst e
    have := quick_run _ _ h w
    cases mx <;> exact this
  · cases h
theorem VRs.list1 {x : Value} {ys : List Value} (h : VRs m [x] ys) : ∃ y, ys = [y] ∧ VR m x y := by
  match ys, h with
  | [y], h => exact ⟨y, rfl, h.head⟩
  | [], h => exact absurd h.1 (by simp)
  | _ :: _ :: _, h => exact absurd h.1 (by simp)
theorem VRs.list2 {x x2 : Value} {ys : List Value} (h : VRs m [x, x2] ys) : ∃ y y2, ys = [y, y2] ∧ VR m x y ∧ VR m x2 y2 := by
  match ys, h with
  | [y, y2], h => exact ⟨y, y2, rfl, h.head, h.tail.head⟩
  | [], h => exact absurd h.1 (by simp)
  | [_], h => exact absurd h.1 (by simp)
  | _ :: _ :: _ :: _, h => exact absurd h.1 (by simp)
theorem list_toArray {α : Type} {xs : Array α} {l : List α} (h : xs.toList = l) : xs = l.toArray := by rw [← h]

theorem gBuiltin_run {b : Builtin} {tys : Array TypeId} {ty : TypeId} {cs : Array Bool} {xs : List Value} {ys : Array Value} {l : List (Value × GH)} (h : gBuiltin P b tys.toList xs H gRet = some l)
    (hv : VRs m xs ys.toList) (hR : Rel P base m H w) (hb : base ≤ w.heap.size) : NextOk P base m H w (builtin b tys ty cs ys) l := by
  unfold gBuiltin at h
  split at h
  · next t x ht =>
    have et := list_toArray ht
    subst et
    obtain ⟨y, hy, hx⟩ := hv.list1
    have ey := list_toArray hy
    subst ey
    split at h
    · next kt et hu =>
      obtain ⟨v, hv', rfl⟩ := onV_ret h
      obtain ⟨⟨r, es, clock⟩, hg, rfl⟩ := Option.map_eq_some_iff.1 hv'
      exact NextOk.pure (gMapLen_run hu hg hx hR) (.int _ _) hR
    · obtain ⟨v, hv', rfl⟩ := onV_ret h
      exact NextOk.pure (oLen_VR hv' hx ty) (by unfold oLen at hv'; split at hv' <;> first | (injection hv' with hv'; subst hv'; exact .int _ _) | cases hv') hR
  · next t x ht =>
    have et := list_toArray ht
    subst et
    obtain ⟨y, hy, hx⟩ := hv.list1
    have ey := list_toArray hy
    subst ey
    obtain ⟨v, hv', rfl⟩ := onV_ret h
    refine NextOk.pure (oCap_VR hv' hx ty) ?_ hR
    unfold oCap at hv'
    split at hv'
    · split at hv'
      · injection hv' with hv'; subst hv'; exact .int _ _
      · cases hv'
    · injection hv' with hv'; subst hv'; exact .int _ _
    · cases hv'
  · next st xt s x ht =>
    have et := list_toArray ht
    subst et
    obtain ⟨y, y2, hy, hx, hx2⟩ := hv.list2
    have ey := list_toArray hy
    subst ey
    obtain ⟨v, H', hv', rfl⟩ := onVH_ret h
    exact NextOk.ofV (gAppend_step hv' hx hx2 hR hb)
  · next dt rest d s ht =>
    have et : tys[0]? = some dt := by rw [← Array.getElem?_toList, ht]; rfl
    obtain ⟨y, y2, hy, hx, hx2⟩ := hv.list2
    have ey := list_toArray hy
    subst ey
    obtain ⟨v, H', hv', rfl⟩ := onVH_ret h
    exact NextOk.ofV (gCopy_step (s0 := ty) hv' hx hx2 hR tys et)
  · next t x ht =>
    have et := list_toArray ht
    subst et
    obtain ⟨y, hy, hx⟩ := hv.list1
    have ey := list_toArray hy
    subst ey
    obtain ⟨H', hv', rfl⟩ := onH_ret h
    exact NextOk.ofV (gClear_step hv' hx hR)
  · next t rest x k ht =>
    have et : tys[0]? = some t := by rw [← Array.getElem?_toList, ht]; rfl
    obtain ⟨y, y2, hy, hx, hx2⟩ := hv.list2
    have ey := list_toArray hy
    subst ey
    obtain ⟨H', hv', rfl⟩ := onH_ret h
    exact NextOk.ofV (gDelete_step hv' hx hx2 hR tys et)
  · obtain ⟨v, hv', rfl⟩ := onV_ret h
    obtain ⟨h1, h2⟩ := filter_closed hv'
    have := oMinMax_VR (w := w) h1 hv tys ty
    exact NextOk.pure (by simpa using this) (closed_VR h2) hR
  · obtain ⟨v, hv', rfl⟩ := onV_ret h
    obtain ⟨h1, h2⟩ := filter_closed hv'
    have := oMinMax_VR (w := w) h1 hv tys ty
    exact NextOk.pure (by simpa using this) (closed_VR h2) hR
  · cases h
theorem Go1.requiet {m' : PM} {H1 : GH} {w' : World} (hR : Rel P base m H w) (h : Go1 base m m' { H with lo := H.n } H1 w w') (hl : H1.lo = H.n) : Go1 base m m' H { H1 with lo := H.lo } w w' where
  le := h.le
  newId := h.newId
  fresh b p hb h0 := by
    rcases h.fresh b p hb h0 with hs | ⟨c, q, hc, hq, hlo⟩
    · exact .inl hs
    · have := hR.id_lt hc; omega
  frame B hB hf := h.frame B hB fun b p hb hp => by have := hR.id_lt hb; omega
  below := h.below
  keep := h.keep
  n := h.n
  lo := Nat.le_refl _
  same b hb _ := h.same b hb (by omega)
theorem gAppendQ_step {st xt ty : TypeId} {s s' x x' v : Value} {H' : GH} (h : gAppendQ P st xt s x H = some (v, H')) (hs : VR m s s') (hx : VR m x x') (hR : Rel P base m H w) (hb : base ≤ w.heap.size) :
    StepV P base m H w (Builtin.append_ #[st, xt] ty #[s', x']) v H' := by
  unfold gAppendQ at h
  split at h
  · next v1 H1 h1 =>
    split at h
    · next hl =>
      simp only [Option.some.injEq, Prod.mk.injEq] at h
      obtain ⟨rfl, rfl⟩ := h
      obtain ⟨v', w', m', h2, h3, h4, h5⟩ := gAppend_step (ty := ty) h1 hs hx (hR.lo H.n) hb
      exact ⟨v', w', m', h2, h3, h4.lo _, Go1.requiet hR h5 hl⟩
    · cases h
  · cases h
theorem gBuiltinQ_run {tys : Array TypeId} {ty : TypeId} {cs : Array Bool} {xs : List Value} {ys : Array Value} {l : List (Value × GH)} (h : gBuiltinQ P tys.toList xs H gRet = some l)
    (hv : VRs m xs ys.toList) (hR : Rel P base m H w) (hb : base ≤ w.heap.size) : NextOk P base m H w (builtin .append tys ty cs ys) l := by
  unfold gBuiltinQ at h
  split at h
  · next st xt s x ht =>
    have et := list_toArray ht
    subst et
    obtain ⟨y, y2, hy, hx, hx2⟩ := hv.list2
    have ey := list_toArray hy
    subst ey
    obtain ⟨v, H', hv', rfl⟩ := onVH_ret h
    exact NextOk.ofV (gAppendQ_step hv' hx hx2 hR hb)
  · cases h
end
end Go.Gh
