/- The ghost machine with closed calls: a function that takes nothing and has been evaluated over the empty heap answers at once, whatever the heap. -/
import Derived.Test.YthicilkmjamefaaGjCallB
namespace Go.Gh
open Go.RowKit
set_option linter.unusedVariables false
set_option linter.unusedSimpArgs false

def GH.empty : GH := { objs := [], n := 0, lo := 0 }
/-- A call: cl: what the closed functions answer. -/
def gCallC (P : Program) (T : Nat → Option Func) (cl : Nat → Option Value) : Nat → Handle
  | 0 => fun _ _ _ => none
  | k + 1 => fun fv args H =>
    match fv with
    | .func (.func f) first captured => match T f with
      | some fn => gFunc P (gCallC P T cl k) k fn (first.toList ++ args ++ captured.toList) H
      | none => match cl f, first.toList ++ args ++ captured.toList with
        | some v, [] => some [(v, H)]
        | _, _ => none
    | .func (.yield l) _ _ => gRound P (gCallC P T cl k) k l args H
    | _ => none

section
variable {P : Program}
def TabOk (P : Program) (T : Nat → Option Func) : Prop := ∀ f fn, T f = some fn → P.funcs[f]? = some fn ∧ funcOk fn = true
/-- The closed answers are right. -/
def ClOk (P : Program) (cl : Nat → Option Value) : Prop := ∀ f v, cl f = some v → closed v = true ∧ ∃ T k outs, TabOk P T ∧ gCall P T k (.func (.func f) #[] #[]) [] GH.empty = some outs ∧ ∀ x ∈ outs, x.1 = v
theorem Rel.empty (base : Nat) (w : World) : Rel P base (fun _ => none) GH.empty w := ⟨fun b p h => (by cases h), fun b c p q _ h => (by cases h)⟩
theorem gCallC_ok (hmix : P.follows .mixedOrders = true) {T : Nat → Option Func} (hT : TabOk P T) {cl : Nat → Option Value} (hcl : ClOk P cl) : ∀ k, HOk P (gCallC P T cl k) := by
  intro k
  induction k with
  | zero => intro fv args H outs h; cases h
  | succ k ih =>
    intro fv args H outs h base m w fv' args' hv ha hR hb
    unfold gCallC at h
    split at h
    · next f first captured =>
      split at h
      · next fn hfn =>
        obtain ⟨h1, h2⟩ := hT f fn hfn
        cases hv with
        | func _ _ gs _ es q1 q2 q3 q4 =>
        have hname : fn.name ≠ "runtime.NumGoroutine" := by
          unfold funcOk at h2
          simp only [Bool.and_eq_true, bne_iff_ne] at h2
          exact h2.2
        have hbody : fn.body.isSome = true := by
          unfold gFunc at h
          split at h
          · next c hc => rw [hc]; rfl
          · cases h
        refine .inl ⟨f, fn, gs, es, rfl, h1, hbody, hname, fun n => ?_⟩
        have hargs : VRs m (first.toList ++ args ++ captured.toList) (gs.toList ++ args' ++ es.toList) := ((VRs.toArr q1 q2).append ha).append (VRs.toArr q3 q4)
        have := func_sound (n := n) ih hmix h1 h2 h hargs hR hb
        have e : (gs.toList ++ args' ++ es.toList).toArray = gs ++ args'.toArray ++ es := by
          apply Array.ext'
          simp
        rw [e] at this
        exact this
      · split at h
        · next v hclf hnil =>
          injection h with h
          subst h
          obtain ⟨hc, T', k', outs', hT', he, hall⟩ := hcl f v hclf
          simp only [List.append_eq_nil_iff] at hnil
          obtain ⟨⟨n1, n2⟩, n3⟩ := hnil
          subst n2
          have f0 : first = #[] := by simpa using n1
          have c0 : captured = #[] := by simpa using n3
          subst f0
          subst c0
          have ha' : args' = [] := by
            have := ha.1
            exact List.length_eq_zero_iff.1 (by simpa using this.symm)
          subst ha'
          have hfv : fv' = .func (.func f) #[] #[] := by
            cases hv with
            | func _ _ gs _ es q1 q2 q3 q4 =>
              have g0 : gs = #[] := by simpa using q1.symm
              have e0 : es = #[] := by simpa using q3.symm
              rw [g0, e0]
          subst hfv
          have h1 := gCall_ok hmix hT' k' _ _ _ _ he base (fun _ => none) w (.func (.func f) #[] #[]) []
            (.func f #[] #[] #[] #[] rfl (fun i hi => absurd hi (by simp)) rfl (fun i hi => absurd hi (by simp))) .nil (Rel.empty base w) hb
          refine h1.mono fun v' w' ⟨x, hx, m', g1, g2, g3⟩ => ?_
          rw [hall x hx] at g1
          have ev := g1.closed_eq hc
          subst ev
          have hsame : ∀ B, B < w.heap.size → w'.heap[B]? = w.heap[B]? := fun B hB => g3.frame B hB fun b p hb => by cases hb
          refine ⟨_, List.mem_singleton.2 rfl, m, closed_VR hc, ⟨fun b p hb => ?_, hR.inj⟩, ⟨.refl m, fun b p h h' => (by rw [h] at h'; cases h'), fun b p h h' => (by rw [h] at h'; cases h'), fun B hB _ => hsame B hB, g3.below, g3.keep, Nat.le_refl _, Nat.le_refl _, fun _ _ _ => rfl⟩⟩
          obtain ⟨o, r, q1, q2, q3⟩ := hR.obj b p hb
          exact ⟨o, r, q1, (hsame _ (Array.getElem?_eq_some_iff.1 q2).1).trans q2, q3⟩
        · cases h
    · next l _ _ =>
      cases hv with
      | yield hp =>
        rename_i p
        obtain ⟨f, tmps, as, bd, h1, _⟩ := round_sound (n := 0) ih hmix h hp ha hR hb
        refine .inr ⟨p.blk, f, tmps, as, bd, rfl, h1, fun n => ?_⟩
        obtain ⟨f', tmps', as', bd', h3, h4⟩ := round_sound (n := n) ih hmix h hp ha hR hb
        rw [h1] at h3
        injection h3 with h3 _
        injection h3 with _ e1 e2 e3 e4
        subst e1; subst e2; subst e3; subst e4
        exact h4
    · cases h
/-- An evaluation all of whose outcomes are true: the call returns true, and nothing that was there has been turned. -/
theorem top_callsC (hmix : P.follows .mixedOrders = true) {T : Nat → Option Func} (hT : TabOk P T) {cl : Nat → Option Value} (hcl : ClOk P cl) {k : Nat} {f : FuncId} {args : List Value} {H : GH} {outs : List (Value × GH)}
    (h : gCallC P T cl k (.func (.func f) #[] #[]) args H = some outs) (hall : ∀ x ∈ outs, x.1 = .bool true) {m : PM} {W : World} {args' : Array Value} (ha : VRs m args args'.toList) (hR : Rel P W.heap.size m H W) :
    Calls P f args' W fun e w' => e = .returned (.bool true) ∧ Below W.heap.size W w' := by
  have h1 := gCallC_ok hmix hT hcl k _ _ _ _ h W.heap.size m W (.func (.func f) #[] #[]) args'.toList
    (.func f #[] #[] #[] #[] rfl (fun i hi => absurd hi (by simp)) rfl (fun i hi => absurd hi (by simp))) ha hR (Nat.le_refl _)
  rcases h1 with ⟨f', fn, fs, cs, e, h2, h3, h4, h5⟩ | ⟨L, f', tmps, as, bd, e, _⟩
  · injection e with e1 e2 e3
    injection e1 with e1
    subst e1; subst e2; subst e3
    have h6 := callsIn_wide.1 (h5 0)
    have e : (#[] ++ args'.toList.toArray ++ #[] : Array Value) = args' := by simp
    rw [e] at h6
    refine h6.mono fun e w' he => ?_
    cases e with
    | returned v =>
      obtain ⟨x, hx, m', hv, _, hG⟩ := he
      rw [hall x hx] at hv
      cases hv
      exact ⟨rfl, hG.below⟩
    | panicked _ => exact he.elim
    | outgrown => exact he.elim
  · cases e
end
end Go.Gh
