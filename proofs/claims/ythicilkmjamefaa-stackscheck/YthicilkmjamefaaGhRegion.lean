/- The ghost machine: a region's operations, one after the other. -/
import Derived.Test.YthicilkmjamefaaGgOp
namespace Go.Gh
open Go.RowKit
set_option linter.unusedVariables false
set_option linter.unusedSimpArgs false
section
variable {P : Program} {base : Nat} {m : PM} {H : GH} {w : World}

theorem eval_VR {a : GA} {act : Act} (h : VRs m a act.tmps.toList) {y : Operand} (hy : opndOk y = true) : VR m (a.eval y) (act.eval y) := by
  cases y with
  | tmp t =>
    have := h.getD t VR.undef
    simp only [GA.eval, Act.eval]
    have e : act.tmps.getD t undef = act.tmps.toList.getD t undef := by rw [List.getD_eq_getElem?_getD, Array.getElem?_toList, Array.getD_eq_getD_getElem?]
    rw [e]
    exact this
  | const v => exact closed_VR hy
  | global g => simp [opndOk] at hy
  | func f => exact .func f #[] #[] #[] #[] rfl (fun i hi => absurd hi (by simp)) rfl (fun i hi => absurd hi (by simp))
theorem put_VRs {a : GA} {act : Act} (h : VRs m a act.tmps.toList) (dst : Option Tmp) {v v' : Value} (hv : VR m v v') : VRs m (a.put dst v) (act.put dst v').tmps.toList := by
  cases dst with
  | none => exact h
  | some d =>
    simp only [GA.put, Act.put, Array.toList_setIfInBounds]
    exact h.set d hv
theorem put_defers (act : Act) (dst : Option Tmp) (v : Value) : (act.put dst v).defers = act.defers := by cases dst <;> rfl
theorem wanted_eq {ops : Array Oper} {a : GA} {tmps : Array Value} {o : Oper} {b : Bool} (hg : gWanted ops.toList a o = some b)
    (h : ∀ g want d, o.guard = some (g, want) → (ops[g]?).bind (·.dst) = some d → ∀ v, a[d]? = some v → ∃ v', tmps[d]? = some v' ∧ VR m v v') : Region.wanted o (yielded ops tmps) = b := by
  unfold gWanted at hg
  unfold Region.wanted
  split at hg
  · next e => injection hg with hg; rw [e]; exact hg
  · next j want e =>
    rw [e]
    simp only
    obtain ⟨c, hc, hcb⟩ := Option.map_eq_some_iff.1 hg
    unfold gYield at hc
    split at hc
    · next o' ho' =>
      split at hc
      · next d hd =>
        split at hc
        · next b' hb' =>
          injection hc with hc
          subst hc
          rw [Array.getElem?_toList] at ho'
          obtain ⟨v', h1, h2⟩ := h j want d e (by rw [ho']; exact hd) _ hb'
          cases h2
          have : yielded ops tmps j = some b' := by
            unfold yielded
            rw [ho']
            simp [hd, h1]
          rw [this, ← hcb]
          simp
        · cases hc
      · cases hc
    · cases hc

theorem gOps_sound {F : Fence} (hF : FenceOk F) {call : Handle} (hc : HOk P call) {n : Nat} {ops : Array Oper} {Q : Exit → Act → World → Prop} {β : Type} : ∀ (rest : List Oper) {K : GA → GH → M β} {outs : List β} {a : GA} {m : PM} {H : GH} {w : World} {act : Act},
    (∀ o ∈ rest, opOk o = true) → gOps P 0 call ops.toList rest a H K = some outs → VRs m a act.tmps.toList → Rel P base m H w → base ≤ w.heap.size →
    (∀ a' H' m' act' w' o, K a' H' = some o → o ⊆ outs → VRs m' a' act'.tmps.toList → Rel P base m' H' w' → Go1 base m m' H H' w w' → act'.defers = act.defers → Q .normal act' w') →
    wpListIn F n P ops Q rest act w := by
  intro rest
  induction rest with
  | nil =>
    intro K outs a m H w act _ h hA hR hb hK
    exact hK a H m act w outs h (fun _ hx => hx) hA hR (.refl _ _ _ _) rfl
  | cons o rest ih =>
    intro K outs a m H w act hok h hA hR hb hK
    unfold gOps at h
    have hw : ∃ b, gWanted ops.toList a o = some b := by
      cases hg : gWanted ops.toList a o with
      | none => rw [hg] at h; cases h
      | some b => exact ⟨b, rfl⟩
    obtain ⟨b, hw⟩ := hw
    have hwr : Region.wanted o (yielded ops act.tmps) = b := wanted_eq (m := m) hw fun g want d _ _ v hv => by
      obtain ⟨v', h1, h2⟩ := hA.get? hv
      rw [Array.getElem?_toList] at h1
      exact ⟨v', h1, h2⟩
    rw [hw] at h
    unfold wpListIn
    rw [hwr]
    cases b with
    | true =>
      simp only [onBool] at h
      simp only [if_true]
      obtain ⟨l, hl, _, hout⟩ := Nat1.gStep P 0 call a.eval o H _ _ _ h
      have hoo := hok o (by simp)
      refine op_wpIn hF hc hl (fun y hy => eval_VR hA (List.all_eq_true.1 hoo y hy)) hR hb fun x hx v' w' m' h1 h2 h3 => ?_
      obtain ⟨o2, ho2, hs2⟩ := hout x hx
      refine ih (fun o ho => hok o (by simp [ho])) ho2 (put_VRs (hA.mono h3.le) _ h1) h2 (Nat.le_trans hb h3.keep.size) fun a' H' m2 act' w2 o3 hk hs hA' hR' hG hdf => ?_
      exact hK a' H' m2 act' w2 o3 hk (fun z hz => hs2 (hs hz)) hA' hR' (h3.trans hG) (hdf.trans (put_defers _ _ _))
    | false =>
      simp only [onBool] at h
      simp only [Bool.false_eq_true, if_false]
      refine ⟨fun f _ => hF.fn f, ih (fun o ho => hok o (by simp [ho])) h (put_VRs hA _ VR.undef) hR hb fun a' H' m2 act' w2 o3 hk hs hA' hR' hG hdf => ?_⟩
      exact hK a' H' m2 act' w2 o3 hk hs hA' hR' hG (hdf.trans (put_defers _ _ _))
end
end Go.Gh
