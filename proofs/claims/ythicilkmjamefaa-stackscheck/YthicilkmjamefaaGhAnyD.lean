/- The ghost machine: regions whose order is drawn: the whole region. -/
import Derived.Test.YthicilkmjamefaaGhAnyC
namespace Go.Gh
open Go.RowKit
set_option linter.unusedVariables false
set_option linter.unusedSimpArgs false

section
variable {P : Program} {base : Nat} {m : PM} {w : World} {d c : Nat} {call : Handle} {ops : Array Oper} {as : Nat → GA} {hs : Nat → GH} {vs : Nat → Value} {m0 : PM} {w0 : World} {act0 : Act} {listed : Array Bool} {act : Act} {ν0 ν : Nat}

theorem VRs.of_opt {m : PM} {xs ys : List Value} (h : ∀ t : Nat, OptVR m xs[t]? ys[t]?) : VRs m xs ys := by
  have hl : xs.length = ys.length := by
    rcases Nat.lt_trichotomy xs.length ys.length with hlt | heq | hgt
    · have := h xs.length
      rw [List.getElem?_eq_none (Nat.le_refl _), List.getElem?_eq_getElem hlt] at this
      exact this.elim
    · exact heq
    · have := h ys.length
      rw [List.getElem?_eq_none (l := ys) (Nat.le_refl _), List.getElem?_eq_getElem hgt] at this
      exact this.elim
  refine VRs.of_get? hl fun i u v hu hv => ?_
  have := h i
  rw [hu, hv] at this
  exact this
theorem VRs.opt {m : PM} {xs ys : List Value} (h : VRs m xs ys) (t : Nat) : OptVR m xs[t]? ys[t]? := by
  cases hx : xs[t]? with
  | none =>
    rw [List.getElem?_eq_none_iff] at hx
    rw [List.getElem?_eq_none (by rw [← h.1]; exact hx)]
    trivial
  | some u =>
    obtain ⟨v, hv, hr⟩ := h.get? hx
    rw [hv]
    exact hr

/-- Nothing ready: all have been carried out. -/
theorem all_listed (hE : edgesOk ops = true) (hsz : listed.size = ops.size) (hr : Region.ready .any ops listed = []) : ∀ k, k < ops.size → listed.getD k false = true := by
  intro k
  induction k using Nat.strongRecOn with
  | _ k ih =>
    intro hk
    cases hl : listed.getD k false with
    | true => rfl
    | false =>
      have : k ∈ Region.ready .any ops listed := mem_ready.2 ⟨by
        rw [Array.getD_eq_getD_getElem?, Array.getElem?_eq_getElem (by omega)] at hl ⊢
        exact hl, ops[k], Array.getElem?_eq_getElem hk, fun e he hb => by
          have hlt := edgesOk_spec hE (Array.getElem?_eq_getElem hk) e he hb
          exact ih e.on hlt (by omega)⟩
      rw [hr] at this
      cases this

theorem Inv.done {Q : Exit → Act → World → Prop} (I : Inv P base d c ops as hs m0 w0 act0 listed act w m ν0 ν) (T : Trace P d call ops.toList ops.toList as hs vs) (hcd : (c = 1 ∧ d = 2) ∨ (c = 2 ∧ d = 1) ∨ (c = d ∧ 3 ≤ d))
    (hall : ∀ k, k < ops.size → listed.getD k false = true)
    (hend : ∀ act' w' m', VRs m' (as ops.size) act'.tmps.toList → Rel P base m' (hs ops.size) w' → Go1 base m0 m' (hs 0) (hs ops.size) w0 w' → act'.defers = act0.defers → Q .normal act' w') : Q .normal act w := by
  have I1 := I.shift T hcd (ν' := ops.size) I.hν (Nat.le_refl _) fun k o hk hge hlt h2 => by
    have := I.rest k o hk hge (by omega)
    rw [hall k hlt] at this; cases this
  refine hend act w m (VRs.of_opt fun t => ?_) (I1.rel T hcd) I1.go I1.defs
  have := I1.tmp t ops.size (Nat.le_refl _) fun i o hi _ => ⟨fun h => hall i h, fun _ => (Array.getElem?_eq_some_iff.1 hi).1⟩
  have e : act.tmps.toList[t]? = act.tmps[t]? := Array.getElem?_toList
  rw [e]
  exact this.mono (lim_le _ _)

theorem any_sound {F : Fence} (hF : FenceOk F) (hc : HOk P call) {n : Nat} {Q : Exit → Act → World → Prop}
    (T : Trace P d call ops.toList ops.toList as hs vs) (hcd : (c = 1 ∧ d = 2) ∨ (c = 2 ∧ d = 1) ∨ (c = d ∧ 3 ≤ d)) (hE : edgesOk ops = true)
    (hM : memOk P c ops = true) (hT : tmpsOk ops = true) (hok : ∀ (j : Nat) (o : Oper), ops[j]? = some o → opOk o = true) (hb0 : base ≤ w0.heap.size)
    (hend : ∀ act' w' m', VRs m' (as ops.size) act'.tmps.toList → Rel P base m' (hs ops.size) w' → Go1 base m0 m' (hs 0) (hs ops.size) w0 w' → act'.defers = act0.defers → Q .normal act' w') :
    ∀ (fuel : Nat) (listed : Array Bool) (act : Act) (w : World) (m : PM) (ν0 ν : Nat), Inv P base d c ops as hs m0 w0 act0 listed act w m ν0 ν → listed.toList.count false ≤ fuel → wpAnyIn F n P .any ops Q fuel listed act w := by
  intro fuel
  induction fuel with
  | zero =>
    intro listed act w m ν0 ν I hcnt
    have hall : ∀ k, k < ops.size → listed.getD k false = true := fun k hk => by
      have h0 : listed.toList.count false = 0 := by omega
      rw [List.count_eq_zero] at h0
      have hkl : k < listed.size := by rw [I.sz]; exact hk
      rw [Array.getD_eq_getD_getElem?, Array.getElem?_eq_getElem hkl]
      cases hv : listed[k] with
      | true => rfl
      | false => exact absurd (by rw [← hv]; simp) h0
    refine ⟨?_, I.done T hcd hall hend⟩
    cases hr : Region.ready .any ops listed with
    | nil => rfl
    | cons j js =>
      have hj : j ∈ Region.ready .any ops listed := by rw [hr]; simp
      have h1 := ready_un hj
      obtain ⟨_, o, ho, _⟩ := mem_ready.1 hj
      rw [hall j (Array.getElem?_eq_some_iff.1 ho).1] at h1
      cases h1
  | succ fuel ih =>
    intro listed act w m ν0 ν I hcnt
    refine ⟨fun hr => I.done T hcd (all_listed hE I.sz hr) hend, fun j hj => ?_⟩
    refine I.op hF hc T hcd hM hT hok (Nat.le_trans hb0 I.go.keep.size) hj fun act' w' m' ν0' ν' I' => ih _ _ _ _ _ _ I' ?_
    have hun := ready_un hj
    obtain ⟨_, o, ho, _⟩ := mem_ready.1 hj
    have hjl : j < listed.toList.length := by rw [Array.length_toList, I.sz]; exact (Array.getElem?_eq_some_iff.1 ho).1
    have hv : listed.toList[j] = false := by
      rw [Array.getD_eq_getD_getElem?, Array.getElem?_eq_getElem (by simpa using hjl)] at hun
      simpa using hun
    rw [Array.toList_setIfInBounds, List.count_set hjl, hv]
    have : 0 < listed.toList.count false := List.count_pos_iff.2 (hv ▸ List.getElem_mem hjl)
    rw [if_pos (by rfl), if_neg (by decide)]
    omega

theorem region_any {F : Fence} (hF : FenceOk F) (hc : HOk P call) (hmix : P.follows .mixedOrders = true) {n id : Nat} {β : Type} {Q : Exit → Act → World → Prop} {K : GA → GH → M β} {outs : List β} {a : GA} {H : GH}
    (hcd : (c = 1 ∧ d = 2) ∨ (c = 2 ∧ d = 1) ∨ (c = d ∧ 3 ≤ d)) (hE : edgesOk ops = true) (hM : memOk P c ops = true) (hT : tmpsOk ops = true) (hok : ∀ o ∈ ops.toList, opOk o = true)
    (h : gOps P d call ops.toList ops.toList a H K = some outs) (hA : VRs m a act.tmps.toList) (hR : Rel P base m H w) (hb : base ≤ w.heap.size)
    (hK : ∀ a' H' m' act' w' o, K a' H' = some o → o ⊆ outs → VRs m' a' act'.tmps.toList → Rel P base m' H' w' → Go1 base m m' H H' w w' → act'.defers = act.defers → Q .normal act' w') :
    (Code.region id ops true).wpIn F n P Q act w := by
  refine wpIn_region_any hmix ?_
  obtain ⟨as, hs, vs, h1, h2, T, o, ho, hsub⟩ := trace_of (by omega) ops.toList h
  have hR0 : Rel P base m (hs 0) { w with drawn := w.drawn + 1 } := by rw [h2]; exact hR.drew rfl
  have hm0 : ∀ b p, m b = some p → b < (hs 0).n := fun b p hb => hR0.id_lt hb
  have hlim : ∀ N, (hs 0).n ≤ N → lim m N = m := fun N hN => by
    funext b
    unfold lim
    split
    · rfl
    · cases hb : m b with
      | none => rfl
      | some p => have := hm0 b p hb; omega
  refine any_sound hF hc T hcd hE hM hT (fun j o ho => hok o (List.mem_of_getElem? (by rw [Array.getElem?_toList]; exact ho))) (m0 := m) (w0 := { w with drawn := w.drawn + 1 }) (act0 := act) (base := base) hb (fun act' w' m' g1 g2 g3 g4 => ?_) ops.size _ act _ m 0 0 ?_ ?_
  · rw [← Array.length_toList] at g1 g2 g3
    exact hK _ _ m' act' w' o ho hsub g1 g2 ((Go1.drew (w := w) (w' := { w with drawn := w.drawn + 1 }) rfl rfl rfl rfl).trans (by rw [h2] at g3; exact g3)) g4
  · refine ⟨Nat.zero_le _, Nat.le_refl _, fun k o _ _ h => by omega, .inl rfl, by simp, fun i k hi => ?_, fun k o _ h => by omega, fun k o hk _ _ => ?_, fun k hk0 hk1 => ?_, .refl _ _ _ _, fun b p h => .inl h, fun t k hk hw => ?_, rfl, hm0⟩
    · rw [Array.getD_eq_getD_getElem?, Array.getElem?_replicate] at hi
      split at hi <;> cases hi
    · rw [Array.getD_eq_getD_getElem?, Array.getElem?_replicate]
      split <;> rfl
    · have : k = 0 := by omega
      subst this
      rw [hlim _ (Nat.le_refl _)]; exact hR0
    · have e := T.same (t := t) (i := 0) (j := k) (Nat.zero_le _) hk fun i oi hi _ hik hd => by
        have := (hw i oi hi hd).1 hik
        rw [Array.getD_eq_getD_getElem?, Array.getElem?_replicate] at this
        split at this <;> cases this
      rw [e, h1, hlim _ (T.mono (by omega) (Nat.zero_le _) hk), ← Array.getElem?_toList]
      exact hA.opt t
  · simp [Array.toList_replicate, List.count_replicate]
end
end Go.Gh
